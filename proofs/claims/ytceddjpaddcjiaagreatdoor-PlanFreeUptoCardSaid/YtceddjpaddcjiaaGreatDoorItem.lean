/- The walks of field.item and its closure: which numbers an item allows. -/
import Derived.Test.YtceddjpaddcjiaaGreatDoorNum
import Derived.Deep.LoopGhost
namespace Go.Proofs.YtceddjpaddcjiaaGreatDoor
open Go.RowKit
def takeE (k e : Int) (s : ByteArray) : Int := if (numF k s).2 = false then 60 else if e = 0 ∧ ((numF k s).1 < lowF k ∨ highF k < (numF k s).1) then 61 else e
theorem grown_blk {w w' : World} {r k : Nat} {o : Obj} (hg : w.grownBy w' (some r)) (h : w.heap[k]? = some o) (hk : k ≠ r) : w'.heap[k]? = some o :=
  (hg.block k (blk_lt h) (by simpa using hk)).trans h
theorem blk_set {w : World} {k : Nat} {v u : Value} {t : TypeId} (h : w.heap[k]? = some (.cells #[v] t)) : (w.setCell ⟨k, 0, none⟩ u).heap[k]? = some (.cells #[u] t) := by
  obtain ⟨hlt, he⟩ := Array.getElem?_eq_some_iff.1 h
  simp [World.setCell, Array.getElem?_modify, h]
theorem grown_set (w : World) (k : Nat) (u : Value) : w.grownBy (w.setCell ⟨k, 0, none⟩ u) (some k) :=
  ⟨rfl, rfl, rfl, by simp [World.setCell], fun i hi hne => Below.heap_setCell w _ u i (by simpa using hne)⟩
theorem below_grown {w w' : World} (h : Below w.heap.size w w') (r : Option Nat) : w.grownBy w' r := ⟨h.os, h.tape, h.output, h.size, fun i hi _ => h.block i hi⟩
set_option maxHeartbeats 1000000 in
theorem take_any (k e0 : Int) (s : ByteArray) (w : World) (bk be bl bh : Nat) (hs : s.size ≤ 1000) (hE : Env w) (hk : w.heap[bk]? = some (.cells #[.int .i64 k] 3)) (he : w.heap[be]? = some (.cells #[.int .i64 e0] 43))
    (hl : w.heap[bl]? = some (.cells #[.int .i64 (lowF k)] 3)) (hh : w.heap[bh]? = some (.cells #[.int .i64 (highF k)] 3)) :
    Calls Tryz.prog 163 #[.string s, .pointer (some ⟨bk, 0, none⟩), .pointer (some ⟨be, 0, none⟩), .pointer (some ⟨bl, 0, none⟩), .pointer (some ⟨bh, 0, none⟩)] w fun e w' =>
      e = .returned (.int .i64 (numF k s).1) ∧ w.grownBy w' (some be) ∧ w'.heap[be]? = some (.cells #[.int .i64 (takeE k e0 s)] 43) := by
  have ck := blk_cell hk
  go_enter Tryz.func163, Tryz.ntmps163
  go_wp2_with fail
  refine (number_any k s _ hs hE).mono ?_
  rintro e w1 ⟨rfl, hb⟩
  have he1 := blk_keep he hb
  have hl1 := blk_keep hl hb
  have hh1 := blk_keep hh hb
  have ce := blk_cell he1
  have cl := blk_cell hl1
  have ch := blk_cell hh1
  have fe := blk_free he1
  have hg := below_grown hb (some be)
  clear hk hl hh hl1 hh1 ck hE he hb
  have hT : takeE k e0 s = if (numF k s).2 = false then 60 else if e0 = 0 ∧ ((numF k s).1 < lowF k ∨ highF k < (numF k s).1) then 61 else e0 := rfl
  generalize hq : numF k s = p at *
  obtain ⟨n, ok⟩ := p
  have Hq := Lib.hid hq
  clear hq
  have HG := Lib.hid (fun u => World.grownBy.trans hg (grown_set w1 be u))
  have HG0 := Lib.hid hg
  clear hg
  cases ok
  · have HV := Lib.hid (show takeE k e0 s = 60 by rw [hT]; rfl)
    clear hT
    go_wp2
    go_ret
    exact ⟨by rw [Hq.out]; rfl, HG.out _, by rw [HV.out]; exact blk_set he1⟩
  · by_cases h0 : e0 = 0
    · subst h0
      by_cases h1 : n < lowF k
      · have HV := Lib.hid (show takeE k 0 s = 61 by rw [hT, if_neg (by simp), if_pos ⟨rfl, .inl h1⟩])
        clear hT
        go_wp2
        go_ret
        exact ⟨by rw [Hq.out]; rfl, HG.out _, by rw [HV.out]; exact blk_set he1⟩
      · by_cases h2 : highF k < n
        · have HV := Lib.hid (show takeE k 0 s = 61 by rw [hT, if_neg (by simp), if_pos ⟨rfl, .inr h2⟩])
          clear hT
          go_wp2
          go_ret
          exact ⟨by rw [Hq.out]; rfl, HG.out _, by rw [HV.out]; exact blk_set he1⟩
        · have HV := Lib.hid (show takeE k 0 s = 0 by rw [hT, if_neg (by simp), if_neg (by rintro ⟨-, h⟩; omega)])
          clear hT
          go_wp2
          go_ret
          exact ⟨by rw [Hq.out]; rfl, HG0.out, by rw [HV.out]; exact he1⟩
    · have h0' : (e0 == 0) = false := by simpa using h0
      have HV := Lib.hid (show takeE k e0 s = e0 by rw [hT, if_neg (by simp), if_neg (by rintro ⟨h, -⟩; exact h0 h)])
      clear h0 hT
      go_wp2
      go_ret
      exact ⟨by rw [Hq.out]; rfl, HG0.out, by rw [HV.out]; exact he1⟩
/-- A text cut at a byte. -/
def cutA (s : ByteArray) (c : UInt8) : ByteArray := ⟨(Lib.cut s.data.toList [c]).1.toArray⟩
def cutB (s : ByteArray) (c : UInt8) : ByteArray := ⟨(Lib.cut s.data.toList [c]).2.1.toArray⟩
def cutOk (s : ByteArray) (c : UInt8) : Bool := (Lib.cut s.data.toList [c]).2.2
theorem cut_sizes (s : ByteArray) (c : UInt8) : (cutA s c).size ≤ s.size ∧ (cutB s c).size ≤ s.size := by
  have hl : s.data.toList.length = s.size := by rw [Array.length_toList]; rfl
  unfold cutA cutB Lib.cut
  constructor
  · split
    · show (List.toArray _).size ≤ _
      (simp <;> omega)
    · show (List.toArray _).size ≤ _
      (simp <;> omega)
  · split
    · show (List.toArray _).size ≤ _
      (simp <;> omega)
    · show (List.toArray _).size ≤ _
      (simp <;> omega)
theorem cut_any (s : ByteArray) (c : UInt8) (w : World) (hs : s.size ≤ 1000) (hE : Env w) :
    Calls Tryz.prog 165 #[.string s, .string ⟨#[c]⟩] w fun e w' => e = .returned (.tuple #[.string (cutA s c), .string (cutB s c), .bool (cutOk s c)]) ∧ Below w.heap.size w w' := by
  obtain ⟨m, hm⟩ := hE.maxLen
  refine (Tryz.strings_Cut s ⟨#[c]⟩ m w (by omega) hm).mono ?_
  rintro e w' ⟨rfl, n, rfl⟩
  exact ⟨rfl, drewN_keep _ _⟩
def setF : Nat → Int → Int → Int → Int → Int → Int
  | 0, set, _, _, _, _ => set
  | f + 1, set, n, last, step, most => if n ≤ last then setF f (bits .or .u64 set (IntKind.u64.wrap (2 ^ (n % (most + 1)).toNat))) (n + step) last step most else set
/-- What an item allows, of its ends; the error's number. -/
def itemE (k first last step e : Int) : Int × Int :=
  if e ≠ 0 then (0, e) else if last < first ∨ step < 1 ∨ 59 < step then (0, 61) else (setF 200 0 first last step (mostF k), 0)
def stepF (s : ByteArray) : Int := if cutOk s 47 then (numF 0 (cutB s 47)).1 else 1
/-- What an item allows: the numbers as bits, and the error's number. -/
def itemF (k : Int) (s : ByteArray) : Int × Int :=
  if cutOk s 47 = true ∧ (numF 0 (cutB s 47)).2 = false then (0, 60)
  else if cutA s 47 = ⟨#[42]⟩ then itemE k (lowF k) (mostF k) (stepF s) 0
  else if cutOk s 47 = true ∧ cutOk (cutA s 47) 45 = false then (0, 60)
  else if cutOk (cutA s 47) 45 then itemE k (numF k (cutA (cutA s 47) 45)).1 (numF k (cutB (cutA s 47) 45)).1 (stepF s) (takeE k (takeE k 0 (cutA (cutA s 47) 45)) (cutB (cutA s 47) 45))
  else itemE k (numF k (cutA (cutA s 47) 45)).1 (numF k (cutA (cutA s 47) 45)).1 (stepF s) (takeE k 0 (cutA (cutA s 47) 45))
theorem bounds_bd (k : Int) : 0 ≤ lowF k ∧ highF k ≤ 59 ∧ mostF k ≤ 60 := by
  unfold lowF highF mostF
  refine ⟨?_, ?_, ?_⟩ <;> (repeat' split) <;> omega
theorem mostF_bd (k : Int) : 0 ≤ mostF k ∧ mostF k ≤ 59 := by
  unfold mostF
  refine ⟨?_, ?_⟩ <;> (repeat' split) <;> omega
theorem take_ok {k e : Int} {s : ByteArray} (h : takeE k e s = 0) : (numF k s).2 = true ∧ e = 0 ∧ lowF k ≤ (numF k s).1 ∧ (numF k s).1 ≤ highF k := by
  unfold takeE at h
  split at h
  · cases h
  · rename_i h1
    split at h
    · cases h
    · rename_i h2
      subst h
      simp at h1 h2
      exact ⟨h1, rfl, by omega, by omega⟩
theorem take_bd {k e : Int} {s : ByteArray} (h : takeE k e s = 0) : 0 ≤ (numF k s).1 ∧ (numF k s).1 ≤ 60 := by
  have := take_ok h
  have := bounds_bd k
  omega
theorem not_star {s : ByteArray} {c : UInt8} (h : ¬ s = ⟨#[c]⟩) : (s.toList == [c]) = false := by
  rw [beq_eq_false_iff_ne]
  intro e
  apply h
  rw [← Lib.mk_data s, ← Lib.toList_data, e]
theorem decFrom_bd : ∀ (l : List UInt8) (acc n : Nat), Lib.decFrom acc l = some n → n < (acc + 1) * 10 ^ l.length
  | [], acc, n, h => by
    injection h with h
    simp; omega
  | b :: l, acc, n, h => by
    unfold Lib.decFrom at h
    cases hv : Lib.digitVal b with
    | none => rw [hv] at h; cases h
    | some v =>
      rw [hv] at h
      have := decFrom_bd l _ _ h
      have hv9 : v ≤ 9 := by
        unfold Lib.digitVal at hv
        split at hv
        · injection hv with hv; omega
        · cases hv
      have h2 : (acc * 10 + v + 1) * 10 ^ l.length ≤ ((acc + 1) * 10) * 10 ^ l.length := Nat.mul_le_mul_right _ (by omega)
      rw [List.length_cons, Nat.pow_succ, Nat.mul_comm (10 ^ l.length), ← Nat.mul_assoc]
      omega
theorem numF_bd (k : Int) (s : ByteArray) : -1 ≤ (numF k s).1 ∧ (numF k s).1 ≤ 99 := by
  unfold numF
  split
  · rename_i hd
    unfold digB at hd
    simp only [Bool.and_eq_true, decide_eq_true_eq, List.isEmpty_iff] at hd
    obtain ⟨⟨h1, h2⟩, h3⟩ := hd
    have hl : s.data.toList.length = s.size := by rw [Array.length_toList]; rfl
    have hall := trimS_nil h3
    generalize s.data.toList = l at *
    cases l with
    | nil => simp [Lib.atoi]
    | cons b r =>
      obtain ⟨v, hv, e1, e2⟩ := digit_val (hall b (by simp))
      obtain ⟨n, hn⟩ := decFrom_some (b :: r) 0 hall
      have hbd := decFrom_bd _ _ _ hn
      have : n ≤ 99 := by
        have h10 : 10 ^ (b :: r).length ≤ 10 ^ 2 := Nat.pow_le_pow_right (by decide) (by omega)
        simp at hbd h10 ⊢
        omega
      simp only [Lib.atoi]
      rw [e1, e2]
      simp [Lib.decNat, hn]
      omega
  · simp only []
    obtain ⟨i1, i2⟩ := idxFromS_bd (lowS s) monthsL 0
    obtain ⟨i3, i4⟩ := idxFromS_bd (lowS s) daysL 0
    have i5 : (monthsL.length : Int) = 12 := rfl
    have i6 : (daysL.length : Int) = 7 := rfl
    rw [i5] at i2
    rw [i6] at i4
    unfold numN Lib.idxOfS
    split
    · split <;> omega
    · split <;> omega
set_option maxHeartbeats 8000000 in
set_option maxRecDepth 100000 in
theorem item_any (k : Int) (s : ByteArray) (w : World) (hs : s.size ≤ 150) (hE : Env w) (k0 : 0 ≤ k) (k1 : k ≤ 4) :
    Calls Tryz.prog 146 #[.int .i64 k, .string s] w fun e w' => e = .returned (.tuple #[.int .u64 (itemF k s).1, .int .i64 (itemF k s).2]) ∧ Below w.heap.size w w' := by
  have HE := Lib.hid hE
  clear hE
  have bk := blk_new w (.cells #[.int .i64 k] 3)
  have hb := a0 w (.cells #[.int .i64 k] 3)
  have ck := blk_cell bk
  go_enter Tryz.func146, Tryz.ntmps146
  go_wp2_with fail
  generalize w.alloc _ = W at *
  refine (bounds_any k _ k0 k1).mono ?_
  rintro e w1 ⟨rfl, hb1⟩
  have b1 := vi hb hb1
  have bk1 := blk_keep bk hb1
  clear hb bk hb1 ck
  have hz := blk_lt bk1
  go_wp2_with fail
  have b2 := al (al (al b1 (.cells #[.int .i64 (lowF k)] 3)) (.cells #[.int .i64 (highF k)] 3)) (.cells #[.int .i64 0] 43)
  have K := blk_alloc (o' := .cells #[.int .i64 0] 43) (blk_alloc (o' := .cells #[.int .i64 (highF k)] 3) (blk_alloc (o' := .cells #[.int .i64 (lowF k)] 3) bk1))
  have L := blk_alloc (o' := .cells #[.int .i64 0] 43) (blk_alloc (o' := .cells #[.int .i64 (highF k)] 3) (blk_new w1 (.cells #[.int .i64 (lowF k)] 3)))
  have H := blk_alloc (o' := .cells #[.int .i64 0] 43) (blk_new (w1.alloc (.cells #[.int .i64 (lowF k)] 3)) (.cells #[.int .i64 (highF k)] 3))
  have E := blk_new ((w1.alloc (.cells #[.int .i64 (lowF k)] 3)).alloc (.cells #[.int .i64 (highF k)] 3)) (.cells #[.int .i64 0] 43)
  simp only [World.size_alloc] at H E
  have n1 : w.heap.size ≠ w1.heap.size + 1 + 1 := by omega
  have n2 : w1.heap.size ≠ w1.heap.size + 1 + 1 := by omega
  have n3 : w1.heap.size + 1 ≠ w1.heap.size + 1 + 1 := by omega
  have n4 : w.heap.size ≤ w1.heap.size + 1 + 1 := by omega
  clear hz bk1 b1
  generalize ((w1.alloc (.cells #[.int .i64 (lowF k)] 3)).alloc (.cells #[.int .i64 (highF k)] 3)).alloc (.cells #[.int .i64 0] 43) = W2 at *
  generalize w1.heap.size + 1 + 1 = be at *
  generalize w1.heap.size + 1 = bh at *
  generalize w1.heap.size = bl at *
  refine (cut_any s 47 _ (by omega) (env_keep HE.out b2)).mono ?_
  rintro e w2 ⟨rfl, hb⟩
  have b3 := vi b2 hb
  have K3 := blk_keep K hb
  have L3 := blk_keep L hb
  have H3 := blk_keep H hb
  have E3 := blk_keep E hb
  clear b2 K L H E hb
  obtain ⟨sa, sb⟩ := cut_sizes s 47
  obtain ⟨mf0, mf1⟩ := mostF_bd k
  cases hst' : cutOk s 47
  · have hst : stepF s = 1 := by unfold stepF; rw [hst']; rfl
    by_cases hstar : cutA s 47 = ⟨#[42]⟩
    · have cl3 := blk_cell L3
      clear K3 L3 H3
      have hv : itemF k s = itemE k (lowF k) (mostF k) (stepF s) 0 := by unfold itemF; rw [if_neg (by rw [hst']; simp), if_pos hstar]
      rw [hst] at hv
      have HV := Lib.hid hv
      have f0 := (bounds_bd k).1
      have l0 := (bounds_bd k).2.2
      clear hv hst
      have ce := blk_cell E3
      by_cases hx : (mostF k) < (lowF k) ∨ (1 : Int) < 1 ∨ 59 < (1 : Int)
      · have HX := Lib.hid (show itemE k (lowF k) (mostF k) (1 : Int) 0 = (0, 61) by unfold itemE; rw [if_neg (by simp), if_pos hx])
        rcases hx with hx | hx | hx
        · go_wp2
          go_ret2
          exact ⟨by rw [HV.out, HX.out]; rfl, b3⟩
        · rcases (show (mostF k) < (lowF k) ∨ (lowF k) ≤ (mostF k) by omega) with hy | hy
          all_goals
            go_wp2
            go_ret2
            exact ⟨by rw [HV.out, HX.out]; rfl, b3⟩
        · rcases (show (mostF k) < (lowF k) ∨ (lowF k) ≤ (mostF k) by omega) with hy | hy
          all_goals
            go_wp2
            go_ret2
            exact ⟨by rw [HV.out, HX.out]; rfl, b3⟩
      · have x0 : (lowF k) ≤ (mostF k) := by omega
        have x1 : 1 ≤ (1 : Int) := by omega
        have x2 : (1 : Int) ≤ 59 := by omega
        have HX := Lib.hid (show itemE k (lowF k) (mostF k) (1 : Int) 0 = (setF 200 0 (lowF k) (mostF k) (1 : Int) (mostF k), 0) by unfold itemE; rw [if_neg (by simp), if_neg hx])
        clear hx
        go_wp2_with fail
        go_loopg [22, 23] 200 (fun g sv nv wr => ∃ a n : Int, sv = .int .u64 a ∧ nv = .int .i64 n ∧ 0 ≤ n ∧ n ≤ 200 ∧ ((mostF k) + 1 - n).toNat ≤ g ∧ Aside (setF g a n ((mostF k)) ((1 : Int)) (mostF k) = setF 200 0 ((lowF k)) ((mostF k)) ((1 : Int)) (mostF k)) ∧ Below w.heap.size w wr)
        case atStart => exact ⟨_, _, rfl, rfl, f0, by omega, by omega, rfl, b3⟩
        case round =>
          obtain ⟨a, n, rfl, rfl, n0, n1, hg, hS, hb9⟩ := hrel
          by_cases hl : n ≤ (mostF k)
          · obtain ⟨g, rfl⟩ : ∃ g, gk = g + 1 := ⟨gk - 1, by omega⟩
            have hS2 : setF (g + 1) a n ((mostF k)) ((1 : Int)) (mostF k) = setF g (bits .or .u64 a (IntKind.u64.wrap (2 ^ (n % (mostF k + 1)).toNat))) (n + (1 : Int)) ((mostF k)) ((1 : Int)) (mostF k) := by rw [setF, if_pos hl]
            have HS := Lib.hid (hS2.symm.trans hS)
            have hm0 : 0 ≤ n % (mostF k + 1) := Int.emod_nonneg _ (by omega)
            have hm1 : n % (mostF k + 1) ≤ 63 := by have := Int.emod_lt_of_pos n (show 0 < mostF k + 1 by omega); omega
            clear hS hS2
            go_wp2
            go_roundg g
            case measure => omega
            case rel => exact ⟨_, _, rfl, rfl, by omega, by omega, by omega, HS.out, hb9⟩
          · have hS2 : setF gk a n ((mostF k)) ((1 : Int)) (mostF k) = a := by cases gk with
              | zero => rfl
              | succ g => rw [setF, if_neg hl]
            have HS := Lib.hid (hS2.symm.trans hS)
            clear hS hS2
            go_wp2
            go_ret2
            exact ⟨by rw [HV.out, HX.out, ← HS.out]; rfl, hb9⟩
    · have h42 := not_star hstar
      have cl3 := blk_cell L3
      go_wp2_with fail
      refine (cut_any (cutA s 47) 45 _ (by omega) (env_keep HE.out b3)).mono ?_
      rintro e w4 ⟨rfl, hb⟩
      have b4 := vi b3 hb
      have K4 := blk_keep K3 hb
      have L4 := blk_keep L3 hb
      have H4 := blk_keep H3 hb
      have E4 := blk_keep E3 hb
      clear b3 K3 L3 H3 E3 hb h42 cl3
      obtain ⟨ta, tb⟩ := cut_sizes (cutA s 47) 45
      cases hr : cutOk (cutA s 47) 45
      · go_wp2_with fail
        refine (take_any k 0 _ _ _ _ _ _ (by omega) (env_keep HE.out b4) K4 E4 L4 H4).mono ?_
        rintro e w5 ⟨rfl, hg5, E5⟩
        have b5 := b4.grown hg5 b4.size (by intro q hq; injection hq with hq; omega)
        clear b4 K4 L4 H4 E4 hg5
        have hv : itemF k s = itemE k (numF k (cutA (cutA s 47) 45)).1 (numF k (cutA (cutA s 47) 45)).1 (stepF s) (takeE k 0 (cutA (cutA s 47) 45)) := by
          unfold itemF; rw [if_neg (by rw [hst']; simp), if_neg hstar, if_neg (by rw [hst']; simp), if_neg (by rw [hr]; simp)]
        rw [hst] at hv
        have HV := Lib.hid hv
        have hbd := fun (h : takeE k 0 (cutA (cutA s 47) 45) = 0) => take_bd h
        clear hv hst
        generalize takeE k 0 (cutA (cutA s 47) 45) = e1 at *
        generalize (numF k (cutA (cutA s 47) 45)).1 = first at *
        by_cases h0 : e1 = 0
        · subst h0
          obtain ⟨f0, l0⟩ := hbd rfl
          clear hbd
          have ce := blk_cell E5
          by_cases hx : first < first ∨ (1 : Int) < 1 ∨ 59 < (1 : Int)
          · have HX := Lib.hid (show itemE k first first (1 : Int) 0 = (0, 61) by unfold itemE; rw [if_neg (by simp), if_pos hx])
            rcases hx with hx | hx | hx
            · go_wp2
              go_ret2
              exact ⟨by rw [HV.out, HX.out]; rfl, b5⟩
            · rcases (show first < first ∨ first ≤ first by omega) with hy | hy
              all_goals
                go_wp2
                go_ret2
                exact ⟨by rw [HV.out, HX.out]; rfl, b5⟩
            · rcases (show first < first ∨ first ≤ first by omega) with hy | hy
              all_goals
                go_wp2
                go_ret2
                exact ⟨by rw [HV.out, HX.out]; rfl, b5⟩
          · have x0 : first ≤ first := by omega
            have x1 : 1 ≤ (1 : Int) := by omega
            have x2 : (1 : Int) ≤ 59 := by omega
            have HX := Lib.hid (show itemE k first first (1 : Int) 0 = (setF 200 0 first first (1 : Int) (mostF k), 0) by unfold itemE; rw [if_neg (by simp), if_neg hx])
            clear hx
            go_wp2_with fail
            go_loopg [22, 23] 200 (fun g sv nv wr => ∃ a n : Int, sv = .int .u64 a ∧ nv = .int .i64 n ∧ 0 ≤ n ∧ n ≤ 200 ∧ (first + 1 - n).toNat ≤ g ∧ Aside (setF g a n (first) ((1 : Int)) (mostF k) = setF 200 0 (first) (first) ((1 : Int)) (mostF k)) ∧ Below w.heap.size w wr)
            case atStart => exact ⟨_, _, rfl, rfl, f0, by omega, by omega, rfl, b5⟩
            case round =>
              obtain ⟨a, n, rfl, rfl, n0, n1, hg, hS, hb9⟩ := hrel
              by_cases hl : n ≤ first
              · obtain ⟨g, rfl⟩ : ∃ g, gk = g + 1 := ⟨gk - 1, by omega⟩
                have hS2 : setF (g + 1) a n (first) ((1 : Int)) (mostF k) = setF g (bits .or .u64 a (IntKind.u64.wrap (2 ^ (n % (mostF k + 1)).toNat))) (n + (1 : Int)) (first) ((1 : Int)) (mostF k) := by rw [setF, if_pos hl]
                have HS := Lib.hid (hS2.symm.trans hS)
                have hm0 : 0 ≤ n % (mostF k + 1) := Int.emod_nonneg _ (by omega)
                have hm1 : n % (mostF k + 1) ≤ 63 := by have := Int.emod_lt_of_pos n (show 0 < mostF k + 1 by omega); omega
                clear hS hS2
                go_wp2
                go_roundg g
                case measure => omega
                case rel => exact ⟨_, _, rfl, rfl, by omega, by omega, by omega, HS.out, hb9⟩
              · have hS2 : setF gk a n (first) ((1 : Int)) (mostF k) = a := by cases gk with
                  | zero => rfl
                  | succ g => rw [setF, if_neg hl]
                have HS := Lib.hid (hS2.symm.trans hS)
                clear hS hS2
                go_wp2
                go_ret2
                exact ⟨by rw [HV.out, HX.out, ← HS.out]; rfl, hb9⟩
        · clear hbd
          have h0' : (e1 != 0) = true := by simpa using h0
          have HX := Lib.hid (show itemE k first first (1 : Int) e1 = (0, e1) by unfold itemE; rw [if_pos h0])
          have ce := blk_cell E5
          have cl := later_blk E5
          clear h0
          go_wp2_with fail
          refine region_later (by kernel_rfl) (by kernel_rfl) ?_
          repeat (go_big_quiet_step (fail))
          refine wpQuiet_nil ?_
          rintro _ ⟨u, rfl⟩
          go_wp2
          go_ret2
          exact ⟨by rw [HV.out, HX.out]; rfl, vi b5 u.below⟩
      · go_wp2_with fail
        refine (take_any k 0 _ _ _ _ _ _ (by omega) (env_keep HE.out b4) K4 E4 L4 H4).mono ?_
        rintro e w5 ⟨rfl, hg5, E5⟩
        have b5 := b4.grown hg5 b4.size (by intro q hq; injection hq with hq; omega)
        have K5 := grown_blk hg5 K4 n1
        have L5 := grown_blk hg5 L4 n2
        have H5 := grown_blk hg5 H4 n3
        clear b4 K4 L4 H4 E4 hg5
        go_wp2_with fail
        refine (take_any k _ _ _ _ _ _ _ (by omega) (env_keep HE.out b5) K5 E5 L5 H5).mono ?_
        rintro e w6 ⟨rfl, hg6, E6⟩
        have b6 := b5.grown hg6 b5.size (by intro q hq; injection hq with hq; omega)
        clear b5 K5 L5 H5 E5 hg6
        have hv : itemF k s = itemE k (numF k (cutA (cutA s 47) 45)).1 (numF k (cutB (cutA s 47) 45)).1 (stepF s) (takeE k (takeE k 0 (cutA (cutA s 47) 45)) (cutB (cutA s 47) 45)) := by
          unfold itemF; rw [if_neg (by rw [hst']; simp), if_neg hstar, if_neg (by rw [hr]; simp), if_pos hr]
        rw [hst] at hv
        have HV := Lib.hid hv
        have hbd := fun (h : takeE k (takeE k 0 (cutA (cutA s 47) 45)) (cutB (cutA s 47) 45) = 0) => And.intro (take_bd (take_ok h).2.1).1 (take_bd h).2
        clear hv hst
        generalize takeE k (takeE k 0 (cutA (cutA s 47) 45)) (cutB (cutA s 47) 45) = e1 at *
        generalize (numF k (cutA (cutA s 47) 45)).1 = first at *
        generalize (numF k (cutB (cutA s 47) 45)).1 = last at *
        by_cases h0 : e1 = 0
        · subst h0
          obtain ⟨f0, l0⟩ := hbd rfl
          clear hbd
          have ce := blk_cell E6
          by_cases hx : last < first ∨ (1 : Int) < 1 ∨ 59 < (1 : Int)
          · have HX := Lib.hid (show itemE k first last (1 : Int) 0 = (0, 61) by unfold itemE; rw [if_neg (by simp), if_pos hx])
            rcases hx with hx | hx | hx
            · go_wp2
              go_ret2
              exact ⟨by rw [HV.out, HX.out]; rfl, b6⟩
            · rcases (show last < first ∨ first ≤ last by omega) with hy | hy
              all_goals
                go_wp2
                go_ret2
                exact ⟨by rw [HV.out, HX.out]; rfl, b6⟩
            · rcases (show last < first ∨ first ≤ last by omega) with hy | hy
              all_goals
                go_wp2
                go_ret2
                exact ⟨by rw [HV.out, HX.out]; rfl, b6⟩
          · have x0 : first ≤ last := by omega
            have x1 : 1 ≤ (1 : Int) := by omega
            have x2 : (1 : Int) ≤ 59 := by omega
            have HX := Lib.hid (show itemE k first last (1 : Int) 0 = (setF 200 0 first last (1 : Int) (mostF k), 0) by unfold itemE; rw [if_neg (by simp), if_neg hx])
            clear hx
            go_wp2_with fail
            go_loopg [22, 23] 200 (fun g sv nv wr => ∃ a n : Int, sv = .int .u64 a ∧ nv = .int .i64 n ∧ 0 ≤ n ∧ n ≤ 200 ∧ (last + 1 - n).toNat ≤ g ∧ Aside (setF g a n (last) ((1 : Int)) (mostF k) = setF 200 0 (first) (last) ((1 : Int)) (mostF k)) ∧ Below w.heap.size w wr)
            case atStart => exact ⟨_, _, rfl, rfl, f0, by omega, by omega, rfl, b6⟩
            case round =>
              obtain ⟨a, n, rfl, rfl, n0, n1, hg, hS, hb9⟩ := hrel
              by_cases hl : n ≤ last
              · obtain ⟨g, rfl⟩ : ∃ g, gk = g + 1 := ⟨gk - 1, by omega⟩
                have hS2 : setF (g + 1) a n (last) ((1 : Int)) (mostF k) = setF g (bits .or .u64 a (IntKind.u64.wrap (2 ^ (n % (mostF k + 1)).toNat))) (n + (1 : Int)) (last) ((1 : Int)) (mostF k) := by rw [setF, if_pos hl]
                have HS := Lib.hid (hS2.symm.trans hS)
                have hm0 : 0 ≤ n % (mostF k + 1) := Int.emod_nonneg _ (by omega)
                have hm1 : n % (mostF k + 1) ≤ 63 := by have := Int.emod_lt_of_pos n (show 0 < mostF k + 1 by omega); omega
                clear hS hS2
                go_wp2
                go_roundg g
                case measure => omega
                case rel => exact ⟨_, _, rfl, rfl, by omega, by omega, by omega, HS.out, hb9⟩
              · have hS2 : setF gk a n (last) ((1 : Int)) (mostF k) = a := by cases gk with
                  | zero => rfl
                  | succ g => rw [setF, if_neg hl]
                have HS := Lib.hid (hS2.symm.trans hS)
                clear hS hS2
                go_wp2
                go_ret2
                exact ⟨by rw [HV.out, HX.out, ← HS.out]; rfl, hb9⟩
        · clear hbd
          have h0' : (e1 != 0) = true := by simpa using h0
          have HX := Lib.hid (show itemE k first last (1 : Int) e1 = (0, e1) by unfold itemE; rw [if_pos h0])
          have ce := blk_cell E6
          have cl := later_blk E6
          clear h0
          go_wp2_with fail
          refine region_later (by kernel_rfl) (by kernel_rfl) ?_
          repeat (go_big_quiet_step (fail))
          refine wpQuiet_nil ?_
          rintro _ ⟨u, rfl⟩
          go_wp2
          go_ret2
          exact ⟨by rw [HV.out, HX.out]; rfl, vi b6 u.below⟩
  · have hp : stepF s = (numF 0 (cutB s 47)).1 := by unfold stepF; rw [hst']; rfl
    go_wp2_with fail
    refine (number_any 0 _ _ (by omega) (env_keep HE.out b3)).mono ?_
    rintro e w9 ⟨rfl, hb⟩
    have b9 := vi b3 hb
    have K9 := blk_keep K3 hb
    have L9 := blk_keep L3 hb
    have H9 := blk_keep H3 hb
    have E9 := blk_keep E3 hb
    clear b3 K3 L3 H3 E3 hb
    have b3 := b9
    have K3 := K9
    have L3 := L9
    have H3 := H9
    have E3 := E9
    clear b9 K9 L9 H9 E9
    have hnb := numF_bd 0 (cutB s 47)
    have hok : ∀ b, (numF 0 (cutB s 47)).2 = b → (numF 0 (cutB s 47)).2 = b := fun _ h => h
    cases hq : (numF 0 (cutB s 47)).2
    · have HV := Lib.hid (show itemF k s = (0, 60) by unfold itemF; rw [if_pos ⟨hst', hq⟩])
      clear hok hp
      go_wp2
      go_ret2
      exact ⟨by rw [HV.out]; rfl, b3⟩
    · have hst := hp
      clear hok hp
      generalize hstv : (numF 0 (cutB s 47)).1 = st at *
      clear hstv
      by_cases hstar : cutA s 47 = ⟨#[42]⟩
      · have cl3 := blk_cell L3
        clear K3 L3 H3
        have hv : itemF k s = itemE k (lowF k) (mostF k) (stepF s) 0 := by unfold itemF; rw [if_neg (by rw [hq]; simp), if_pos hstar]
        rw [hst] at hv
        have HV := Lib.hid hv
        have f0 := (bounds_bd k).1
        have l0 := (bounds_bd k).2.2
        clear hv hst
        have ce := blk_cell E3
        by_cases hx : (mostF k) < (lowF k) ∨ st < 1 ∨ 59 < st
        · have HX := Lib.hid (show itemE k (lowF k) (mostF k) st 0 = (0, 61) by unfold itemE; rw [if_neg (by simp), if_pos hx])
          rcases hx with hx | hx | hx
          · go_wp2
            go_ret2
            exact ⟨by rw [HV.out, HX.out]; rfl, b3⟩
          · rcases (show (mostF k) < (lowF k) ∨ (lowF k) ≤ (mostF k) by omega) with hy | hy
            all_goals
              go_wp2
              go_ret2
              exact ⟨by rw [HV.out, HX.out]; rfl, b3⟩
          · rcases (show (mostF k) < (lowF k) ∨ (lowF k) ≤ (mostF k) by omega) with hy | hy
            all_goals
              go_wp2
              go_ret2
              exact ⟨by rw [HV.out, HX.out]; rfl, b3⟩
        · have x0 : (lowF k) ≤ (mostF k) := by omega
          have x1 : 1 ≤ st := by omega
          have x2 : st ≤ 59 := by omega
          have HX := Lib.hid (show itemE k (lowF k) (mostF k) st 0 = (setF 200 0 (lowF k) (mostF k) st (mostF k), 0) by unfold itemE; rw [if_neg (by simp), if_neg hx])
          clear hx
          go_wp2_with fail
          go_loopg [22, 23] 200 (fun g sv nv wr => ∃ a n : Int, sv = .int .u64 a ∧ nv = .int .i64 n ∧ 0 ≤ n ∧ n ≤ 200 ∧ ((mostF k) + 1 - n).toNat ≤ g ∧ Aside (setF g a n ((mostF k)) (st) (mostF k) = setF 200 0 ((lowF k)) ((mostF k)) (st) (mostF k)) ∧ Below w.heap.size w wr)
          case atStart => exact ⟨_, _, rfl, rfl, f0, by omega, by omega, rfl, b3⟩
          case round =>
            obtain ⟨a, n, rfl, rfl, n0, n1, hg, hS, hb9⟩ := hrel
            by_cases hl : n ≤ (mostF k)
            · obtain ⟨g, rfl⟩ : ∃ g, gk = g + 1 := ⟨gk - 1, by omega⟩
              have hS2 : setF (g + 1) a n ((mostF k)) (st) (mostF k) = setF g (bits .or .u64 a (IntKind.u64.wrap (2 ^ (n % (mostF k + 1)).toNat))) (n + st) ((mostF k)) (st) (mostF k) := by rw [setF, if_pos hl]
              have HS := Lib.hid (hS2.symm.trans hS)
              have hm0 : 0 ≤ n % (mostF k + 1) := Int.emod_nonneg _ (by omega)
              have hm1 : n % (mostF k + 1) ≤ 63 := by have := Int.emod_lt_of_pos n (show 0 < mostF k + 1 by omega); omega
              clear hS hS2
              go_wp2
              go_roundg g
              case measure => omega
              case rel => exact ⟨_, _, rfl, rfl, by omega, by omega, by omega, HS.out, hb9⟩
            · have hS2 : setF gk a n ((mostF k)) (st) (mostF k) = a := by cases gk with
                | zero => rfl
                | succ g => rw [setF, if_neg hl]
              have HS := Lib.hid (hS2.symm.trans hS)
              clear hS hS2
              go_wp2
              go_ret2
              exact ⟨by rw [HV.out, HX.out, ← HS.out]; rfl, hb9⟩
      · have h42 := not_star hstar
        have cl3 := blk_cell L3
        go_wp2_with fail
        refine (cut_any (cutA s 47) 45 _ (by omega) (env_keep HE.out b3)).mono ?_
        rintro e w4 ⟨rfl, hb⟩
        have b4 := vi b3 hb
        have K4 := blk_keep K3 hb
        have L4 := blk_keep L3 hb
        have H4 := blk_keep H3 hb
        have E4 := blk_keep E3 hb
        clear b3 K3 L3 H3 E3 hb h42 cl3
        obtain ⟨ta, tb⟩ := cut_sizes (cutA s 47) 45
        cases hr : cutOk (cutA s 47) 45
        · have hv : itemF k s = (0, 60) := by unfold itemF; rw [if_neg (by rw [hq]; simp), if_neg hstar, if_pos ⟨hst', hr⟩]
          have HV := Lib.hid hv
          go_wp2
          go_ret2
          exact ⟨by rw [HV.out]; rfl, b4⟩
        · go_wp2_with fail
          refine (take_any k 0 _ _ _ _ _ _ (by omega) (env_keep HE.out b4) K4 E4 L4 H4).mono ?_
          rintro e w5 ⟨rfl, hg5, E5⟩
          have b5 := b4.grown hg5 b4.size (by intro q hq; injection hq with hq; omega)
          have K5 := grown_blk hg5 K4 n1
          have L5 := grown_blk hg5 L4 n2
          have H5 := grown_blk hg5 H4 n3
          clear b4 K4 L4 H4 E4 hg5
          go_wp2_with fail
          refine (take_any k _ _ _ _ _ _ _ (by omega) (env_keep HE.out b5) K5 E5 L5 H5).mono ?_
          rintro e w6 ⟨rfl, hg6, E6⟩
          have b6 := b5.grown hg6 b5.size (by intro q hq; injection hq with hq; omega)
          clear b5 K5 L5 H5 E5 hg6
          have hv : itemF k s = itemE k (numF k (cutA (cutA s 47) 45)).1 (numF k (cutB (cutA s 47) 45)).1 (stepF s) (takeE k (takeE k 0 (cutA (cutA s 47) 45)) (cutB (cutA s 47) 45)) := by
            unfold itemF; rw [if_neg (by rw [hq]; simp), if_neg hstar, if_neg (by rw [hr]; simp), if_pos hr]
          rw [hst] at hv
          have HV := Lib.hid hv
          have hbd := fun (h : takeE k (takeE k 0 (cutA (cutA s 47) 45)) (cutB (cutA s 47) 45) = 0) => And.intro (take_bd (take_ok h).2.1).1 (take_bd h).2
          clear hv hst
          generalize takeE k (takeE k 0 (cutA (cutA s 47) 45)) (cutB (cutA s 47) 45) = e1 at *
          generalize (numF k (cutA (cutA s 47) 45)).1 = first at *
          generalize (numF k (cutB (cutA s 47) 45)).1 = last at *
          by_cases h0 : e1 = 0
          · subst h0
            obtain ⟨f0, l0⟩ := hbd rfl
            clear hbd
            have ce := blk_cell E6
            by_cases hx : last < first ∨ st < 1 ∨ 59 < st
            · have HX := Lib.hid (show itemE k first last st 0 = (0, 61) by unfold itemE; rw [if_neg (by simp), if_pos hx])
              rcases hx with hx | hx | hx
              · go_wp2
                go_ret2
                exact ⟨by rw [HV.out, HX.out]; rfl, b6⟩
              · rcases (show last < first ∨ first ≤ last by omega) with hy | hy
                all_goals
                  go_wp2
                  go_ret2
                  exact ⟨by rw [HV.out, HX.out]; rfl, b6⟩
              · rcases (show last < first ∨ first ≤ last by omega) with hy | hy
                all_goals
                  go_wp2
                  go_ret2
                  exact ⟨by rw [HV.out, HX.out]; rfl, b6⟩
            · have x0 : first ≤ last := by omega
              have x1 : 1 ≤ st := by omega
              have x2 : st ≤ 59 := by omega
              have HX := Lib.hid (show itemE k first last st 0 = (setF 200 0 first last st (mostF k), 0) by unfold itemE; rw [if_neg (by simp), if_neg hx])
              clear hx
              go_wp2_with fail
              go_loopg [22, 23] 200 (fun g sv nv wr => ∃ a n : Int, sv = .int .u64 a ∧ nv = .int .i64 n ∧ 0 ≤ n ∧ n ≤ 200 ∧ (last + 1 - n).toNat ≤ g ∧ Aside (setF g a n (last) (st) (mostF k) = setF 200 0 (first) (last) (st) (mostF k)) ∧ Below w.heap.size w wr)
              case atStart => exact ⟨_, _, rfl, rfl, f0, by omega, by omega, rfl, b6⟩
              case round =>
                obtain ⟨a, n, rfl, rfl, n0, n1, hg, hS, hb9⟩ := hrel
                by_cases hl : n ≤ last
                · obtain ⟨g, rfl⟩ : ∃ g, gk = g + 1 := ⟨gk - 1, by omega⟩
                  have hS2 : setF (g + 1) a n (last) (st) (mostF k) = setF g (bits .or .u64 a (IntKind.u64.wrap (2 ^ (n % (mostF k + 1)).toNat))) (n + st) (last) (st) (mostF k) := by rw [setF, if_pos hl]
                  have HS := Lib.hid (hS2.symm.trans hS)
                  have hm0 : 0 ≤ n % (mostF k + 1) := Int.emod_nonneg _ (by omega)
                  have hm1 : n % (mostF k + 1) ≤ 63 := by have := Int.emod_lt_of_pos n (show 0 < mostF k + 1 by omega); omega
                  clear hS hS2
                  go_wp2
                  go_roundg g
                  case measure => omega
                  case rel => exact ⟨_, _, rfl, rfl, by omega, by omega, by omega, HS.out, hb9⟩
                · have hS2 : setF gk a n (last) (st) (mostF k) = a := by cases gk with
                    | zero => rfl
                    | succ g => rw [setF, if_neg hl]
                  have HS := Lib.hid (hS2.symm.trans hS)
                  clear hS hS2
                  go_wp2
                  go_ret2
                  exact ⟨by rw [HV.out, HX.out, ← HS.out]; rfl, hb9⟩
          · clear hbd
            have h0' : (e1 != 0) = true := by simpa using h0
            have HX := Lib.hid (show itemE k first last st e1 = (0, e1) by unfold itemE; rw [if_pos h0])
            have ce := blk_cell E6
            have cl := later_blk E6
            clear h0
            go_wp2_with fail
            refine region_later (by kernel_rfl) (by kernel_rfl) ?_
            repeat (go_big_quiet_step (fail))
            refine wpQuiet_nil ?_
            rintro _ ⟨u, rfl⟩
            go_wp2
            go_ret2
            exact ⟨by rw [HV.out, HX.out]; rfl, vi b6 u.below⟩
end Go.Proofs.YtceddjpaddcjiaaGreatDoor

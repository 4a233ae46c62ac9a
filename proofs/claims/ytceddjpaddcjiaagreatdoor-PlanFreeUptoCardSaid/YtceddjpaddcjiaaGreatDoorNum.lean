/- The walk of field.number: a word's number, as a plain function says. -/
import Derived.Test.YtceddjpaddcjiaaGreatDoorField
import Derived.Test.YtceddjpaddcjiaaGreatDoorShelf
import Derived.Shelf.Strings.SlTrimAscii
namespace Go.Proofs.YtceddjpaddcjiaaGreatDoor
open Go.RowKit
/-- What the walks ask of the library's variables. -/
structure Env (w : World) : Prop where
  t64 : Tab64 w
  maxLen : ∃ m, w.cell? ⟨1, 0, none⟩ = some (.int .i64 m)
  u8 : Lib.Utf8Tabs 2 3 w
theorem env_keep {w w1 : World} (h : Env w) (hb : Below w.heap.size w w1) : Env w1 := by
  obtain ⟨a, ⟨m, hm⟩, c, d⟩ := h
  refine ⟨tab_keep a hb, ⟨m, (hb.cell (World.block_lt_of_cell? _ _ hm)).trans hm⟩, fun i hi => ?_, fun i hi => ?_⟩
  · exact (hb.cell (World.block_lt_of_cell? _ _ (c i hi))).trans (c i hi)
  · exact ⟨(hb.cell (World.block_lt_of_cell? _ _ (d i hi).1)).trans (d i hi).1, (hb.cell (World.block_lt_of_cell? _ _ (d i hi).2)).trans (d i hi).2⟩
theorem bytes_keep (W : World) (t : ByteArray) : Below W.heap.size W (Lib.bytesWorld W 5 t) :=
  (Below.refl _ _).trans ⟨rfl, rfl, rfl, by rw [Lib.bytesWorld_size]; omega, fun i hi => Lib.bytesWorld_at_old W 5 t i (by omega)⟩
def lowR (c : Int) : Int := if 65 ≤ c ∧ c ≤ 90 then c + 32 else c
theorem lowc_any (c : Int) (w : World) (h0 : 0 ≤ c) (h1 : c ≤ 1114111) :
    Calls Tryz.prog 179 #[.int .i32 c] w fun e w' => e = .returned (.int .i32 (lowR c)) ∧ Below w.heap.size w w' := by
  by_cases hc : 65 ≤ c ∧ c ≤ 90
  · obtain ⟨a, b⟩ := hc
    go_enter Tryz.func179, Tryz.ntmps179
    go_wp2
    go_ret
    exact ⟨by simp [lowR, a, b], Below.refl _ _⟩
  · have hl : lowR c = c := by unfold lowR; rw [if_neg hc]
    rw [hl]
    rcases (show c < 65 ∨ 90 < c by omega) with h | h
    all_goals
      go_enter Tryz.func179, Tryz.ntmps179
      go_wp2
      go_ret
      exact ⟨rfl, Below.refl _ _⟩
def lowS (s : ByteArray) : ByteArray := ⟨(Lib.mapD lowR s.data.toList).toArray⟩
theorem map_any (s : ByteArray) (w : World) (hs : s.size < 35184372088832) (hE : Env w) :
    Calls Tryz.prog 178 #[.func (.func 179) #[] #[], .string s] w fun e w' => e = .returned (.string (lowS s)) ∧ Below w.heap.size w w' :=
  Tryz.strings_Map_grows 179 #[] (fun _ _ => by kernel_rfl) lowR s w hs (fun W x hx _ => lowc_any x W (by omega) (by omega)) (fun x hx => by unfold lowR; split <;> omega) hE.u8
def digitsS : ByteArray := ⟨#[48, 49, 50, 51, 52, 53, 54, 55, 56, 57]⟩
def trimD (s : ByteArray) : List UInt8 := Lib.trimS s.data.toList digitsS.data.toList
theorem trim_any (s : ByteArray) (w : World) (hs : s.size ≤ 9223372036854775807) :
    Calls Tryz.prog 176 #[.string s, .string ⟨#[48, 49, 50, 51, 52, 53, 54, 55, 56, 57]⟩] w fun e w' => e = .returned (.string ⟨(trimD s).toArray⟩) ∧ Below w.heap.size w w' :=
  Any.strings_Trim_laid Tryz.lays160 (by kernel_rfl) s digitsS w hs (by decide) (ascii_of_all (by decide))
theorem dropWhile_nil {p : UInt8 → Bool} : ∀ {l : List UInt8}, l.dropWhile p = [] → ∀ b ∈ l, p b = true
  | [], _ => by simp
  | a :: l, h => by
    intro b hb
    rw [List.dropWhile_cons] at h
    split at h
    · rename_i ha
      rcases List.mem_cons.1 hb with rfl | hb
      · exact ha
      · exact dropWhile_nil h b hb
    · cases h
theorem trimS_nil {l cs : List UInt8} (h : Lib.trimS l cs = []) : ∀ b ∈ l, cs.contains b = true := by
  intro b hb
  have h1 := dropWhile_nil h
  unfold Lib.trimRightS at h1
  have h2 : b ∈ l.reverse := List.mem_reverse.2 hb
  rw [← List.takeWhile_append_dropWhile (p := fun x => cs.contains x) (l := l.reverse)] at h2
  rcases List.mem_append.1 h2 with h2 | h2
  · have := List.all_takeWhile (p := fun x => cs.contains x) (l := l.reverse)
    exact List.all_eq_true.1 this b h2
  · exact h1 b (List.mem_reverse.2 h2)
theorem digit_val {b : UInt8} (h : digitsS.data.toList.contains b = true) : ∃ v, Lib.digitVal b = some v ∧ (b == 45) = false ∧ (b == 43) = false := by
  have : b = 48 ∨ b = 49 ∨ b = 50 ∨ b = 51 ∨ b = 52 ∨ b = 53 ∨ b = 54 ∨ b = 55 ∨ b = 56 ∨ b = 57 := by
    simpa [digitsS, List.contains_iff_mem] using h
  rcases this with rfl | rfl | rfl | rfl | rfl | rfl | rfl | rfl | rfl | rfl <;> exact ⟨_, rfl, rfl, rfl⟩
theorem decFrom_some : ∀ (l : List UInt8) (acc : Nat), (∀ b ∈ l, digitsS.data.toList.contains b = true) → ∃ n, Lib.decFrom acc l = some n
  | [], acc, _ => ⟨acc, rfl⟩
  | b :: l, acc, h => by
    obtain ⟨v, hv, -, -⟩ := digit_val (h b (by simp))
    unfold Lib.decFrom
    rw [hv]
    exact decFrom_some l _ (fun c hc => h c (by simp [hc]))
theorem atoi_some {l : List UInt8} (h0 : l ≠ []) (h : ∀ b ∈ l, digitsS.data.toList.contains b = true) : ∃ n, Lib.atoi l = some n := by
  cases l with
  | nil => exact absurd rfl h0
  | cons b r =>
    obtain ⟨v, hv, e1, e2⟩ := digit_val (h b (by simp))
    obtain ⟨n, hn⟩ := decFrom_some (b :: r) 0 h
    refine ⟨n, ?_⟩
    simp only [Lib.atoi]
    rw [e1, e2]
    simp [Lib.decNat, hn]
def monthsL : List ByteArray := [⟨#[106, 97, 110]⟩, ⟨#[102, 101, 98]⟩, ⟨#[109, 97, 114]⟩, ⟨#[97, 112, 114]⟩, ⟨#[109, 97, 121]⟩, ⟨#[106, 117, 110]⟩, ⟨#[106, 117, 108]⟩, ⟨#[97, 117, 103]⟩, ⟨#[115, 101, 112]⟩, ⟨#[111, 99, 116]⟩, ⟨#[110, 111, 118]⟩, ⟨#[100, 101, 99]⟩]
def daysL : List ByteArray := [⟨#[115, 117, 110]⟩, ⟨#[109, 111, 110]⟩, ⟨#[116, 117, 101]⟩, ⟨#[119, 101, 100]⟩, ⟨#[116, 104, 117]⟩, ⟨#[102, 114, 105]⟩, ⟨#[115, 97, 116]⟩]
def digB (s : ByteArray) : Bool := decide (1 ≤ s.size) && decide (s.size ≤ 2) && (trimD s).isEmpty
def numN (k : Int) (s : ByteArray) : Int :=
  if k = 3 then (if 0 ≤ Lib.idxOfS monthsL (lowS s) then Lib.idxOfS monthsL (lowS s) + 1 else Lib.idxOfS monthsL (lowS s)) else if k = 4 then Lib.idxOfS daysL (lowS s) else -1
/-- A word's number; false: it is none. -/
def numF (k : Int) (s : ByteArray) : Int × Bool := if digB s then ((Lib.atoi s.data.toList).getD 0, true) else (numN k s, decide (0 ≤ numN k s))
theorem idxFromS_bd (x : ByteArray) : ∀ (zs : List ByteArray) (i : Nat), -1 ≤ Lib.idxFromS zs x i ∧ Lib.idxFromS zs x i < (i : Int) + zs.length
  | [], i => by simp [Lib.idxFromS]; omega
  | z :: zs, i => by
    unfold Lib.idxFromS
    have := idxFromS_bd x zs (i + 1)
    split
    · simp; omega
    · simp at this ⊢; omega
set_option maxHeartbeats 1000000 in
theorem number_dig (k : Int) (s : ByteArray) (w : World) (hd : digB s = true) :
    Calls Tryz.prog 164 #[.int .i64 k, .string s] w fun e w' => e = .returned (.tuple #[.int .i64 (numF k s).1, .bool (numF k s).2]) ∧ Below w.heap.size w w' := by
  have hf : numF k s = ((Lib.atoi s.data.toList).getD 0, true) := by unfold numF; rw [if_pos hd]
  unfold digB at hd
  simp only [Bool.and_eq_true, decide_eq_true_eq, List.isEmpty_iff] at hd
  obtain ⟨⟨h1, h2⟩, h3⟩ := hd
  have hl : s.data.toList.length = s.size := by rw [Array.length_toList]; rfl
  obtain ⟨n, hn⟩ := atoi_some (l := s.data.toList) (fun e => by rw [e] at hl; simp at hl; omega) (trimS_nil h3)
  rw [hf, hn]
  have H3 := Lib.hid h3
  have Hn := Lib.hid hn
  clear hf h3 hn
  go_enter Tryz.func164, Tryz.ntmps164
  go_wp2_with fail
  refine (trim_any s _ (by omega)).mono ?_
  rw [H3.out]
  rintro e w1 ⟨rfl, hb⟩
  go_wp2_with fail
  refine (Tryz.strconv_Atoi s n (by omega) Hn.out _).mono ?_
  rintro e w2 ⟨rfl, t, rfl⟩
  go_wp2
  go_ret2
  exact ⟨rfl, vi hb (bytes_keep _ _)⟩
abbrev monO : Obj := .cells #[.string ⟨#[]⟩, .string ⟨#[106, 97, 110]⟩, .string ⟨#[102, 101, 98]⟩, .string ⟨#[109, 97, 114]⟩, .string ⟨#[97, 112, 114]⟩, .string ⟨#[109, 97, 121]⟩, .string ⟨#[106, 117, 110]⟩, .string ⟨#[106, 117, 108]⟩, .string ⟨#[97, 117, 103]⟩, .string ⟨#[115, 101, 112]⟩, .string ⟨#[111, 99, 116]⟩, .string ⟨#[110, 111, 118]⟩, .string ⟨#[100, 101, 99]⟩] 227
abbrev dayO : Obj := .cells #[.string ⟨#[115, 117, 110]⟩, .string ⟨#[109, 111, 110]⟩, .string ⟨#[116, 117, 101]⟩, .string ⟨#[119, 101, 100]⟩, .string ⟨#[116, 104, 117]⟩, .string ⟨#[102, 114, 105]⟩, .string ⟨#[115, 97, 116]⟩] 228
theorem monIdx_any (b : Nat) (x : ByteArray) (w : World) (hb : w.heap[b]? = some monO) :
    Calls Tryz.prog 180 #[.slice (some ⟨b, 1, none⟩) 12 12, .string x] w fun e w' => e = .returned (.int .i64 (Lib.idxOfS monthsL x)) ∧ Below w.heap.size w w' := by
  refine (Tryz.slices_Index_string b 1 12 12 monthsL x w (by decide) (by decide) ?_).mono ?_
  · intro j hj
    rw [blk_cell hb]
    have : j = 0 ∨ j = 1 ∨ j = 2 ∨ j = 3 ∨ j = 4 ∨ j = 5 ∨ j = 6 ∨ j = 7 ∨ j = 8 ∨ j = 9 ∨ j = 10 ∨ j = 11 := by simp [monthsL] at hj; omega
    rcases this with rfl | rfl | rfl | rfl | rfl | rfl | rfl | rfl | rfl | rfl | rfl | rfl <;> rfl
  · rintro e w' ⟨rfl, rfl⟩
    exact ⟨rfl, Below.refl _ _⟩
theorem dayIdx_any (b : Nat) (x : ByteArray) (w : World) (hb : w.heap[b]? = some dayO) :
    Calls Tryz.prog 180 #[.slice (some ⟨b, 0, none⟩) 7 7, .string x] w fun e w' => e = .returned (.int .i64 (Lib.idxOfS daysL x)) ∧ Below w.heap.size w w' := by
  refine (Tryz.slices_Index_string b 0 7 7 daysL x w (by decide) (by decide) ?_).mono ?_
  · intro j hj
    rw [blk_cell hb]
    have : j = 0 ∨ j = 1 ∨ j = 2 ∨ j = 3 ∨ j = 4 ∨ j = 5 ∨ j = 6 := by simp [daysL] at hj; omega
    rcases this with rfl | rfl | rfl | rfl | rfl | rfl | rfl <;> rfl
  · rintro e w' ⟨rfl, rfl⟩
    exact ⟨rfl, Below.refl _ _⟩
set_option maxHeartbeats 4000000 in
theorem number_rest (k : Int) (s : ByteArray) (w : World) (hs : s.size ≤ 1000) (hE : Env w) (hd : digB s = false) (h1 : 0 < s.size → s.size ≤ 2 → ∃ c r, trimD s = c :: r) :
    Calls Tryz.prog 164 #[.int .i64 k, .string s] w fun e w' => e = .returned (.tuple #[.int .i64 (numF k s).1, .bool (numF k s).2]) ∧ Below w.heap.size w w' := by
  have hf : numF k s = (numN k s, decide (0 ≤ numN k s)) := by unfold numF; rw [if_neg (by rw [hd]; decide)]
  have Hf := Lib.hid hf
  have HE := Lib.hid hE
  clear hf hd hE
  obtain ⟨i1, i2⟩ := idxFromS_bd (lowS s) monthsL 0
  obtain ⟨i3, i4⟩ := idxFromS_bd (lowS s) daysL 0
  have i5 : (monthsL.length : Int) = 12 := rfl
  have i6 : (daysL.length : Int) = 7 := rfl
  rw [i5] at i2
  rw [i6] at i4
  clear i5 i6
  change -1 ≤ Lib.idxOfS monthsL (lowS s) at i1
  change Lib.idxOfS monthsL (lowS s) < _ at i2
  change -1 ≤ Lib.idxOfS daysL (lowS s) at i3
  change Lib.idxOfS daysL (lowS s) < _ at i4
  rcases (show s.size = 0 ∨ 2 < s.size ∨ (0 < s.size ∧ s.size ≤ 2) by omega) with hz0 | hz0 | hz0
  · go_enter Tryz.func164, Tryz.ntmps164
    go_wp2_with fail
    have m0 := blk_alloc (o' := dayO) (blk_new w monO)
    have d0 := blk_new ((w).alloc monO) dayO
    rw [World.size_alloc] at d0
    have b0 := al (al (Below.refl w.heap.size w) monO) dayO
    generalize ((w).alloc _).alloc _ = W at *
    refine (map_any s _ (by omega) (env_keep HE.out b0)).mono ?_
    rintro e w2 ⟨rfl, hb2⟩
    have b1 := vi b0 hb2
    have m1 := blk_keep m0 hb2
    have d1 := blk_keep d0 hb2
    clear m0 d0 b0 hb2 HE
    have hz := blk_lt m1
    have hz2 := blk_lt d1
    by_cases k3 : k = 3
    · subst k3
      have hv : numN 3 s = if 0 ≤ Lib.idxOfS monthsL (lowS s) then Lib.idxOfS monthsL (lowS s) + 1 else Lib.idxOfS monthsL (lowS s) := rfl
      generalize hi : Lib.idxOfS monthsL (lowS s) = v at *
      have Hv := Lib.hid hv
      clear hv
      by_cases h0 : 0 ≤ v
      all_goals
        go_wp2_with fail
        refine (monIdx_any _ _ _ m1).mono ?_
        rw [hi]
        rintro e w3 ⟨rfl, hb3⟩
        go_wp2
        go_ret2
        refine ⟨?_, vi b1 hb3⟩
        rw [Hf.out, Hv.out]
        first | rw [if_pos h0] | rw [if_neg (by omega)]
        rfl
    · by_cases k4 : k = 4
      · subst k4
        have hv : numN 4 s = Lib.idxOfS daysL (lowS s) := rfl
        generalize hi : Lib.idxOfS daysL (lowS s) = v at *
        have Hv := Lib.hid hv
        clear hv
        go_wp2_with fail
        refine (dayIdx_any _ _ _ d1).mono ?_
        rw [hi]
        rintro e w3 ⟨rfl, hb3⟩
        go_wp2
        go_ret2
        exact ⟨by rw [Hf.out, Hv.out]; rfl, vi b1 hb3⟩
      · have hv : numN k s = -1 := by unfold numN; rw [if_neg k3, if_neg k4]
        have Hv := Lib.hid hv
        clear hv
        go_wp2
        go_ret2
        exact ⟨by rw [Hf.out, Hv.out]; rfl, b1⟩
  · go_enter Tryz.func164, Tryz.ntmps164
    go_wp2_with fail
    have m0 := blk_alloc (o' := dayO) (blk_new w monO)
    have d0 := blk_new ((w).alloc monO) dayO
    rw [World.size_alloc] at d0
    have b0 := al (al (Below.refl w.heap.size w) monO) dayO
    generalize ((w).alloc _).alloc _ = W at *
    refine (map_any s _ (by omega) (env_keep HE.out b0)).mono ?_
    rintro e w2 ⟨rfl, hb2⟩
    have b1 := vi b0 hb2
    have m1 := blk_keep m0 hb2
    have d1 := blk_keep d0 hb2
    clear m0 d0 b0 hb2 HE
    have hz := blk_lt m1
    have hz2 := blk_lt d1
    by_cases k3 : k = 3
    · subst k3
      have hv : numN 3 s = if 0 ≤ Lib.idxOfS monthsL (lowS s) then Lib.idxOfS monthsL (lowS s) + 1 else Lib.idxOfS monthsL (lowS s) := rfl
      generalize hi : Lib.idxOfS monthsL (lowS s) = v at *
      have Hv := Lib.hid hv
      clear hv
      by_cases h0 : 0 ≤ v
      all_goals
        go_wp2_with fail
        refine (monIdx_any _ _ _ m1).mono ?_
        rw [hi]
        rintro e w3 ⟨rfl, hb3⟩
        go_wp2
        go_ret2
        refine ⟨?_, vi b1 hb3⟩
        rw [Hf.out, Hv.out]
        first | rw [if_pos h0] | rw [if_neg (by omega)]
        rfl
    · by_cases k4 : k = 4
      · subst k4
        have hv : numN 4 s = Lib.idxOfS daysL (lowS s) := rfl
        generalize hi : Lib.idxOfS daysL (lowS s) = v at *
        have Hv := Lib.hid hv
        clear hv
        go_wp2_with fail
        refine (dayIdx_any _ _ _ d1).mono ?_
        rw [hi]
        rintro e w3 ⟨rfl, hb3⟩
        go_wp2
        go_ret2
        exact ⟨by rw [Hf.out, Hv.out]; rfl, vi b1 hb3⟩
      · have hv : numN k s = -1 := by unfold numN; rw [if_neg k3, if_neg k4]
        have Hv := Lib.hid hv
        clear hv
        go_wp2
        go_ret2
        exact ⟨by rw [Hf.out, Hv.out]; rfl, b1⟩
  · obtain ⟨c, r, ht⟩ := h1 hz0.1 hz0.2
    obtain ⟨hz1, hz2⟩ := hz0
    have Ht := Lib.hid ht
    clear ht h1
    go_enter Tryz.func164, Tryz.ntmps164
    go_wp2_with fail
    refine (trim_any s _ (by omega)).mono ?_
    rw [Ht.out]
    rintro e w1 ⟨rfl, hb1⟩
    go_wp2_with fail
    have m0 := blk_alloc (o' := dayO) (blk_new w1 monO)
    have d0 := blk_new ((w1).alloc monO) dayO
    rw [World.size_alloc] at d0
    have b0 := al (al hb1 monO) dayO
    generalize ((w1).alloc _).alloc _ = W at *
    refine (map_any s _ (by omega) (env_keep HE.out b0)).mono ?_
    rintro e w2 ⟨rfl, hb2⟩
    have b1 := vi b0 hb2
    have m1 := blk_keep m0 hb2
    have d1 := blk_keep d0 hb2
    clear m0 d0 b0 hb2 HE
    have hz := blk_lt m1
    have hz2 := blk_lt d1
    by_cases k3 : k = 3
    · subst k3
      have hv : numN 3 s = if 0 ≤ Lib.idxOfS monthsL (lowS s) then Lib.idxOfS monthsL (lowS s) + 1 else Lib.idxOfS monthsL (lowS s) := rfl
      generalize hi : Lib.idxOfS monthsL (lowS s) = v at *
      have Hv := Lib.hid hv
      clear hv
      by_cases h0 : 0 ≤ v
      all_goals
        go_wp2_with fail
        refine (monIdx_any _ _ _ m1).mono ?_
        rw [hi]
        rintro e w3 ⟨rfl, hb3⟩
        go_wp2
        go_ret2
        refine ⟨?_, vi b1 hb3⟩
        rw [Hf.out, Hv.out]
        first | rw [if_pos h0] | rw [if_neg (by omega)]
        rfl
    · by_cases k4 : k = 4
      · subst k4
        have hv : numN 4 s = Lib.idxOfS daysL (lowS s) := rfl
        generalize hi : Lib.idxOfS daysL (lowS s) = v at *
        have Hv := Lib.hid hv
        clear hv
        go_wp2_with fail
        refine (dayIdx_any _ _ _ d1).mono ?_
        rw [hi]
        rintro e w3 ⟨rfl, hb3⟩
        go_wp2
        go_ret2
        exact ⟨by rw [Hf.out, Hv.out]; rfl, vi b1 hb3⟩
      · have hv : numN k s = -1 := by unfold numN; rw [if_neg k3, if_neg k4]
        have Hv := Lib.hid hv
        clear hv
        go_wp2
        go_ret2
        exact ⟨by rw [Hf.out, Hv.out]; rfl, b1⟩
theorem number_any (k : Int) (s : ByteArray) (w : World) (hs : s.size ≤ 1000) (hE : Env w) :
    Calls Tryz.prog 164 #[.int .i64 k, .string s] w fun e w' => e = .returned (.tuple #[.int .i64 (numF k s).1, .bool (numF k s).2]) ∧ Below w.heap.size w w' := by
  cases hd : digB s with
  | true => exact number_dig k s w hd
  | false =>
    refine number_rest k s w hs hE hd fun h1 h2 => ?_
    cases ht : trimD s with
    | nil => rw [digB, ht] at hd; simp at hd; omega
    | cons c r => exact ⟨c, r, rfl⟩
end Go.Proofs.YtceddjpaddcjiaaGreatDoor

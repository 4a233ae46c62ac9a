/- The walks of field.Parse and cron.Parse: a text's expression, as a plain function says. -/
import Derived.Test.YtceddjpaddcjiaaGreatDoorItem
import Derived.Test.YtceddjpaddcjiaaGreatDoorCron
import Derived.Lib.SplitLaws
namespace Go.Proofs.YtceddjpaddcjiaaGreatDoor
open Go.RowKit
theorem blk_setg {w : World} {k : Nat} {cs : Array Value} {t : TypeId} (h : w.heap[k]? = some (.cells cs t (0, 0))) (o : Nat) (u : Value) :
    (w.setCell ⟨k, o, none⟩ u).heap[k]? = some (.cells (cs.setIfInBounds o u) t (0, 0)) := by
  simp [World.setCell, Array.getElem?_modify, h]
theorem blk_other {w : World} {k : Nat} {o : Obj} (h : w.heap[k]? = some o) {p : Addr} (hk : k ≠ p.block) (u : Value) : (w.setCell p u).heap[k]? = some o :=
  (Below.heap_setCell w p u k hk).trans h
def splitL (s : ByteArray) (c : UInt8) : List ByteArray := Lib.splitB ⟨#[c]⟩ 0 (Lib.countB s ⟨#[c]⟩) s
theorem splitB_size (sep : ByteArray) : ∀ (n : Nat) (s : ByteArray), ∀ x ∈ Lib.splitB sep 0 n s, x.size ≤ s.size
  | 0, s => by intro x hx; simp [Lib.splitB] at hx; rw [hx]; exact Nat.le_refl _
  | n + 1, s => by
    intro x hx
    unfold Lib.splitB at hx
    split at hx
    · simp at hx; rw [hx]; exact Nat.le_refl _
    · rcases List.mem_cons.1 hx with rfl | hx
      · rw [ByteArray.size_extract]; omega
      · have := splitB_size sep n _ x hx
        rw [ByteArray.size_extract] at this
        omega
theorem splitL_len (s : ByteArray) (c : UInt8) : (splitL s c).length = Lib.countB s ⟨#[c]⟩ + 1 := Lib.splitB_all ⟨#[c]⟩ (Nat.le_refl 1) 0 _ s rfl
theorem splitL_le (s : ByteArray) (c : UInt8) : (splitL s c).length ≤ s.size + 1 := by
  rw [splitL_len]
  have := Lib.countB_le ⟨#[c]⟩ (Nat.le_refl 1) s.size s (Nat.le_refl _)
  omega
theorem splitL_size (s : ByteArray) (c : UInt8) : ∀ x ∈ splitL s c, x.size ≤ s.size := splitB_size _ _ s
theorem ssplit_any (s : ByteArray) (c : UInt8) (w : World) (hs : s.size ≤ 1000) (hE : Env w) :
    Calls Tryz.prog 130 #[.string s, .string ⟨#[c]⟩] w fun e w' =>
      e = .returned (.slice (some ⟨w.heap.size, 0, none⟩) (splitL s c).length (splitL s c).length) ∧ w' = w.alloc (.cells ((splitL s c).map Value.string).toArray 9) := by
  obtain ⟨m, hm⟩ := hE.maxLen
  rw [splitL_len]
  exact Tryz.strings_Split s ⟨#[c]⟩ m w (by omega) hm (Nat.le_refl 1)
def starF (s : ByteArray) : Bool := Lib.hasPrefix s.data.toList [42]
def orF (k : Int) : List ByteArray → Int → Int × Int
  | [], acc => (acc, 0)
  | x :: r, acc => if (itemF k x).2 ≠ 0 then (0, (itemF k x).2) else orF k r (bits .or .u64 acc (itemF k x).1)
/-- A text's field: its bits, its star, the error's number. -/
def parseF (k : Int) (s : ByteArray) : Int × Bool × Int :=
  if 150 < s.size then (0, false, 3)
  else if (orF k (splitL s 44) 0).2 ≠ 0 then (0, false, (orF k (splitL s 44) 0).2) else ((orF k (splitL s 44) 0).1, starF s, 0)
set_option maxHeartbeats 4000000 in
set_option maxRecDepth 100000 in
theorem fparse_any (k : Int) (s : ByteArray) (w : World) (hs : s.size ≤ 400) (hE : Env w) (k0 : 0 ≤ k) (k1 : k ≤ 4) :
    Calls Tryz.prog 131 #[.int .i64 k, .string s] w fun e w' => e = .returned (.tuple #[.agg #[.int .u64 (parseF k s).1, .bool (parseF k s).2.1], .int .i64 (parseF k s).2.2]) ∧ Below w.heap.size w w' := by
  have HE := Lib.hid hE
  clear hE
  have r0 := blk_new w (.cells #[.int .u64 0, .bool false] 40)
  have b0 := a0 w (.cells #[.int .u64 0, .bool false] 40)
  go_enter Tryz.func131, Tryz.ntmps131
  go_wp2_with fail
  generalize w.alloc _ = W at *
  refine (fis_any k _ k0 k1).mono ?_
  rintro e w1 ⟨rfl, hb⟩
  have r1 := blk_keep r0 hb
  have b1 := vi b0 hb
  clear r0 b0 hb
  have hz := blk_lt r1
  by_cases h150 : 150 < s.size
  · have HV := Lib.hid (show parseF k s = (0, false, 3) by unfold parseF; rw [if_pos h150])
    have c1 := blk_cell r1
    have f1 := blk_free r1
    go_wp2
    exact bodyPost_ret (v := .tuple #[.agg #[.int .u64 0, .bool false], .int .i64 3]) (by simp [results, Tryz.results131, go_sem, c1]) rfl ⟨by rw [HV.out], by go_grown⟩
  · have hv : parseF k s = if (orF k (splitL s 44) 0).2 ≠ 0 then (0, false, (orF k (splitL s 44) 0).2) else ((orF k (splitL s 44) 0).1, starF s, 0) := by unfold parseF; rw [if_neg h150]
    have HV := Lib.hid hv
    clear hv
    go_wp2_with fail
    refine (Tryz.strings_HasPrefix s ⟨#[42]⟩ _).mono ?_
    rintro e w2 ⟨rfl, rfl⟩
    go_wp2_with fail
    change Calls _ _ _ (w2.alloc (.cells #[.int .u64 0, .bool (starF s)] 40)) _
    have b2 := al b1 (.cells #[.int .u64 0, .bool (starF s)] 40)
    have r2 := blk_alloc (o' := .cells #[.int .u64 0, .bool (starF s)] 40) r1
    have f2 := blk_new w2 (.cells #[.int .u64 0, .bool (starF s)] 40)
    have nf : w.heap.size ≠ w2.heap.size := by omega
    have nf2 : w.heap.size ≤ w2.heap.size := by omega
    clear b1 r1 hz
    generalize w2.alloc (.cells #[.int .u64 0, .bool (starF s)] 40) = W2 at *
    generalize w2.heap.size = bf at *
    refine (ssplit_any s 44 _ (by omega) (env_keep HE.out b2)).mono ?_
    rintro e w3 ⟨rfl, rfl⟩
    have b3 := al b2 (.cells ((splitL s 44).map Value.string).toArray 9)
    have r3 := blk_alloc (o' := .cells ((splitL s 44).map Value.string).toArray 9) r2
    have f3 := blk_alloc (o' := .cells ((splitL s 44).map Value.string).toArray 9) f2
    have p3 := blk_new W2 (.cells ((splitL s 44).map Value.string).toArray 9)
    have np := blk_lt f2
    have np' : bf ≠ W2.heap.size := by omega
    clear b2 r2 f2
    generalize W2.alloc (.cells ((splitL s 44).map Value.string).toArray 9) = W3 at *
    generalize W2.heap.size = bp at *
    have hll := splitL_le s 44
    have hsz := splitL_size s 44
    generalize splitL s 44 = L at *
    go_wp2_with fail
    go_loopg [27] 1000 (fun g iv wr => ∃ (j : Nat) (acc : Int), iv = .int .i64 j ∧ j ≤ L.length ∧ L.length - j ≤ g ∧ Aside (orF k (L.drop j) acc = orF k L 0) ∧ Below w.heap.size w wr ∧ wr.heap[w.heap.size]? = some (.cells #[.int .u64 0, .bool false] 40) ∧ wr.heap[bf]? = some (.cells #[.int .u64 acc, .bool (starF s)] 40) ∧ wr.heap[bp]? = some (.cells (L.map Value.string).toArray 9))
    case atStart => exact ⟨0, 0, rfl, Nat.zero_le _, by omega, rfl, b3, r3, f3, p3⟩
    case round =>
      obtain ⟨j, acc, rfl, hj, hg, hO, bb, rr, ff, pp⟩ := hrel
      clear b3 r3 f3 p3
      have HO := Lib.hid hO
      clear hO
      by_cases hlt : j < L.length
      · have hx : L.drop j = L[j] :: L.drop (j + 1) := List.drop_eq_getElem_cons hlt
        have hxs := hsz L[j] (List.getElem_mem hlt)
        have cp : wr.cell? ⟨bp, j, none⟩ = some (.string L[j]) := by rw [blk_cell pp]; simp [hlt]
        generalize L[j] = x at *
        have HX := Lib.hid hx
        have HSZ := Lib.hid hsz
        clear hx hsz
        go_wp2_with fail
        refine (item_any k x _ (by omega) (env_keep HE.out bb) k0 k1).mono ?_
        rintro e w4 ⟨rfl, hb⟩
        have bb4 := vi bb hb
        have rr4 := blk_keep rr hb
        have ff4 := blk_keep ff hb
        have pp4 := blk_keep pp hb
        clear bb rr ff pp hb cp
        have ho : orF k (x :: L.drop (j + 1)) acc = if (itemF k x).2 ≠ 0 then (0, (itemF k x).2) else orF k (L.drop (j + 1)) (bits .or .u64 acc (itemF k x).1) := rfl
        rw [← HX.out, HO.out] at ho
        generalize itemF k x = p at *
        obtain ⟨st, er⟩ := p
        have Ho := Lib.hid ho
        clear ho
        have cf := blk_cell ff4
        have gf := blk_free ff4
        have cr := blk_cell rr4
        have gr := blk_free rr4
        by_cases he : er = 0
        · subst he
          have Hn := Lib.hid (show orF k (L.drop (j + 1)) (bits .or .u64 acc st) = orF k L 0 by rw [Ho.out, if_neg (by simp)])
          go_wp2
          go_roundg (gk - 1)
          case measure => omega
          case rel =>
            refine ⟨j + 1, _, by go_num, by omega, by omega, Hn.out, bb4.setCell nf2 _, blk_other rr4 nf _, ?_, blk_other pp4 (Ne.symm np') _⟩
            have := blk_setg ff4 0 (.int .u64 (bits .or .u64 acc st))
            simpa using this
        · have hne : (er != 0) = true := by simpa using he
          have HV2 := Lib.hid (show parseF k s = (0, false, er) by rw [HV.out, Ho.out, if_pos he, if_pos he])
          clear he
          go_wp2
          exact bodyPost_ret (v := .tuple #[.agg #[.int .u64 0, .bool false], .int .i64 er]) (by simp [results, Tryz.results131, go_sem, cr]) rfl ⟨by rw [HV2.out], by go_grown⟩
      · have hd : L.drop j = [] := List.drop_eq_nil_of_le (by omega)
        have ho := HO.out
        rw [hd] at ho
        have HV2 := Lib.hid (show parseF k s = (acc, starF s, 0) by rw [HV.out, ← ho]; simp [orF])
        clear hd ho
        have cf := blk_cell ff
        have cr := blk_cell rr
        have gr := blk_free rr
        go_wp2
        exact bodyPost_ret (v := .tuple #[.agg #[.int .u64 acc, .bool (starF s)], .int .i64 0]) (by simp [results, Tryz.results131, go_sem, cr]) rfl ⟨by rw [HV2.out], by go_grown⟩
end Go.Proofs.YtceddjpaddcjiaaGreatDoor

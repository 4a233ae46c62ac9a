/- The walks of plan.each and of the iterator that it hands back, whose rows lie in a block of its own. -/
import Derived.Test.YtceddjpaddcjiaaGreatDoorFirst
import Derived.Test.YtceddjpaddcjiaaGreatDoorRegionIn
namespace Go.Proofs.YtceddjpaddcjiaaGreatDoor
open Go.RowKit
/-- The iterator's rows: in a block of its own. -/
def RowsIn (W : World) (base : Nat) (p : Option Addr) (L : List Rw) : Prop :=
  L = [] ∨ ∃ T cur, p = some ⟨T, 0, none⟩ ∧ base ≤ T ∧ W.heap[T]? = some (.cells cur 166 (0, 0)) ∧ ∀ i (h : i < L.length) k v, (rwC L[i])[k]? = some v → cur[i * 24 + k]? = some v
theorem rowsIn_of_own {W : World} {base : Nat} {v : Value} {L : List Rw} (h : W.ownsRow base 166 24 v L.length (rowsC L)) : ∃ p c, v = .slice p L.length c ∧ RowsIn W base p L := by
  obtain ⟨h1, ⟨hv, h0⟩ | ⟨g, cap, cur, hv, hb, hg, hcap, hmax, hcs, htake⟩⟩ := h
  · exact ⟨none, 0, by rw [hv, h0], Or.inl (List.length_eq_zero_iff.1 h0)⟩
  · refine ⟨_, cap, hv, Or.inr ⟨g, cur, rfl, hb, hg, fun i hi k u hu => ?_⟩⟩
    have h2 := flat_at (C := rwC) (sz := 24) rwC_len L i hi k u hu
    rw [show L.flatMap rwC = rowsC L from rfl, ← htake, List.getElem?_take] at h2
    split at h2
    · simpa using h2
    · cases h2
theorem rowsIn_elems {W : World} {base : Nat} {p : Option Addr} {L : List Rw} (h : RowsIn W base p L) : ElemsAt 24 rwC W W.heap.size p L := by
  rcases h with h | ⟨T, cur, hp, _, hT, hc⟩
  · exact Or.inl h
  · exact Or.inr ⟨T, 0, hp, blk_lt hT, fun i hi k v hv => by rw [blk_cell hT, Nat.zero_add]; exact hc i hi k v hv⟩
theorem rowsIn_below {W W' : World} {base : Nat} {p : Option Addr} {L : List Rw} (h : RowsIn W base p L) (hb : Below W.heap.size W W') : RowsIn W' base p L := by
  rcases h with h | ⟨T, cur, hp, hb0, hT, hc⟩
  · exact Or.inl h
  · exact Or.inr ⟨T, cur, hp, hb0, blk_keep hT hb, hc⟩
theorem rowsIn_keeps {M : Nat → Obj → Prop} {W W' : World} {base : Nat} {p : Option Addr} {L : List Rw} (h : RowsIn W base p L) (hk : Keeps M W W') (hM : ∀ k cs, base ≤ k → ¬ M k (.cells cs 166 (0, 0))) : RowsIn W' base p L := by
  rcases h with h | ⟨T, cur, hp, hb0, hT, hc⟩
  · exact Or.inl h
  · exact Or.inr ⟨T, cur, hp, hb0, hk.same _ _ hT (hM _ _ hb0), hc⟩
theorem rowsIn_step {W : World} {base : Nat} {T : Nat} {L : List Rw} {i : Nat} (h : RowsIn W base (some ⟨T, 0, none⟩) L) (hi : i < L.length) (ha : W.heap[T]? = W.heap[T]?) :
    RowsIn ((W.setCell ⟨T, i * 24 + 22, none⟩ (.int .i64 (stepR L[i]).at')).setCell ⟨T, i * 24 + 23, none⟩ (.bool (stepR L[i]).ov)) base (some ⟨T, 0, none⟩) (L.set i (stepR L[i])) := by
  rcases h with h | ⟨T', cur, hp, hb0, hT, hc⟩
  · exact absurd h (elems_len hi)
  · injection hp with hp
    injection hp with hp
    subst hp
    have hs : i * 24 + 23 < cur.size := by
      have := hc i hi 23 _ rfl
      exact (Array.getElem?_eq_some_iff.1 this).1
    refine Or.inr ⟨T, (cur.setIfInBounds (i * 24 + 22) (.int .i64 (stepR L[i]).at')).setIfInBounds (i * 24 + 23) (.bool (stepR L[i]).ov), rfl, hb0, blk_setg (blk_setg hT _ _) _ _, fun j hj k v hv => ?_⟩
    have hj' : j < L.length := by simpa using hj
    have hk : k < 24 := (List.getElem?_eq_some_iff.1 hv).1
    by_cases e : j = i
    · subst e
      rw [List.getElem_set_self] at hv
      by_cases e22 : k = 22
      · subst e22
        rw [Array.getElem?_setIfInBounds_ne (by omega), Array.getElem?_setIfInBounds_self_of_lt (by omega)]
        exact hv
      by_cases e23 : k = 23
      · subst e23
        rw [Array.getElem?_setIfInBounds_self_of_lt (by simp; omega)]
        exact hv
      rw [Array.getElem?_setIfInBounds_ne (by omega), Array.getElem?_setIfInBounds_ne (by omega)]
      refine hc j hj' k v ?_
      rw [← hv]
      have : k < 22 := by omega
      iterate 22 (rcases k with _ | k; · rfl)
      omega
    · rw [List.getElem_set_ne (Ne.symm e)] at hv
      rw [Array.getElem?_setIfInBounds_ne (by omega), Array.getElem?_setIfInBounds_ne (by omega)]
      exact hc j hj' k v hv
theorem each_any (jp : Option Addr) (jn jc : Nat) (fr tt : Int) (w : World) :
    Calls Tryz.prog 84 #[.slice jp jn jc, .int .i64 fr, .int .i64 tt] w fun e w' => e = .returned (.func (.func 113) #[] #[.pointer (some ⟨w.heap.size + 1, 0, none⟩), .pointer (some ⟨w.heap.size + 1 + 1, 0, none⟩), .pointer (some ⟨w.heap.size, 0, none⟩)]) ∧
      w' = ((w.alloc (.cells #[.slice jp jn jc] 22)).alloc (.cells #[.int .i64 fr] 2)).alloc (.cells #[.int .i64 tt] 2) := by
  go_enter Tryz.func84, Tryz.ntmps84
  go_wp2
  go_ret
  exact ⟨rfl, rfl⟩
end Go.Proofs.YtceddjpaddcjiaaGreatDoor

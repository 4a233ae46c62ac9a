/- The walk of slices.Clone over jobs. -/
import Derived.Test.YtceddjpaddcjiaaGreatDoorPFirst
namespace Go.Proofs.YtceddjpaddcjiaaGreatDoor
open Go.RowKit
theorem flat_get {α : Type} {sz : Nat} {C : α → List Value} (hC : ∀ x, (C x).length = sz) : ∀ (l : List α) (j : Nat) (u : Value), (l.flatMap C)[j]? = some u → ∃ (i : Nat) (h : i < l.length) (k : Nat), j = i * sz + k ∧ (C l[i])[k]? = some u
  | [], j, u, h => by simp at h
  | x :: l, j, u, h => by
    rw [List.flatMap_cons] at h
    by_cases hj : j < sz
    · rw [List.getElem?_append_left (by rw [hC]; exact hj)] at h
      exact ⟨0, by simp, j, by simp, h⟩
    · rw [List.getElem?_append_right (by rw [hC]; omega), hC] at h
      obtain ⟨i, hi, k, e, hk⟩ := flat_get hC l (j - sz) u h
      exact ⟨i + 1, by simpa using hi, k, by rw [Nat.succ_mul]; omega, by simpa using hk⟩
theorem elems_cells {α : Type} {sz : Nat} {C : α → List Value} {w : World} {n : Nat} {ad : Addr} {l : List α} (hC : ∀ x, (C x).length = sz) (h : ElemsAt sz C w n (some ad) l) : ∀ j u, (l.flatMap C)[j]? = some u → w.cell? (ad.add j) = some u := by
  intro j u hu
  obtain ⟨i, hi, k, rfl, hk⟩ := flat_get hC l j u hu
  obtain ⟨b, o, e, _, hc⟩ := h.resolve_left (elems_len hi)
  injection e with e
  subst e
  have := hc i hi k u hk
  rw [show ((⟨b, o, none⟩ : Addr).add (i * sz + k)) = ⟨b, o + (i * sz + k), none⟩ from Addr.add_mid _ _ _, ← Nat.add_assoc]
  exact this
theorem jbC_len (j : Jb) : (jbC j).length = 12 := rfl
abbrev jobZ : Value := .agg #[.int .u64 0, .string ⟨#[]⟩, .string ⟨#[]⟩, .int .i64 0, .int .i64 0, .int .i64 0, .int .i64 0, .int .i64 0, .slice none 0 0, .bool false, .int .u64 0, .int .i64 0]
theorem info_job : (Tryz.prog.info? 37).map (fun i => (i.zero, i.size, i.bytes)) = some (some jobZ, 12, 128) := by kernel_rfl
theorem one_jobs (js : List Jb) : ∀ u ∈ js.flatMap jbC, u.oneCell' = true := by
  intro u hu
  obtain ⟨j, _, hu⟩ := List.mem_flatMap.1 hu
  have : u.oneCell' = true := by
    simp only [List.mem_cons, List.not_mem_nil, or_false] at hu
    rcases hu with h | h | h | h | h | h | h | h | h | h | h | h <;> (rw [h]; rfl)
  exact this
def CloneAt (js : List Jb) (w : World) (e : Ending) (w' : World) : Prop := ∃ p c, e = .returned (.slice p js.length c) ∧ w'.ownsRow w.heap.size 37 12 (.slice p js.length c) js.length (js.flatMap jbC) ∧ Below w.heap.size w w'
set_option maxHeartbeats 4000000 in
set_option maxRecDepth 100000 in
theorem clone_any (jp : Option Addr) (js : List Jb) (jc : Nat) (w : World) (hJ : JobsAt w w.heap.size jp js) (hl : js.length ≤ 2097152) :
    Calls Tryz.prog 13 #[.slice jp js.length jc] w (CloneAt js w) := by
  cases jp with
  | none =>
    have hz : js = [] := hJ.resolve_right (by rintro ⟨b, o, e, _⟩; cases e)
    subst hz
    have hq := @Lib.run_eql_slice_nil Tryz.prog
    go_enter Tryz.func13, Tryz.ntmps13
    go_wp2
    go_ret
    exact ⟨none, 0, rfl, World.ownsRow_nil _ _ _ _, Below.refl _ _⟩
  | some ad =>
    have A1 := a0 w (.cells #[] 37)
    have hJ1 := elems_cells (C := jbC) (sz := 12) jbC_len (jobs_keep hJ A1)
    have hO := World.ownsRow_made w (e := 37) (size := 12) (base := w.heap.size) #[] 0 (Nat.le_refl _) (Nat.zero_le _) rfl
    obtain ⟨i0, hi, hz0, hz1, hz2⟩ := info_parts info_job
    have HI := Lib.hid hi
    have HZ0 := Lib.hid hz0
    have HZ1 := Lib.hid hz1
    have HZ2 := Lib.hid hz2
    have HJ1 := Lib.hid hJ1
    clear hi hz0 hz1 hz2 hJ hJ1
    have hq := @Lib.run_eql_slice_nil Tryz.prog
    have z1 := A1.size
    go_enter Tryz.func13, Tryz.ntmps13
    go_wp2_with (at_builtin; refine wpList_append_own _ rfl (.tmp 5) (.tmp 6) 22 rfl w.heap.size 37 i0 _ 12 128 Tryz.underlying22 HI.out HZ0.out HZ1.out HZ2.out rfl (by decide) _ 0 [] rfl hO ad js.length jc (js.flatMap jbC) rfl (flat_len jbC_len js) HJ1.out (one_jobs js) (by unfold maxLen; omega) (by omega) (by simp) ?_; intro v9 w9 hown9 hgrow9 _)
    go_ret
    have hown10 : w9.ownsRow w.heap.size 37 12 v9 js.length (js.flatMap jbC) := by simpa using hown9
    obtain ⟨p, c, rfl, _⟩ := elems_own jbC_len hown10
    exact ⟨p, c, rfl, hown10, A1.grown hgrow9 (by simp) (fun k hk => by injection hk with hk; subst hk; exact Nat.le_refl _)⟩
end Go.Proofs.YtceddjpaddcjiaaGreatDoor

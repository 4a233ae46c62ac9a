/- The walks of the law's two jobs and of known. -/
import Derived.Test.YtceddjpaddcjiaaGreatDoorFree
import Derived.Test.YtceddjpaddcjiaaGreatDoorEqIt
namespace Go.Proofs.YtceddjpaddcjiaaGreatDoor
open Go.RowKit
abbrev jbA : Jb := ⟨1, ⟨#[97]⟩, ⟨#[48, 32, 42, 32, 42, 32, 42, 32, 42]⟩, 2, 0, 1, 0, 4000, none, 0, 0, false, 0, 0⟩
abbrev jbB : Jb := ⟨2, ⟨#[98]⟩, ⟨#[42, 47, 51, 48, 32, 42, 32, 42, 32, 42, 32, 42]⟩, 2, 0, 1, 0, 60, none, 0, 0, false, 0, 0⟩
def twoJ : List Jb := [jbA, jbB]
set_option maxRecDepth 100000 in
theorem two_runs : runsF twoJ 0 7200 9 = [⟨1800, 2, 1860, 1, 1⟩, ⟨3600, 1, 7600, 1, 0⟩, ⟨3600, 2, 3660, 1, 1⟩, ⟨5400, 2, 5460, 1, 1⟩, ⟨7200, 1, 11200, 1, 0⟩, ⟨7200, 2, 7260, 1, 1⟩] := by kernel_rfl
theorem two_none : runsF twoJ 5 5 9 = [] := by kernel_rfl
theorem two_zero : runsF twoJ 0 7200 0 = [] := by kernel_rfl
def TwoAt (w : World) (e : Ending) (w' : World) : Prop := ∃ p, e = .returned (.slice p twoJ.length 2) ∧ (Env w → JobsOk w' p twoJ) ∧ Below w.heap.size w w'
set_option maxHeartbeats 4000000 in
set_option maxRecDepth 100000 in
theorem two_any (w : World) : Calls Tryz.prog 47 #[] w (TwoAt w) := by
  go_enter Tryz.func47, Tryz.ntmps47
  go_wp2
  go_ret
  have nb := blk_new ((w.alloc (jbO jbA)).alloc (jbO jbB)) (.cells #[.int .u64 1, .string ⟨#[97]⟩, .string ⟨#[48, 32, 42, 32, 42, 32, 42, 32, 42]⟩, .int .i64 2, .int .i64 0, .int .i64 1, .int .i64 0, .int .i64 4000, .slice none 0 0, .bool false, .int .u64 0, .int .i64 0, .int .u64 2, .string ⟨#[98]⟩, .string ⟨#[42, 47, 51, 48, 32, 42, 32, 42, 32, 42, 32, 42]⟩, .int .i64 2, .int .i64 0, .int .i64 1, .int .i64 0, .int .i64 60, .slice none 0 0, .bool false, .int .u64 0, .int .i64 0] 37)
  simp only [World.size_alloc] at nb
  have B := al (al (a0 w (jbO jbA)) (jbO jbB)) (.cells #[.int .u64 1, .string ⟨#[97]⟩, .string ⟨#[48, 32, 42, 32, 42, 32, 42, 32, 42]⟩, .int .i64 2, .int .i64 0, .int .i64 1, .int .i64 0, .int .i64 4000, .slice none 0 0, .bool false, .int .u64 0, .int .i64 0, .int .u64 2, .string ⟨#[98]⟩, .string ⟨#[42, 47, 51, 48, 32, 42, 32, 42, 32, 42, 32, 42]⟩, .int .i64 2, .int .i64 0, .int .i64 1, .int .i64 0, .int .i64 60, .slice none 0 0, .bool false, .int .u64 0, .int .i64 0] 37)
  refine ⟨_, rfl, fun hE => ⟨env_keep hE B, Or.inr ⟨_, 0, rfl, by simp, fun i hi k v hv => ?_⟩, by decide, by decide, fun j hj => ?_⟩, B⟩
  · rw [blk_cell nb, Nat.zero_add]
    have hk : k < 12 := (List.getElem?_eq_some_iff.1 hv).1
    rcases i with _ | _ | i
    · iterate 12 (rcases k with _ | k; · exact hv)
      omega
    · iterate 12 (rcases k with _ | k; · exact hv)
      omega
    · exact absurd hi (by simp [twoJ])
  · have : j = jbA ∨ j = jbB := by simpa [twoJ] using hj
    rcases this with rfl | rfl
    · exact ⟨Or.inl rfl, Or.inl rfl, by decide⟩
    · exact ⟨Or.inl rfl, Or.inl rfl, by decide⟩
end Go.Proofs.YtceddjpaddcjiaaGreatDoor

/- PlanFree answers true, whatever its arguments, where they are of bulk at most 1048576, and its arguments read afterwards as before: conditions: the listed package variables of the library hold what their texts lay. -/
import Derived.Test.YtceddjpaddcjiaaGreatDoorCards
import Derived.Test.YtceddjpaddcjiaaGreatDoorTie
import Derived.Test.YtceddjpaddcjiaaGreatDoorPFree
import Derived.Test.YtceddjpaddcjiaaGreatDoorArgs
import Derived.Test.YtceddjpaddcjiaaGreatDoorLaid
import Derived.ProofKit
import Derived.OpenShut
import Derived.Deep.DeepHandedRow
import Derived.Deep.DeepWitnessRowRef
namespace Go.Proofs.YtceddjpaddcjiaaGreatDoor
open Go.ChangeShapes Go.WideShapes Go.ChangeAt Go.RowKit
theorem own : ownKnob Tryz.prog.godebug = none := by kernel_rfl
theorem laidOut : laidOutB Tryz.prog = true := by kernel_rfl
theorem argOk_of {W : World} {jp : Option Addr} {B : Nat} {js : List Jb} (hE : Env W) (hB : B ≤ 1048576) (h : JobsRead W jp B js) : ArgOk W jp js := by
  obtain ⟨h1, h2, h3⟩ := h
  refine ⟨hE, h1, by omega, fun q hq => ?_, fun q hq => ?_⟩
  · obtain ⟨a, b, c, d, _⟩ := h3 q hq
    exact ⟨a, by omega, by omega, by omega⟩
  · obtain ⟨_, _, _, _, e, f⟩ := h3 q hq
    exact ⟨e, f⟩
set_option maxRecDepth 1000000 in
theorem free_reads (os : Os) {H : Type} (enc : TypeId × Value → H) : ∃ places, DataW.whole enc Tryz.prog ((laidWorld os).forCall (fun _ _ => 0) ⟨#[], #[.slice none 0 0, .int .i64 0, .int .i64 0], []⟩).memory Tryz.f3.params.toList Rows.planFreeSpec.vars false #[Value.slice none 0 0, .int .i64 0, .int .i64 0].toList 8 = some ([.nil, .lit (.int .i64 0), .lit (.int .i64 0)], [], places) :=
  ⟨[], by kernel_rfl⟩
set_option maxRecDepth 100000 in
set_option maxHeartbeats 2000000 in
theorem free_lifted (os : Os) (started : os.Started) (H : Type) (enc : TypeId × Value → H) (F : Stop.Interp) :
    ReturnsInHanded {} Tryz.checked os 3 .any ((Rows.OpenSpec.upto Rows.planFreeSpec).preRow enc Tryz.prog Tryz.f3 Rows.planFreeUptoRow.domain false Rows.planFreeUptoRow.laid) (((Rows.OpenSpec.upto Rows.planFreeSpec).at F).post enc Tryz.prog Tryz.f3 false true false false) := by
  obtain ⟨places, hx⟩ := free_reads os enc
  refine returnsInHanded_of_row (C := Tryz.checked) (s := Rows.OpenSpec.upto Rows.planFreeSpec) own started (by kernel_rfl) Tryz.func3
    (witness_row_atRef (enc := enc) (C := Tryz.checked) false (laidWorld os) #[.slice none 0 0, .int .i64 0, .int .i64 0] rfl (by kernel_rfl) (by kernel_rfl) (by kernel_rfl)
      (OpenSpec.preRow_of_cond 8 hx (by kernel_rfl) (fun k hk => by cases hk; kernel_rfl) (by kernel_rfl) (laid_met os _))) ?_
  intro W base args ds gs before hval0 hW _ hcond0 _ hL hsh _
  have hcond : Rows.uptoSmall H (ds ++ gs) = true := hcond0 _ rfl
  clear hcond0
  have hval : ∀ (j : Nat) t v, Tryz.f3.params[j]? = some t → args[j]? = some v → Value.okWide Tryz.prog W .any base t v := hval0
  have hW' := hW
  obtain ⟨p, q, hA0, hV0, rfl, _, _⟩ := hW
  have hA : DataW.TrodAll enc Tryz.prog W 0 (fun _ => true) true Tryz.f3.params.toList args.toList ds p := hA0
  rw [Tryz.params3] at hA hval
  obtain ⟨v0, v1, v2, d0, d1, d2, p0, p1, p2, rfl, rfl, rfl, h0, h1, h2⟩ := trodAll_three hA
  obtain ⟨rfl, rfl⟩ := trodVars_none hV0
  obtain ⟨jp, jn, jc, rfl⟩ := okWide_slice Tryz.underlying22 (hval 0 _ v0 rfl rfl)
  obtain ⟨fr, rfl, rfl, rfl, wf1⟩ := open_int Tryz.underlying2 (hval 1 _ v1 rfl rfl) h1
  obtain ⟨tt, rfl, rfl, rfl, wf2⟩ := open_int Tryz.underlying2 (hval 2 _ v2 rfl rfl) h2
  have h0k := h0
  obtain ⟨fuel0, hf0⟩ := h0
  obtain ⟨js, rfl, hjs⟩ := open_jobs hf0
  clear hA0 hV0 hval0
  simp only [List.append_nil] at hW' hcond
  have hlt : ∀ x ∈ p0, x.block < W.heap.size := fun x hx => by simpa using hW'.lt x (by simpa using hx)
  have hb : Rows.uptoBulk d0 ≤ 1048576 := by
    have := of_decide_eq_true hcond
    simp only [Rows.uptoBulkAll] at this
    omega
  refine (planfree_any jp js jc fr tt W (argOk_of (env_of_laid hL hsh) hb hjs)).mono ?_
  rintro e W' ⟨rfl, bel⟩
  have e1 : ((Rows.OpenSpec.upto Rows.planFreeSpec).at F).fn H ([d0, .lit (.int .i64 fr), .lit (.int .i64 tt)] ++ []) = { results := [.lit (.bool true)], args := [d0, .lit (.int .i64 fr), .lit (.int .i64 tt)] } := rfl
  refine ⟨_, rfl, _, _, _, [], p0, [], hW', ?_, ?_, ?_, bel.frame _, fun h => by cases h⟩
  · rw [e1]; exact trodAll_mk1 (shut_bool Tryz.underlying4 _)
  · rw [e1]
    have := trodAll_mk3 (Below.trod laidOut (by kernel_rfl) (of_decide_eq_true (by kernel_rfl)) h0k bel hlt) (shut_int (enc := enc) Tryz.underlying2 wf1) (shut_int (enc := enc) Tryz.underlying2 wf2)
    have e2 : p0 ++ ([] ++ []) = p0 := by simp
    rw [e2] at this
    exact this
  · rw [e1]; rfl
theorem free_said : Rows.PlanFreeUptoSaid :=
  OpenClaim.holds_of_cond 3 Tryz.f3 rfl rfl rfl rfl rfl rfl rfl ⟨rfl, rfl, rfl, rfl, rfl⟩ rfl rfl rfl rfl rfl (by kernel_rfl) Tryz.func3 (by kernel_rfl)
    (of_decide_eq_true (by kernel_rfl)) (by unfold Func.isWrapper; first | (rw [if_pos (by decide +kernel)]; kernel_rfl) | (rw [if_neg (by decide +kernel)]; exact ⟨rfl, rfl⟩))
    (fun os started H enc _ F => by rw [OpenClaim.pre_eq_preRow]; exact free_lifted os started H enc F)
set_option maxRecDepth 100000 in
theorem free_plain (f : FuncId) (fn : Func) (hf : Tryz.pinned.checked.prog.funcNamed "ringer/ringerlaw37.PlanFree" = some f) (hfn : Tryz.pinned.checked.prog.funcs[f]? = some fn) :
    true = Tryz.pinned.checked.prog.looks [] ∧ ∀ (j : Nat) t, fn.params[j]? = some t → Tryz.pinned.checked.prog.wantsStandIn t = false := by
  obtain rfl : f = 3 := Option.some.inj ((show Tryz.prog.funcNamed "ringer/ringerlaw37.PlanFree" = some 3 by kernel_rfl).symm.trans hf) |>.symm
  obtain rfl : fn = Tryz.f3 := (Option.some.inj (Tryz.func3.symm.trans hfn)).symm
  refine ⟨by kernel_rfl, fun j t ht => ?_⟩
  rw [Tryz.params3] at ht
  have ht : t = 22 ∨ t = 2 := by simpa using Array.mem_of_getElem? ht
  rcases ht with rfl | rfl
  · exact (show Tryz.prog.wantsStandIn 22 = false by kernel_rfl)
  · exact (show Tryz.prog.wantsStandIn 2 = false by kernel_rfl)
theorem planFreeUpto_card : Rows.PlanFreeUptoCardSaid :=
  Claim7.holds_tied_plain_at .later [] _ _ _ _ free_said (fun _ h => by cases h) (by kernel_rfl) (fun _ h => by cases h) planFreeUpto_row_tie rfl ⟨rfl, rfl⟩ (by kernel_rfl) rfl free_plain (by kernel_rfl)
#print axioms planFreeUpto_card
end Go.Proofs.YtceddjpaddcjiaaGreatDoor

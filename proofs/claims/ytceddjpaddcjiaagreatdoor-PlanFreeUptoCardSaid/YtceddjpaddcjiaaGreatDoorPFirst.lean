/- The walk of plan.First. -/
import Derived.Test.YtceddjpaddcjiaaGreatDoorRuns
namespace Go.Proofs.YtceddjpaddcjiaaGreatDoor
open Go.RowKit
abbrev itC (x : Int × Int) : List Value := [.int .i64 x.1, .int .u64 x.2]
abbrev itO (x : Int × Int) : Obj := .cells #[.int .i64 x.1, .int .u64 x.2] 31
theorem itC_len (x : Int × Int) : (itC x).length = 2 := rfl
def itOf (x : Rn) : Int × Int := (x.at', x.id)
theorem info_it : (Tryz.prog.info? 31).map (fun i => (i.zero, i.size, i.bytes)) = some (some (.agg #[.int .i64 0, .int .u64 0]), 2, 16) := by kernel_rfl
theorem runsF_len (js : List Jb) (fr tt most : Int) (h : most ≤ 61) : (runsF js fr tt most).length ≤ 61 := by
  unfold runsF givesF
  split
  · simp
  split
  · rw [List.length_map]
    have := each_len tt most.toNat (rowsF js fr)
    omega
  · simp
/-- All that a call of plan's asks of its jobs. -/
structure JobsOk (w : World) (jp : Option Addr) (js : List Jb) : Prop where
  env : Env w
  jobs : JobsAt w w.heap.size jp js
  len : js.length ≤ 13
  ids : (js.map (·.id)).Nodup
  ok : ∀ j ∈ js, JobOk w w.heap.size j
theorem jobsOk_keep {w w' : World} {jp : Option Addr} {js : List Jb} (h : JobsOk w jp js) (hb : Below w.heap.size w w') : JobsOk w' jp js :=
  ⟨env_keep h.env hb, jobs_mono (jobs_keep h.jobs hb) hb.size, h.len, h.ids, fun j hj => jobOk_mono (jobOk_keep (h.ok j hj) hb) hb.size⟩
theorem take_snoc {α β : Type} (f : α → β) (l : List α) (j : Nat) (h : j < l.length) : (l.take (j + 1)).map f = (l.take j).map f ++ [f l[j]] := by
  rw [List.take_succ_eq_append_getElem h, List.map_append]; rfl
set_option maxHeartbeats 8000000 in
set_option maxRecDepth 100000 in
theorem pfirst_any (jp : Option Addr) (js : List Jb) (jc : Nat) (fr tt most : Int) (w : World) (h : JobsOk w jp js) (hm : most ≤ 61) :
    Calls Tryz.prog 10 #[.slice jp js.length jc, .int .i64 fr, .int .i64 tt, .int .i64 most] w fun e w' => ∃ p c, e = .returned (.slice p ((runsF js fr tt most).map itOf).length c) ∧ ElemsAt 2 itC w' w'.heap.size p ((runsF js fr tt most).map itOf) ∧ Below w.heap.size w w' := by
  have hlen := runsF_len js fr tt most hm
  have H := Lib.hid h
  have hr0 := runs_any jp js jc fr tt most w h.env h.jobs h.len h.ids h.ok hm
  generalize runsF js fr tt most = l at *
  have HR0 := Lib.hid hr0
  clear h hr0
  go_enter Tryz.func10, Tryz.ntmps10
  go_wp2_with fail
  refine HR0.out.mono ?_
  rintro e w1 ⟨p, c, rfl, hL, hb1, -⟩
  have HL := Lib.hid hL
  clear hL
  have z1 := hb1.size
  obtain ⟨i0, hi, hz0, hz1, hz2⟩ := info_parts info_it
  have HI := Lib.hid hi
  have HZ0 := Lib.hid hz0
  have HZ1 := Lib.hid hz1
  have HZ2 := Lib.hid hz2
  clear hi hz0 hz1 hz2
  go_wp2_with fail
  go_loopg [9, 18] 100 (fun g ov iv wr => ∃ (j : Nat), iv = .int .i64 j ∧ j ≤ l.length ∧ l.length - j ≤ g ∧ Below w1.heap.size w1 wr ∧ wr.ownsRow w1.heap.size 31 2 ov ((l.take j).map itOf).length (((l.take j).map itOf).flatMap itC))
  case atStart => exact ⟨0, rfl, by omega, by omega, Below.refl _ _, World.ownsRow_nil _ _ _ _⟩
  case round =>
    obtain ⟨j, rfl, hj, hg, B, hO⟩ := hrel
    by_cases hlt : j < l.length
    · obtain ⟨b, o, rfl, hbl, hc⟩ := (elems_keep HL.out B).resolve_left (elems_len hlt)
      have hr : wr.rangeAt b (o + j * 5) (rnC l[j]) := fun k v hv => hc j hlt k v hv
      have HX := Lib.hid (take_snoc itOf l j hlt)
      have hzr := B.size
      have hln : ((l.take j).map itOf).length = j := by simp; omega
      have HO := Lib.hid hO
      have HLN := Lib.hid hln
      clear hc hO hln
      generalize l[j] = x at *
      generalize (l.take j).map itOf = P at *
      have hPl : P.length ≤ 61 := by rw [HLN.out]; omega
      have B1 := al B (rnO x)
      have XB := blk_new wr (rnO x)
      have hO1 := HO.out.alloc (rnO x)
      have nb := blk_new (wr.alloc (rnO x)) (itO (x.at', x.id))
      rw [World.size_alloc] at nb
      have nws := World.news_of_block nb
      clear nb
      go_wp2_with (first | (refine wpList_load_mid rfl 93 (.tmp 20) rfl b (o + j * 5) rfl (rnC x) _ hr Tryz.underlying93 rfl (by kernel_rfl) ?_) | (refine wpList_store_new rfl 93 (.tmp 11) (.tmp 21) rfl wr _ _ rfl rfl rfl (by kernel_rfl) rfl (by simp [Value.oneCell']) ?_) | (at_builtin; refine wpList_append_lies _ rfl (.tmp 22) (.tmp 25) 25 rfl w1.heap.size 31 i0 _ 2 16 Tryz.underlying25 HI.out HZ0.out HZ1.out HZ2.out rfl (by decide) _ P.length _ rfl (hO1.alloc _) ⟨wr.heap.size + 1, 0, none⟩ 1 1 (itC (x.at', x.id)) rfl rfl nws (by simp [Value.oneCell']) (by decide) (by unfold maxLen; omega) (by omega) (by simp; omega) _ rfl ?_; intro g9 cap9 w9 hown9 hgrow9 _ _))
      have B9 := (al B1 (itO (itOf x))).grown hgrow9 (by simp; omega) (fun k hk => (HO.out.lt k hk).1)
      have hO9 : w9.ownsRow w1.heap.size 31 2 (.slice (some ⟨g9, 0, none⟩) (P.length + 1) cap9) ((l.take (j + 1)).map itOf).length (((l.take (j + 1)).map itOf).flatMap itC) := by
        rw [HX.out, List.length_append, List.flatMap_append]
        simpa [itOf] using hown9
      go_roundg (gk - 1)
      case measure => omega
      case rel => exact ⟨j + 1, by go_num, by omega, by omega, B9, hO9⟩
    · have hje : j = l.length := by omega
      subst hje
      rw [List.take_length] at hO
      obtain ⟨p', c', rfl, he⟩ := elems_own itC_len hO
      go_wp2
      go_ret
      exact ⟨p', c', rfl, he, vi hb1 B⟩
end Go.Proofs.YtceddjpaddcjiaaGreatDoor

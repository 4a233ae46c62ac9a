/- The walks of the closure in plan.runs that asks for one job, and of slices.IndexFunc over it. -/
import Derived.Test.YtceddjpaddcjiaaGreatDoorPlanRows
import Derived.Test.YtceddjpaddcjiaaGreatDoorPlanF
import Derived.Test.YtceddjpaddcjiaaGreatDoorElems
import Derived.Deep.MidRow
namespace Go.Proofs.YtceddjpaddcjiaaGreatDoor
open Go.RowKit
def JobOk (w : World) (n : Nat) (j : Jb) : Prop := DepsAt w j.dp j.dn ∧ depsBelow n j.dp j.dn ∧ j.dn ≤ 20
theorem jobOk_keep {w w' : World} {n : Nat} {j : Jb} (h : JobOk w n j) (hb : Below n w w') : JobOk w' n j := ⟨deps_keep h.1 h.2.1 hb, h.2⟩
theorem jobOk_mono {w : World} {n m : Nat} {j : Jb} (h : JobOk w n j) (hm : n ≤ m) : JobOk w m j := ⟨h.1, deps_mono hm h.2.1, h.2.2⟩
set_option maxHeartbeats 4000000 in
set_option maxRecDepth 100000 in
theorem runs1_no (k j : Jb) (bj : Nat) (w : World) (hj : w.heap[bj]? = some (jbO j)) (h : k.id ≠ j.id) :
    Calls Tryz.prog 85 #[jbV k, .pointer (some ⟨bj, 0, none⟩)] w fun e w' => e = .returned (.bool false) ∧ Below w.heap.size w w' := by
  have B := a0 w (jbO k)
  have J1 := blk_alloc (o' := jbO k) hj
  have K1 := blk_new w (jbO k)
  have H := Lib.hid h
  clear h hj
  go_enter Tryz.func85, Tryz.ntmps85
  go_wp2_with (first | (refine wpList_load_row rfl 37 (.tmp 2) rfl w.heap.size rfl 37 _ _ _ K1 Tryz.underlying37 rfl (by kernel_rfl) ?_) | (refine wpList_load_row rfl 37 (.tmp 1) rfl bj rfl 37 _ _ _ J1 Tryz.underlying37 rfl (by kernel_rfl) ?_) | ((conv in (World.alloc w (jbO k)) => skip); generalize World.alloc w (jbO k) = W at *))
  refine (same_no k j W H.out).mono ?_
  rintro e w2 ⟨rfl, hb⟩
  have B := vi B hb
  go_wp2
  go_ret
  exact ⟨rfl, B⟩
set_option maxHeartbeats 4000000 in
set_option maxRecDepth 100000 in
theorem runs1_yes (j : Jb) (bj : Nat) (w : World) (hj : w.heap[bj]? = some (jbO j)) (h : JobOk w w.heap.size j) :
    Calls Tryz.prog 85 #[jbV j, .pointer (some ⟨bj, 0, none⟩)] w fun e w' => e = .returned (.bool true) ∧ Below w.heap.size w w' := by
  have B := a0 w (jbO j)
  have J1 := blk_alloc (o' := jbO j) hj
  have K1 := blk_new w (jbO j)
  have H := Lib.hid (jobOk_mono (jobOk_keep h B) B.size)
  clear h hj
  go_enter Tryz.func85, Tryz.ntmps85
  go_wp2_with (first | (refine wpList_load_row rfl 37 (.tmp 2) rfl w.heap.size rfl 37 _ _ _ K1 Tryz.underlying37 rfl (by kernel_rfl) ?_) | (refine wpList_load_row rfl 37 (.tmp 1) rfl bj rfl 37 _ _ _ J1 Tryz.underlying37 rfl (by kernel_rfl) ?_) | ((conv in (World.alloc w (jbO j)) => skip); generalize World.alloc w (jbO j) = W at *))
  refine (same_self j W H.out.1 H.out.2.1 H.out.2.2).mono ?_
  rintro e w2 ⟨rfl, hb⟩
  have B := vi B hb
  go_wp2
  go_ret
  exact ⟨rfl, B⟩
set_option maxHeartbeats 4000000 in
set_option maxRecDepth 100000 in
theorem index_any (jp : Option Addr) (js : List Jb) (jc : Nat) (i : Nat) (hi : i < js.length) (hd : (js.map (·.id)).Nodup) (hn : js.length ≤ 13) (bj : Nat) (w : World) (hJ : JobsAt w w.heap.size jp js) (hj : w.heap[bj]? = some (jbO js[i])) (hk : JobOk w w.heap.size js[i]) :
    Calls Tryz.prog 22 #[.slice jp js.length jc, .func (.func 85) #[] #[.pointer (some ⟨bj, 0, none⟩)]] w fun e w' => e = .returned (.int .i64 i) ∧ Below w.heap.size w w' := by
  have HJ := Lib.hid hJ
  have HD := Lib.hid hd
  have HK := Lib.hid hk
  clear hJ hd hk
  go_enter Tryz.func22, Tryz.ntmps22
  go_wp2_with fail
  go_loopg [8] 20 (fun g iv wr => ∃ (k : Nat), iv = .int .i64 k ∧ k ≤ i ∧ i - k < g ∧ Below w.heap.size w wr)
  case atStart => exact ⟨0, rfl, by omega, by omega, Below.refl _ _⟩
  case round =>
    obtain ⟨k, rfl, hki, hg, B⟩ := hrel
    have hlt : k < js.length := by omega
    obtain ⟨b, o, rfl, hbl, hc⟩ := (jobs_keep HJ.out B).resolve_left (elems_len hlt)
    have hr : wr.rangeAt b (o + k * 12) (jbC js[k]) := fun q v hv => hc k hlt q v hv
    have jj := blk_keep hj B
    have hs := B.size
    clear hc
    by_cases he : k = i
    · subst he
      have HK2 := Lib.hid (jobOk_mono (jobOk_keep HK.out B) hs)
      have HJJ := Lib.hid jj
      clear HK jj hj
      generalize js[k] = q at *
      go_wp2_with (refine wpList_load_mid rfl 37 (.tmp 14) rfl b (o + k * 12) rfl (jbC q) _ hr Tryz.underlying37 rfl (by kernel_rfl) ?_)
      refine (runs1_yes q bj wr HJJ.out HK2.out).mono ?_
      rintro e w2 ⟨rfl, hb⟩
      have B := vi B hb
      go_wp2
      go_ret
      exact ⟨rfl, B⟩
    · have hne : js[k].id ≠ js[i].id := fun h => he (nodup_inj HD.out (by simpa using hlt) (by simpa using hi) (by simpa using h))
      have HNE := Lib.hid hne
      have HJJ := Lib.hid jj
      clear hne jj
      generalize js[k] = q at *
      have hki2 : k < i := by omega
      go_wp2_with (refine wpList_load_mid rfl 37 (.tmp 14) rfl b (o + k * 12) rfl (jbC q) _ hr Tryz.underlying37 rfl (by kernel_rfl) ?_)
      refine (runs1_no q js[i] bj wr HJJ.out HNE.out).mono ?_
      rintro e w2 ⟨rfl, hb⟩
      have B := vi B hb
      go_wp2
      go_roundg (gk - 1)
      case measure => omega
      case rel => exact ⟨k + 1, by go_num, by omega, by omega, B⟩
end Go.Proofs.YtceddjpaddcjiaaGreatDoor

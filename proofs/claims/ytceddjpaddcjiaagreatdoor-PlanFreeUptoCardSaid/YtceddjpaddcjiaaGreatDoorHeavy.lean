/- The walk of the law's heavy: what it says when it says no. -/
import Derived.Test.YtceddjpaddcjiaaGreatDoorPFirst
import Derived.Maps.Own
import Derived.Maps.OwnSet
namespace Go.Proofs.YtceddjpaddcjiaaGreatDoor
open Go.RowKit Go.Maps
def keysJ (js : List Jb) (j : Nat) : List Lit := (js.take j).map fun q => .int .u64 q.id
def Light (js : List Jb) (most : Int) : Prop := (js.map (·.id)).Nodup ∧ (∀ j ∈ js, j.name.size + j.expr.size ≤ 1000 ∧ j.dn ≤ 20) ∧ js.length ≤ 12 ∧ most ≤ 60
def HeavyAt (js : List Jb) (most : Int) (w : World) (e : Ending) (w' : World) : Prop := ∃ b, e = .returned (.bool b) ∧ (b = false → Light js most) ∧ Below w.heap.size w w'
/-- What an argument's jobs are like. -/
def JobWf (j : Jb) : Prop := (Lit.int .u64 j.id).wf = true ∧ j.name.size ≤ 1125899906842624 ∧ j.expr.size ≤ 1125899906842624 ∧ j.dn ≤ 1125899906842624
theorem isKey_u64 (i : Int) : WideAt.IsKeyLit (Lit.int .u64 i) := by trivial
theorem map_law : Maps.Keyed Tryz.prog 29 := Maps.int_keyed Tryz.underlying29
theorem zero_unit (w : World) : (zeroValue 88).run Tryz.prog w = .ok (.agg #[]) w := by kernel_rfl
theorem light_snoc {js : List Jb} {j : Nat} {q : Jb} (hT : js.take (j + 1) = js.take j ++ [q]) (hh : has (setOf (H := Unit) (.agg []) (keysJ js j)) (Lit.int .u64 q.id) = false) (h1 : q.name.size + q.expr.size ≤ 1000) (h2 : q.dn ≤ 20)
    (hA : Aside (((js.take j).map (·.id)).Nodup ∧ ∀ q ∈ js.take j, q.name.size + q.expr.size ≤ 1000 ∧ q.dn ≤ 20)) : Aside (((js.take (j + 1)).map (·.id)).Nodup ∧ ∀ q ∈ js.take (j + 1), q.name.size + q.expr.size ≤ 1000 ∧ q.dn ≤ 20) := by
  obtain ⟨a, b⟩ := hA
  rw [hT]
  refine ⟨?_, fun x hx => ?_⟩
  · rw [List.map_append, List.nodup_append]
    refine ⟨a, by simp, fun x hx y hy e => ?_⟩
    have hy : y = q.id := by simpa using hy
    subst hy
    subst e
    obtain ⟨k, hk, hki⟩ := List.mem_map.1 hx
    rw [has_setOf _ _ _ (fun x hx => by obtain ⟨y, _, rfl⟩ := List.mem_map.1 hx; exact isKey_u64 _)] at hh
    have := List.any_eq_false.1 hh (Lit.int .u64 k.id) (List.mem_map_of_mem (f := fun q : Jb => Lit.int .u64 q.id) hk)
    rw [hki] at this
    exact this (WideAt.sameKey_self (isKey_u64 _))
  · rcases List.mem_append.1 hx with hx | hx
    · exact b x hx
    · have : x = q := by simpa using hx
      subst this
      exact ⟨h1, h2⟩
set_option maxHeartbeats 8000000 in
set_option maxRecDepth 100000 in
theorem heavy_any (jp : Option Addr) (js : List Jb) (jc : Nat) (most : Int) (w : World) (hJ : JobsAt w w.heap.size jp js) (hw : ∀ j ∈ js, JobWf j) (hl : js.length ≤ 2097152) :
    Calls Tryz.prog 9 #[.slice jp js.length jc, .int .i64 most] w (HeavyAt js most w) := by
  have hmm := @run_makeMap Tryz.prog
  have HJ := Lib.hid hJ
  have HW := Lib.hid hw
  clear hJ hw
  go_enter Tryz.func9, Tryz.ntmps9
  go_wp2_with fail
  go_loopg [13] (js.length + 1) (fun g iv wr => ∃ (j : Nat), iv = .int .i64 j ∧ j ≤ js.length ∧ js.length - j < g ∧ Below w.heap.size w wr ∧ wr.ownsMap Tryz.prog 29 (unitElem (H := Unit)) w.heap.size j (setOf (.agg []) (keysJ js j)) ∧
    Aside (((js.take j).map (·.id)).Nodup ∧ ∀ q ∈ js.take j, q.name.size + q.expr.size ≤ 1000 ∧ q.dn ≤ 20))
  case atStart => exact ⟨0, rfl, by omega, by omega, a0 w _, World.ownsMap_made _ _ _ _, by simp [Aside]⟩
  case round =>
    obtain ⟨j, rfl, hj, hg, B, hown, hA⟩ := hrel
    have HA := Lib.hid hA
    clear hA
    by_cases hlt : j < js.length
    · obtain ⟨b, o, rfl, hbl, hc⟩ := (jobs_keep HJ.out B).resolve_left (elems_len hlt)
      have hr : wr.rangeAt b (o + j * 12) (jbC js[j]) := fun k v hv => hc j hlt k v hv
      obtain ⟨w1, w2, w3, w4⟩ := HW.out _ (List.getElem_mem hlt)
      have HK := Lib.hid (take_snoc (fun q => Lit.int .u64 q.id) js j hlt)
      have HT := Lib.hid (List.take_succ_eq_append_getElem hlt)
      have hkey := keyOf_int_mk (P := Tryz.prog) Tryz.underlying29 w1
      clear hc
      generalize js[j] = q at *
      have hown1 := hown.alloc (jbO q)
      have JB := blk_new wr (jbO q)
      have B1 := al B (jbO q)
      have zr := B.size
      rcases hh : has (setOf (H := Unit) (.agg []) (keysJ js j)) (Lit.int .u64 q.id)
      rotate_left
      · clear HA HK HT
        go_wp2_with (first | (refine wpList_load_mid rfl 37 (.tmp 15) rfl b (o + j * 12) rfl (jbC q) _ hr Tryz.underlying37 rfl (by kernel_rfl) ?_) | (refine wpList_store_new rfl 37 (.tmp 7) (.tmp 16) rfl wr _ _ rfl rfl rfl (by kernel_rfl) rfl (by simp [Value.oneCell']) ?_) | ((conv in (World.alloc wr (jbO q)) => skip); generalize World.alloc wr (jbO q) = W2 at *; have jc := blk_cell JB; have jl := blk_lt JB) | (at_lookup; refine wpList_lookup_own_unit _ rfl _ _ 87 rfl 29 88 map_law Tryz.underlying87 (zero_unit _) w.heap.size j _ rfl hown1 _ _ rfl hkey ?_) | (at_mapUpdate; refine wpList_mapUpdate_own _ rfl _ _ _ 87 rfl 29 88 map_law Tryz.underlying87 _ w.heap.size j _ rfl (hown1.alloc _) (by unfold maxLen; omega) _ _ _ rfl rfl hkey _ [] unitElem_mk ?_; intro w9 hown9 hgrow9))
        go_ret
        exact ⟨true, rfl, fun h => (by cases h), al B1 _⟩
      by_cases h1 : q.name.size + q.expr.size ≤ 1000
      rotate_left
      · replace h1 : (1000 : Int) < q.name.size + q.expr.size := by omega
        clear HA HK HT
        go_wp2_with (first | (refine wpList_load_mid rfl 37 (.tmp 15) rfl b (o + j * 12) rfl (jbC q) _ hr Tryz.underlying37 rfl (by kernel_rfl) ?_) | (refine wpList_store_new rfl 37 (.tmp 7) (.tmp 16) rfl wr _ _ rfl rfl rfl (by kernel_rfl) rfl (by simp [Value.oneCell']) ?_) | ((conv in (World.alloc wr (jbO q)) => skip); generalize World.alloc wr (jbO q) = W2 at *; have jc := blk_cell JB; have jl := blk_lt JB) | (at_lookup; refine wpList_lookup_own_unit _ rfl _ _ 87 rfl 29 88 map_law Tryz.underlying87 (zero_unit _) w.heap.size j _ rfl hown1 _ _ rfl hkey ?_) | (at_mapUpdate; refine wpList_mapUpdate_own _ rfl _ _ _ 87 rfl 29 88 map_law Tryz.underlying87 _ w.heap.size j _ rfl (hown1.alloc _) (by unfold maxLen; omega) _ _ _ rfl rfl hkey _ [] unitElem_mk ?_; intro w9 hown9 hgrow9))
        go_ret
        exact ⟨true, rfl, fun h => (by cases h), al B1 _⟩
      by_cases h2 : q.dn ≤ 20
      rotate_left
      · replace h2 : (20 : Int) < q.dn := by omega
        clear HA HK HT
        go_wp2_with (first | (refine wpList_load_mid rfl 37 (.tmp 15) rfl b (o + j * 12) rfl (jbC q) _ hr Tryz.underlying37 rfl (by kernel_rfl) ?_) | (refine wpList_store_new rfl 37 (.tmp 7) (.tmp 16) rfl wr _ _ rfl rfl rfl (by kernel_rfl) rfl (by simp [Value.oneCell']) ?_) | ((conv in (World.alloc wr (jbO q)) => skip); generalize World.alloc wr (jbO q) = W2 at *; have jc := blk_cell JB; have jl := blk_lt JB) | (at_lookup; refine wpList_lookup_own_unit _ rfl _ _ 87 rfl 29 88 map_law Tryz.underlying87 (zero_unit _) w.heap.size j _ rfl hown1 _ _ rfl hkey ?_) | (at_mapUpdate; refine wpList_mapUpdate_own _ rfl _ _ _ 87 rfl 29 88 map_law Tryz.underlying87 _ w.heap.size j _ rfl (hown1.alloc _) (by unfold maxLen; omega) _ _ _ rfl rfl hkey _ [] unitElem_mk ?_; intro w9 hown9 hgrow9))
        go_ret
        exact ⟨true, rfl, fun h => (by cases h), al B1 _⟩
      · have HH := Lib.hid hh
        have h1' : decide ((1000 : Int) < q.name.size + q.expr.size) = false := by simp; omega
        have h2' : decide ((20 : Int) < q.dn) = false := by simp; omega
        go_wp2_with (first | (refine wpList_load_mid rfl 37 (.tmp 15) rfl b (o + j * 12) rfl (jbC q) _ hr Tryz.underlying37 rfl (by kernel_rfl) ?_) | (refine wpList_store_new rfl 37 (.tmp 7) (.tmp 16) rfl wr _ _ rfl rfl rfl (by kernel_rfl) rfl (by simp [Value.oneCell']) ?_) | ((conv in (World.alloc wr (jbO q)) => skip); generalize World.alloc wr (jbO q) = W2 at *; have jc := blk_cell JB; have jl := blk_lt JB) | (at_lookup; refine wpList_lookup_own_unit _ rfl _ _ 87 rfl 29 88 map_law Tryz.underlying87 (zero_unit _) w.heap.size j _ rfl hown1 _ _ rfl hkey ?_) | (at_mapUpdate; refine wpList_mapUpdate_own _ rfl _ _ _ 87 rfl 29 88 map_law Tryz.underlying87 _ w.heap.size j _ rfl (hown1.alloc _) (by unfold maxLen; omega) _ _ _ rfl rfl hkey _ [] unitElem_mk ?_; intro w9 hown9 hgrow9))
        have B9 := (al B1 (.cells #[] 88)).grown hgrow9 (by have := B1.size; simp; omega) (fun k hk => by injection hk with hk; omega)
        have hown10 : w9.ownsMap Tryz.prog 29 (unitElem (H := Unit)) w.heap.size (j + 1) (setOf (.agg []) (keysJ js (j + 1))) := by
          rw [show keysJ js (j + 1) = keysJ js j ++ [Lit.int .u64 q.id] from HK.out, setOf_snoc]
          exact hown9
        have HA9 := Lib.hid (light_snoc HT.out HH.out h1 h2 HA.out)
        go_roundg (gk - 1)
        case measure => omega
        case rel => exact ⟨j + 1, by go_num, by omega, by omega, B9, hown10, HA9.out⟩
    · have hje : j = js.length := by omega
      subst hje
      have hA := HA.out
      rw [List.take_length] at hA
      have HA2 := Lib.hid hA
      clear hA
      by_cases h1 : js.length ≤ 12
      rotate_left
      · replace h1 : (12 : Int) < js.length := by omega
        go_wp2
        go_ret
        exact ⟨true, rfl, fun h => (by cases h), B⟩
      by_cases h2 : most ≤ 60
      rotate_left
      · replace h2 : 60 < most := by omega
        have h1' : decide ((12 : Int) < js.length) = false := by simp; omega
        go_wp2
        go_ret
        exact ⟨true, rfl, fun h => (by cases h), B⟩
      have h1' : decide ((12 : Int) < js.length) = false := by simp; omega
      have h2' : decide (60 < most) = false := by simp; omega
      go_wp2
      go_ret
      exact ⟨false, rfl, fun _ => ⟨HA2.out.1, HA2.out.2, h1, h2⟩, B⟩
end Go.Proofs.YtceddjpaddcjiaaGreatDoor

/- The walks of package cron's May and DayFits, and of next.fits. -/
import Derived.Test.YtceddjpaddcjiaaGreatDoorStamp
import Derived.Test.YtceddjpaddcjiaaGreatDoorField
namespace Go.Proofs.YtceddjpaddcjiaaGreatDoor
open Go.RowKit
structure Ex where
  b0 : Int
  s0 : Bool
  b1 : Int
  s1 : Bool
  b2 : Int
  s2 : Bool
  b3 : Int
  s3 : Bool
  b4 : Int
  s4 : Bool
abbrev exC (x : Ex) : List Value := [.int .u64 x.b0, .bool x.s0, .int .u64 x.b1, .bool x.s1, .int .u64 x.b2, .bool x.s2, .int .u64 x.b3, .bool x.s3, .int .u64 x.b4, .bool x.s4]
abbrev exV (x : Ex) : Value := .agg #[.int .u64 x.b0, .bool x.s0, .int .u64 x.b1, .bool x.s1, .int .u64 x.b2, .bool x.s2, .int .u64 x.b3, .bool x.s3, .int .u64 x.b4, .bool x.s4]
abbrev exO (x : Ex) : Obj := .cells #[.int .u64 x.b0, .bool x.s0, .int .u64 x.b1, .bool x.s1, .int .u64 x.b2, .bool x.s2, .int .u64 x.b3, .bool x.s3, .int .u64 x.b4, .bool x.s4] 42
def Ex.ok (x : Ex) : Prop := u64ok x.b0 ∧ u64ok x.b1 ∧ u64ok x.b2 ∧ u64ok x.b3 ∧ u64ok x.b4
def exMayB (x : Ex) : Bool := fmayB 0 x.b0 && fmayB 1 x.b1 && fmayB 2 x.b2 && fmayB 3 x.b3 && fmayB 4 x.b4
set_option maxHeartbeats 2000000 in
set_option maxRecDepth 100000 in
theorem crmay_any (x : Ex) (w : World) :
    Calls Tryz.prog 90 #[exV x] w fun e w' => e = .returned (.bool (exMayB x)) ∧ Below w.heap.size w w' := by
  obtain ⟨b0, s0, b1, s1, b2, s2, b3, s3, b4, s4⟩ := x
  have i0 : ∀ w, (Instr.index 42 (exV ⟨b0, s0, b1, s1, b2, s2, b3, s3, b4, s4⟩) (.int .i64 0)).run Tryz.prog w = .ok (.agg #[.int .u64 b0, .bool s0]) w := fun _ => by kernel_rfl
  have i1 : ∀ w, (Instr.index 42 (exV ⟨b0, s0, b1, s1, b2, s2, b3, s3, b4, s4⟩) (.int .i64 1)).run Tryz.prog w = .ok (.agg #[.int .u64 b1, .bool s1]) w := fun _ => by kernel_rfl
  have i2 : ∀ w, (Instr.index 42 (exV ⟨b0, s0, b1, s1, b2, s2, b3, s3, b4, s4⟩) (.int .i64 2)).run Tryz.prog w = .ok (.agg #[.int .u64 b2, .bool s2]) w := fun _ => by kernel_rfl
  have i3 : ∀ w, (Instr.index 42 (exV ⟨b0, s0, b1, s1, b2, s2, b3, s3, b4, s4⟩) (.int .i64 3)).run Tryz.prog w = .ok (.agg #[.int .u64 b3, .bool s3]) w := fun _ => by kernel_rfl
  have i4 : ∀ w, (Instr.index 42 (exV ⟨b0, s0, b1, s1, b2, s2, b3, s3, b4, s4⟩) (.int .i64 4)).run Tryz.prog w = .ok (.agg #[.int .u64 b4, .bool s4]) w := fun _ => by kernel_rfl
  have hk := a0 w (exO ⟨b0, s0, b1, s1, b2, s2, b3, s3, b4, s4⟩)
  simp only [exMayB]
  go_enter Tryz.func90, Tryz.ntmps90
  go_wp2_with fail
  generalize w.alloc _ = W at *
  refine wp_loop_rounds 6 ?_
  rw [rounds_succ]
  go_wp2_with fail
  refine (fmay_any _ _ _ _ (by omega) (by omega)).mono ?_
  rintro e w0 ⟨rfl, hb⟩
  have hk := vi (al hk _) hb
  clear hb
  cases f0 : fmayB 0 b0
  · go_wp2
    go_ret
    exact ⟨by simp [f0], hk⟩
  go_wp2_with fail
  rw [rounds_succ]
  go_wp2_with fail
  refine (fmay_any _ _ _ _ (by omega) (by omega)).mono ?_
  rintro e w1 ⟨rfl, hb⟩
  have hk := vi (al hk _) hb
  clear hb
  cases f1 : fmayB 1 b1
  · go_wp2
    go_ret
    exact ⟨by simp [f0, f1], hk⟩
  go_wp2_with fail
  rw [rounds_succ]
  go_wp2_with fail
  refine (fmay_any _ _ _ _ (by omega) (by omega)).mono ?_
  rintro e w2 ⟨rfl, hb⟩
  have hk := vi (al hk _) hb
  clear hb
  cases f2 : fmayB 2 b2
  · go_wp2
    go_ret
    exact ⟨by simp [f0, f1, f2], hk⟩
  go_wp2_with fail
  rw [rounds_succ]
  go_wp2_with fail
  refine (fmay_any _ _ _ _ (by omega) (by omega)).mono ?_
  rintro e w3 ⟨rfl, hb⟩
  have hk := vi (al hk _) hb
  clear hb
  cases f3 : fmayB 3 b3
  · go_wp2
    go_ret
    exact ⟨by simp [f0, f1, f2, f3], hk⟩
  go_wp2_with fail
  rw [rounds_succ]
  go_wp2_with fail
  refine (fmay_any _ _ _ _ (by omega) (by omega)).mono ?_
  rintro e w4 ⟨rfl, hb⟩
  have hk := vi (al hk _) hb
  clear hb
  cases f4 : fmayB 4 b4
  · go_wp2
    go_ret
    exact ⟨by simp [f0, f1, f2, f3, f4], hk⟩
  go_wp2_with fail
  rw [rounds_succ]
  go_wp2
  go_ret
  exact ⟨by simp [f0, f1, f2, f3, f4], hk⟩
def exB (x : Ex) (k : Int) : Int := if k = 0 then x.b0 else if k = 1 then x.b1 else if k = 2 then x.b2 else if k = 3 then x.b3 else x.b4
theorem exB_at (x : Ex) : exB x 0 = x.b0 ∧ exB x 1 = x.b1 ∧ exB x 2 = x.b2 ∧ exB x 3 = x.b3 ∧ exB x 4 = x.b4 := ⟨rfl, rfl, rfl, rfl, rfl⟩
set_option maxHeartbeats 1000000 in
theorem allows_any (x : Ex) (hx : x.ok) (k n : Int) (w : World) (b : Nat) (hb : w.heap[b]? = some (exO x)) (h0 : k = 2 ∨ k = 3 ∨ k = 4) :
    Calls Tryz.prog 127 #[.int .i64 k, .int .i64 n, .pointer (some ⟨b, 0, none⟩)] w fun e w' => e = .returned (.bool (hasB (exB x k) n)) ∧ Below w.heap.size w w' := by
  obtain ⟨e0, e1, e2, e3, e4⟩ := exB_at x
  obtain ⟨-, -, h2, h3, h4⟩ := hx
  have h2 := h2.1
  have h3 := h3.1
  have h4 := h4.1
  have hc := blk_cell hb
  clear hb
  rcases h0 with rfl | rfl | rfl
  all_goals
    go_enter Tryz.func127, Tryz.ntmps127
    go_wp2_with (go_at_call 58; refine (has_any _ _ _ _ (by assumption)).mono ?_; rintro e w' ⟨rfl, hb⟩)
    go_ret
    exact ⟨by simp [*], by assumption⟩
def dayB (x : Ex) (n : Int) : Bool :=
  if x.s2 || x.s4 then hasB x.b3 (ofM n) && hasB x.b2 (ofD n) && hasB x.b4 (wdF n) else hasB x.b3 (ofM n) && (hasB x.b2 (ofD n) || hasB x.b4 (wdF n))
set_option maxHeartbeats 2000000 in
set_option maxRecDepth 100000 in
theorem dayfits_any (x : Ex) (hx : x.ok) (hm : exMayB x = true) (n : Int) (w : World) (h0 : 0 ≤ n) (h1 : n < 157054) :
    Calls Tryz.prog 94 #[exV x, clkV n 0 0 0] w fun e w' => e = .returned (.bool (dayB x n)) ∧ Below w.heap.size w w' := by
  have k0 : Below w.heap.size w ((w.alloc (exO x)).alloc (.cells #[.int .i64 (ofY n), .int .i64 (ofM n), .int .i64 (ofD n), .int .i64 0, .int .i64 0, .int .i64 0, .int .i64 (wdF n)] 147)) := al (a0 w _) _
  have c0 := blk_alloc (o' := .cells #[.int .i64 (ofY n), .int .i64 (ofM n), .int .i64 (ofD n), .int .i64 0, .int .i64 0, .int .i64 0, .int .i64 (wdF n)] 147) (blk_new w (exO x))
  have d0 := blk_new (w.alloc (exO x)) (.cells #[.int .i64 (ofY n), .int .i64 (ofM n), .int .i64 (ofD n), .int .i64 0, .int .i64 0, .int .i64 0, .int .i64 (wdF n)] 147)
  rw [World.size_alloc] at d0
  go_enter Tryz.func94, Tryz.ntmps94
  go_wp2_with fail
  generalize (w.alloc (exO x)).alloc _ = W at *
  refine (crmay_any _ _).mono ?_
  rw [hm]
  rintro e w1 ⟨rfl, hb⟩
  have k1 := vi k0 hb
  have c1 := blk_keep c0 hb
  have d1 := blk_keep d0 hb
  clear k0 c0 d0 hb
  have cc := blk_cell c1
  have dc := blk_cell d1
  go_wp2_with fail
  refine (smay_any n _ h0 h1).mono ?_
  rintro e w2 ⟨rfl, hb⟩
  have k2 := vi k1 hb
  have c2 := blk_keep c1 hb
  have d2 := blk_keep d1 hb
  clear k1 c1 d1 cc dc hb
  go_wp2_with fail
  have cl := later_blk c2
  have dl := later_blk d2
  have h3 := exB_at x
  refine region_later (by kernel_rfl) (by kernel_rfl) ?_
  repeat (go_big_quiet_step ((go_at_call 127; exact later_call (allows_any x hx _ _ _ _ (blk_keep c2 (Later.below _)) (by omega)))))
  refine wpQuiet_nil ?_
  rintro _ ⟨u, rfl⟩
  have k3 := vi k2 u.below
  have c3 := blk_keep c2 u.below
  have d3 := blk_keep d2 u.below
  have cc := blk_cell c3
  have dc := blk_cell d3
  obtain ⟨-, -, g2, g3, g4⟩ := exB_at x
  clear c2 d2 cl dl h3 k2
  generalize u.u = W4 at *
  rcases s2 : x.s2
  · rcases s4 : x.s4
    all_goals
      go_wp2_with (go_at_call 127; refine (allows_any x hx _ _ _ _ c3 (by omega)).mono ?_; rintro e w4 ⟨rfl, hb⟩)
      all_goals
        go_ret
        exact ⟨by simp [dayB, *], vi k3 (by assumption)⟩
  · go_wp2_with (go_at_call 127; refine (allows_any x hx _ _ _ _ c3 (by omega)).mono ?_; rintro e w4 ⟨rfl, hb⟩)
    all_goals
      go_ret
      exact ⟨by simp [dayB, *], vi k3 (by assumption)⟩
set_option maxHeartbeats 1000000 in
theorem fits_any (x : Ex) (hx : x.ok) (hm : exMayB x = true) (n : Int) (w : World) (h0 : 0 ≤ n) (h1 : n < 157054) :
    Calls Tryz.prog 59 #[exV x, .int .i64 n] w fun e w' => e = .returned (.bool (dayB x n)) ∧ Below w.heap.size w w' := by
  have k0 := a0 w (exO x)
  have c0 := blk_new w (exO x)
  go_enter Tryz.func59, Tryz.ntmps59
  go_wp2_with fail
  generalize w.alloc _ = W at *
  refine (split_day _ _ h0 h1).mono ?_
  rintro e w1 ⟨rfl, hb⟩
  have k1 := vi k0 hb
  have c1 := blk_keep c0 hb
  clear k0 c0 hb
  have cc := blk_cell c1
  have hz := blk_lt c1
  go_wp2_with fail
  refine (dayfits_any x hx hm _ _ h0 h1).mono ?_
  rintro e w2 ⟨rfl, hb⟩
  have k2 := vi (al k1 _) hb
  clear k1 cc hb
  go_wp2
  go_ret
  exact ⟨rfl, k2⟩
end Go.Proofs.YtceddjpaddcjiaaGreatDoor

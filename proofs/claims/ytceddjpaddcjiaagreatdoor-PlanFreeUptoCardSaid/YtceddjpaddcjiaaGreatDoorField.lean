/- The walks of package field's small functions and of math/bits.TrailingZeros64. -/
import Derived.Test.YtceddjpaddcjiaaGreatDoorRegion
import Derived.Shelf.Spec.TrailingZeros
namespace Go.Proofs.YtceddjpaddcjiaaGreatDoor
open Go.RowKit
/-- The library's table of de Bruijn in its variable. -/
def Tab64 (w : World) : Prop := TabAt 0 Lib.deBruijn64tab w
theorem tab_lt {w : World} (h : Tab64 w) : 0 < w.heap.size := World.block_lt_of_cell? w ⟨0, 0, none⟩ (h 0 (by decide))
theorem tab_keep {w w1 : World} (h : Tab64 w) (hb : Below w.heap.size w w1) : Tab64 w1 := fun j hj => (hb.cell (p := ⟨0, j, none⟩) (tab_lt h)).trans (h j hj)
def hasB (b n : Int) : Bool := decide (0 ≤ n) && decide (n ≤ 63) && (bits .and .u64 (b / 2 ^ n.toNat) 1 == 1)
set_option maxHeartbeats 400000 in
theorem has_any (b : Int) (s : Bool) (n : Int) (w : World) (h0 : 0 ≤ b) :
    Calls Tryz.prog 58 #[.agg #[.int .u64 b, .bool s], .int .i64 n] w fun e w' => e = .returned (.bool (hasB b n)) ∧ Below w.heap.size w w' := by
  by_cases h1 : 0 ≤ n
  · by_cases h2 : n ≤ 63
    all_goals
      go_enter Tryz.func58, Tryz.ntmps58
      go_wp2
      go_ret
      exact ⟨by simp [hasB, h1, h2] <;> omega, a0 w _⟩
  · go_enter Tryz.func58, Tryz.ntmps58
    go_wp2
    go_ret
    exact ⟨by simp [hasB]; omega, a0 w _⟩
theorem fis_any (k : Int) (w : World) (h0 : 0 ≤ k) (h1 : k ≤ 4) :
    Calls Tryz.prog 138 #[.int .i64 k] w fun e w' => e = .returned (.bool true) ∧ Below w.heap.size w w' := by
  go_enter Tryz.func138, Tryz.ntmps138
  go_wp2
  go_ret
  exact ⟨by simp [h1], Below.refl _ _⟩
theorem fis_no (k : Int) (w : World) (h0 : k < 0 ∨ 4 < k) :
    Calls Tryz.prog 138 #[.int .i64 k] w fun e w' => e = .returned (.bool false) ∧ Below w.heap.size w w' := by
  by_cases h1 : 0 ≤ k
  all_goals
    go_enter Tryz.func138, Tryz.ntmps138
    go_wp2
    go_ret
    exact ⟨by simp <;> omega, Below.refl _ _⟩
def lowF (k : Int) : Int := if k = 2 ∨ k = 3 then 1 else 0
def highF (k : Int) : Int := if k = 0 then 59 else if k = 1 then 23 else if k = 2 then 31 else if k = 3 then 12 else 7
def mostF (k : Int) : Int := if k = 0 then 59 else if k = 1 then 23 else if k = 2 then 31 else if k = 3 then 12 else 6
theorem mostF_at : mostF 0 = 59 ∧ mostF 1 = 23 ∧ mostF 2 = 31 ∧ mostF 3 = 12 ∧ mostF 4 = 6 := by decide
theorem lowF_at : lowF 0 = 0 ∧ lowF 1 = 0 ∧ lowF 2 = 1 ∧ lowF 3 = 1 ∧ lowF 4 = 0 := by decide
set_option maxHeartbeats 1000000 in
theorem bounds_any (k : Int) (w : World) (h0 : 0 ≤ k) (h1 : k ≤ 4) :
    Calls Tryz.prog 157 #[.int .i64 k] w fun e w' => e = .returned (.tuple #[.int .i64 (lowF k), .int .i64 (highF k), .int .i64 (mostF k)]) ∧ Below w.heap.size w w' := by
  have hk : k = 0 ∨ k = 1 ∨ k = 2 ∨ k = 3 ∨ k = 4 := by omega
  rcases hk with rfl | rfl | rfl | rfl | rfl
  all_goals
    have b1 := blk_new w (.cells #[.int .i64 0, .int .i64 59, .int .i64 59, .int .i64 0, .int .i64 23, .int .i64 23, .int .i64 1, .int .i64 31, .int .i64 31, .int .i64 1, .int .i64 12, .int .i64 12, .int .i64 0, .int .i64 7, .int .i64 6] 218)
    have hk := a0 w (.cells #[.int .i64 0, .int .i64 59, .int .i64 59, .int .i64 0, .int .i64 23, .int .i64 23, .int .i64 1, .int .i64 31, .int .i64 31, .int .i64 1, .int .i64 12, .int .i64 12, .int .i64 0, .int .i64 7, .int .i64 6] 218)
    go_enter Tryz.func157, Tryz.ntmps157
    go_wp2_with fail
    generalize w.alloc _ = W at *
    have c1 := later_blk b1
    clear b1
    refine region_later (by kernel_rfl) (by kernel_rfl) ?_
    repeat (go_big_quiet_step (fail))
    refine wpQuiet_nil ?_
    rintro _ ⟨u, rfl⟩
    go_wp2
    go_ret3
    exact ⟨rfl, vi hk u.below⟩
def allF (k : Int) : Int := if k = 0 then 1152921504606846975 else if k = 1 then 16777215 else if k = 2 then 4294967294 else if k = 3 then 8190 else 127
set_option maxHeartbeats 1000000 in
theorem all_any (k : Int) (w : World) (h0 : 0 ≤ k) (h1 : k ≤ 4) :
    Calls Tryz.prog 139 #[.int .i64 k] w fun e w' => e = .returned (.int .u64 (allF k)) ∧ Below w.heap.size w w' := by
  have hk : k = 0 ∨ k = 1 ∨ k = 2 ∨ k = 3 ∨ k = 4 := by omega
  rcases hk with rfl | rfl | rfl | rfl | rfl
  all_goals
    obtain ⟨e0, e1, e2, e3, e4⟩ := mostF_at
    obtain ⟨g0, g1, g2, g3, g4⟩ := lowF_at
    go_enter Tryz.func139, Tryz.ntmps139
    go_wp2_with fail
    refine (bounds_any _ _ (by omega) (by omega)).mono ?_
    rintro e w1 ⟨rfl, hb1⟩
    go_wp2_with fail
    refine region_later (by kernel_rfl) (by kernel_rfl) ?_
    repeat (go_big_quiet_step (fail))
    refine wpQuiet_nil ?_
    rintro _ ⟨u, rfl⟩
    go_wp2
    go_ret
    exact ⟨by rfl, vi hb1 u.below⟩
def fmayB (k b : Int) : Bool := (b != 0) && (bits .andNot .u64 b (allF k) == 0)
set_option maxHeartbeats 1000000 in
theorem fmay_any (k b : Int) (s : Bool) (w : World) (h0 : 0 ≤ k) (h1 : k ≤ 4) :
    Calls Tryz.prog 121 #[.int .i64 k, .agg #[.int .u64 b, .bool s]] w fun e w' => e = .returned (.bool (fmayB k b)) ∧ Below w.heap.size w w' := by
  rcases Bool.eq_false_or_eq_true (b != 0) with h2 | h2
  all_goals
    have b1 := blk_new w (.cells #[.int .u64 b, .bool s] 40)
    have hk := a0 w (.cells #[.int .u64 b, .bool s] 40)
    go_enter Tryz.func121, Tryz.ntmps121
    go_wp2_with fail
    generalize w.alloc _ = W at *
    have c1 := later_blk b1
    clear b1
    refine region_later (by kernel_rfl) (by kernel_rfl) ?_
    repeat (go_big_quiet_step ((first | (go_at_call 138; exact later_call (fis_any _ _ (by omega) (by omega))) | (go_at_call 139; exact later_call (all_any _ _ (by omega) (by omega))))))
    refine wpQuiet_nil ?_
    rintro _ ⟨u, rfl⟩
    go_wp2
    go_ret
    exact ⟨by simp [fmayB, h2], vi hk u.below⟩
set_option maxHeartbeats 1000000 in
theorem tz_core (x k idx : Nat) (w : World) (hx0 : ((x : Int) == 0) = false)
    (key : IntKind.u64.wrap (bits BinOp.and IntKind.u64 (x : Int) (IntKind.u64.wrap (-(x : Int))) * 285870213051353865) / 288230376151711744 = (idx : Int))
    (hi : idx < 64) (hk : k < 64) (hcell : w.cell? ⟨0, idx, none⟩ = some (.int .u8 k)) :
    Calls Tryz.prog 141 #[.int .u64 x] w fun e w' => e = .returned (.int .i64 k) ∧ w' = w := by
  go_enter Tryz.func141, Tryz.ntmps141
  go_wp2_with (simp only [key])
  go_ret
  exact ⟨rfl, rfl⟩
/-- math/bits.TrailingZeros64, of what is not 0. -/
theorem tz_any (x : Nat) (hx : x < 18446744073709551616) (hx0 : x ≠ 0) (w : World) (hT : Tab64 w) :
    Calls Tryz.prog 141 #[.int .u64 x] w fun e w' => e = .returned (.int .i64 (Lib.ctz 64 x)) ∧ Below w.heap.size w w' := by
  obtain ⟨hlow, hk⟩ := Lib.lowest_bit 64 x hx0 hx
  obtain ⟨hi, htab⟩ := Lib.deBruijn64_at _ hk
  have hcell := hT _ hi
  rw [htab] at hcell
  refine (tz_core x _ _ w (by simp; omega) (tz64_key x _ hx hx0 hlow) hi hk hcell).mono ?_
  rintro e w' ⟨rfl, rfl⟩
  exact ⟨rfl, Below.refl _ _⟩
def u64ok (b : Int) : Prop := 0 ≤ b ∧ b < 18446744073709551616
/-- The least number allowed from n on. -/
def firstB (b n : Int) : Option Int := if n > 63 ∨ b / 2 ^ n.toNat = 0 then none else some (n + Lib.ctz 64 (b / 2 ^ n.toNat).toNat)
theorem shr_lt (b n : Int) (h0 : u64ok b) : ∃ x : Nat, b / 2 ^ n.toNat = x ∧ x < 18446744073709551616 := by
  have h1 : 0 ≤ b / 2 ^ n.toNat := Int.ediv_nonneg h0.1 (Int.le_of_lt (Int.pow_pos (by decide)))
  have h2 : b / 2 ^ n.toNat ≤ b := Int.ediv_le_self _ h0.1
  have h3 := h0.2
  exact ⟨(b / 2 ^ n.toNat).toNat, by omega, by omega⟩
set_option maxHeartbeats 1000000 in
theorem first_any (b : Int) (s : Bool) (n : Int) (w : World) (h0 : u64ok b) (hn : 0 ≤ n) (hT : Tab64 w) :
    Calls Tryz.prog 124 #[.agg #[.int .u64 b, .bool s], .int .i64 n] w fun e w' =>
      e = .returned (match firstB b n with | none => .tuple #[.int .i64 0, .bool false] | some m => .tuple #[.int .i64 m, .bool true]) ∧ Below w.heap.size w w' := by
  obtain ⟨x, hx, hlt⟩ := shr_lt b n h0
  have hb0 := h0.1
  have b1 := blk_new w (.cells #[.int .u64 b, .bool s] 40)
  have hk := a0 w (.cells #[.int .u64 b, .bool s] 40)
  have hT1 := Lib.hid (tab_keep hT hk)
  clear hT h0
  rcases (show n = 0 ∨ 0 < n by omega) with rfl | hn0
  · skip
    by_cases h63 : (63 : Int) < (0 : Int)
    · have hf : firstB b (0 : Int) = none := by unfold firstB; rw [if_pos (.inl h63)]
      rw [hf]
      clear hf hx hlt
      go_enter Tryz.func124, Tryz.ntmps124
      go_wp2
      go_ret2
      exact ⟨rfl, hk⟩
    · by_cases hz : x = 0
      · have hf : firstB b (0 : Int) = none := by unfold firstB; rw [if_pos (.inr (by rw [hx, hz]; rfl))]
        rw [hf]
        subst hz
        clear hf hlt
        have hb' : (b == 0) = true := by simpa using hx
        clear hx
        go_enter Tryz.func124, Tryz.ntmps124
        go_wp2
        go_ret2
        exact ⟨rfl, hk⟩
      · have hf : firstB b (0 : Int) = some ((0 : Int) + Lib.ctz 64 x) := by
          unfold firstB; rw [if_neg (by rw [hx]; omega), hx]; rfl
        rw [hf]
        clear hf
        have hz' : ((x : Int) == 0) = false := by simp; omega
        have hc : Lib.ctz 64 x < 64 := (Lib.lowest_bit 64 x hz hlt).2
        have htz := Lib.hid (fun w1 (h : Tab64 w1) => tz_any x hlt hz w1 h)
        clear hlt hz
        generalize Lib.ctz 64 x = c at *
        obtain rfl : b = x := by simpa using hx
        clear hx
        go_enter Tryz.func124, Tryz.ntmps124
        go_wp2_with (go_at_call 141; refine (htz.out _ (by exact hT1.out)).mono ?_; rintro e w1 ⟨rfl, hb1⟩)
        go_ret2
        exact ⟨by simp, vi hk (by assumption)⟩
  · skip
    by_cases h63 : (63 : Int) < n
    · have hf : firstB b n = none := by unfold firstB; rw [if_pos (.inl h63)]
      rw [hf]
      clear hf hx hlt
      go_enter Tryz.func124, Tryz.ntmps124
      go_wp2
      go_ret2
      exact ⟨rfl, hk⟩
    · by_cases hz : x = 0
      · have hf : firstB b n = none := by unfold firstB; rw [if_pos (.inr (by rw [hx, hz]; rfl))]
        rw [hf]
        subst hz
        clear hf hlt
        skip
        go_enter Tryz.func124, Tryz.ntmps124
        go_wp2
        go_ret2
        exact ⟨rfl, hk⟩
      · have hf : firstB b n = some (n + Lib.ctz 64 x) := by
          unfold firstB; rw [if_neg (by rw [hx]; omega), hx]; rfl
        rw [hf]
        clear hf
        have hz' : ((x : Int) == 0) = false := by simp; omega
        have hc : Lib.ctz 64 x < 64 := (Lib.lowest_bit 64 x hz hlt).2
        have htz := Lib.hid (fun w1 (h : Tab64 w1) => tz_any x hlt hz w1 h)
        clear hlt hz
        generalize Lib.ctz 64 x = c at *
        skip
        go_enter Tryz.func124, Tryz.ntmps124
        go_wp2_with (go_at_call 141; refine (htz.out _ (by exact hT1.out)).mono ?_; rintro e w1 ⟨rfl, hb1⟩)
        go_ret2
        exact ⟨by simp, vi hk (by assumption)⟩
end Go.Proofs.YtceddjpaddcjiaaGreatDoor

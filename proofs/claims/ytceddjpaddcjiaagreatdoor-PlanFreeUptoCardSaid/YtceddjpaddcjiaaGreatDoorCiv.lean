/- The walks of packages civil and stamp: each returns what the plain functions say, and leaves what lay as it lay. -/
import Derived.Test.YtceddjpaddcjiaaGreatDoorBase
import Derived.Test.YtceddjpaddcjiaaGreatDoorCal
namespace Go.Proofs.YtceddjpaddcjiaaGreatDoor
open Go.RowKit
set_option maxHeartbeats 400000 in
theorem leap_any (y : Int) (w : World) (h0 : 0 ≤ y) (h1 : y ≤ 100000) :
    Calls Tryz.prog 140 #[.int .i64 y] w fun e w' => e = .returned (.bool (leapB y)) ∧ Below w.heap.size w w' := by
  by_cases h4 : y % 4 = 0
  · by_cases h100 : y % 100 = 0
    all_goals
      go_enter Tryz.func140, Tryz.ntmps140
      go_wp2
      go_ret
      exact ⟨by simp [leapB, h4, h100], (Below.refl _ _).alloc (Nat.le_refl _) _⟩
  · go_enter Tryz.func140, Tryz.ntmps140
    go_wp2
    go_ret
    exact ⟨by simp [leapB, h4], (Below.refl _ _).alloc (Nat.le_refl _) _⟩
set_option maxHeartbeats 400000 in
theorem long_any (y m : Int) (w : World) (h0 : 0 ≤ y) (h1 : y ≤ 100000) :
    Calls Tryz.prog 123 #[.int .i64 y, .int .i64 m] w fun e w' => e = .returned (.int .i64 (longF y m)) ∧ Below w.heap.size w w' := by
  by_cases hm : 1 ≤ m ∧ m ≤ 12
  · obtain ⟨ha, hb⟩ := hm
    by_cases h2 : m = 2
    · subst h2
      go_enter Tryz.func123, Tryz.ntmps123
      go_wp2_with (go_at_call 140; refine (leap_any _ _ (by omega) (by omega)).mono ?_; rintro e w' ⟨rfl, hb⟩; have hz := hb.size; simp at hz; obtain ⟨hc, hf⟩ := bcell hb; clear hf)
      all_goals
        go_ret
        exact ⟨by simp [longF, mlen, *], via ((Below.refl _ _).alloc (Nat.le_refl _) _) (by simp) (by assumption)⟩
    · have hcell : (w.alloc (.cells #[.int .i64 0, .int .i64 31, .int .i64 28, .int .i64 31, .int .i64 30, .int .i64 31, .int .i64 30, .int .i64 31, .int .i64 31, .int .i64 30, .int .i64 31, .int .i64 30, .int .i64 31] 187)).cell? ⟨w.heap.size, m.toNat, none⟩ = some (.int .i64 (mlen m)) := by
        have : m = 1 ∨ m = 3 ∨ m = 4 ∨ m = 5 ∨ m = 6 ∨ m = 7 ∨ m = 8 ∨ m = 9 ∨ m = 10 ∨ m = 11 ∨ m = 12 := by omega
        rcases this with rfl | rfl | rfl | rfl | rfl | rfl | rfl | rfl | rfl | rfl | rfl <;> (simp [mlen]; try go_cell)
      have hL : longF y m = mlen m := by unfold longF; rw [if_neg (by omega), if_neg (by omega)]
      rw [hL]
      go_enter Tryz.func123, Tryz.ntmps123
      go_wp2
      go_ret
      exact ⟨rfl, (Below.refl _ _).alloc (Nat.le_refl _) _⟩
  · have hL : longF y m = 0 := by unfold longF; rw [if_pos (by omega)]
    rw [hL]
    by_cases h1' : m < 1
    all_goals
      go_enter Tryz.func123, Tryz.ntmps123
      go_wp2
      go_ret
      exact ⟨rfl, (Below.refl _ _).alloc (Nat.le_refl _) _⟩
set_option maxHeartbeats 1000000 in
theorem of_any (n : Int) (w : World) (h0 : 0 ≤ n) (h1 : n < 157054) :
    Calls Tryz.prog 57 #[.int .i64 n] w fun e w' => e = .returned (.tuple #[.agg #[.int .i64 (ofY n), .int .i64 (ofM n), .int .i64 (ofD n)], .int .i64 0]) ∧ Below w.heap.size w w' := by
  have hd0 : 0 ≤ (n + 719468) % 146097 := by omega
  have hd1 : (n + 719468) % 146097 < 146097 := by omega
  have he : 4 ≤ (n + 719468) / 146097 ∧ (n + 719468) / 146097 ≤ 5 := by omega
  obtain ⟨he0, he1⟩ := he
  obtain ⟨ya, yb, -, -, -⟩ := yoe_spec _ hd0 hd1
  obtain ⟨ka, kb, -⟩ := doy_bd _ hd0 hd1
  obtain ⟨ma, mb, da, db⟩ := months_at _ ka kb
  unfold ofY ofM ofD
  clear db
  generalize hD : (n + 719468) % 146097 = D at *
  generalize hE : (n + 719468) / 146097 = E at *
  generalize hY : yoe D = Y at *
  generalize hK : doy D = K at *
  generalize hM : mpF K = M at *
  unfold mpF at hM
  unfold doy at hK
  rw [hY] at hK
  unfold yoe gD at hY
  by_cases h9 : 9 < M
  · rw [if_pos h9, if_pos h9]
    go_enter Tryz.func57, Tryz.ntmps57
    go_wp2
    exact bodyPost_ret (v := .tuple #[.agg #[.int .i64 (E * 400 + Y + 1), .int .i64 (M - 9), .int .i64 (K - (153 * M + 2) / 5 + 1)], .int .i64 0]) (by simp [results, Tryz.results57, go_sem]; omega) rfl ⟨rfl, by go_grown⟩
  · rw [if_neg h9, if_neg h9]
    go_enter Tryz.func57, Tryz.ntmps57
    go_wp2
    exact bodyPost_ret (v := .tuple #[.agg #[.int .i64 (E * 400 + Y), .int .i64 (M + 3), .int .i64 (K - (153 * M + 2) / 5 + 1)], .int .i64 0]) (by simp [results, Tryz.results57, go_sem]) rfl ⟨by simp, by go_grown⟩
end Go.Proofs.YtceddjpaddcjiaaGreatDoor

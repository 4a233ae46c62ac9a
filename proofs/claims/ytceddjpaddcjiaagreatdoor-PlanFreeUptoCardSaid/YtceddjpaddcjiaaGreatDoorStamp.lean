/- The walks of package stamp and of civil's dates. -/
import Derived.Test.YtceddjpaddcjiaaGreatDoorRegion
import Derived.Test.YtceddjpaddcjiaaGreatDoorCiv
namespace Go.Proofs.YtceddjpaddcjiaaGreatDoor
open Go.RowKit
def wdF (n : Int) : Int := (n % 7 + 11) % 7
set_option maxHeartbeats 400000 in
theorem weekday_any (n : Int) (w : World) (h0 : 0 ≤ n) (h1 : n < 157054) :
    Calls Tryz.prog 125 #[.int .i64 n] w fun e w' => e = .returned (.int .i64 (wdF n)) ∧ Below w.heap.size w w' := by
  go_enter Tryz.func125, Tryz.ntmps125
  go_wp2
  go_ret
  exact ⟨rfl, Below.refl _ _⟩
theorem stampis_any (t : Int) (w : World) :
    Calls Tryz.prog 122 #[.int .i64 t] w fun e w' => e = .returned (.bool (decide (0 ≤ t) && decide (t < 13569465600))) ∧ Below w.heap.size w w' := by
  by_cases h0 : 0 ≤ t
  all_goals
    go_enter Tryz.func122, Tryz.ntmps122
    go_wp2
    go_ret
    exact ⟨by simp [h0] <;> omega, Below.refl _ _⟩
theorem floor_no (t : Int) (w : World) (h : t < 0 ∨ 13569465600 ≤ t) :
    Calls Tryz.prog 91 #[.int .i64 t] w fun e w' => e = .returned (.tuple #[.int .i64 0, .int .i64 50]) ∧ Below w.heap.size w w' := by
  have hd : (decide (0 ≤ t) && decide (t < 13569465600)) = false := by simp; omega
  go_enter Tryz.func91, Tryz.ntmps91
  go_wp2_with (go_at_call 122; refine (stampis_any _ _).mono ?_; rw [hd]; rintro e w' ⟨rfl, hb⟩)
  go_ret2
  exact ⟨rfl, by assumption⟩
theorem floor_yes (t : Int) (w : World) (h0 : 0 ≤ t) (h1 : t < 13569465600) :
    Calls Tryz.prog 91 #[.int .i64 t] w fun e w' => e = .returned (.tuple #[.int .i64 (t - t % 60), .int .i64 0]) ∧ Below w.heap.size w w' := by
  have hd : (decide (0 ≤ t) && decide (t < 13569465600)) = true := by simp; omega
  go_enter Tryz.func91, Tryz.ntmps91
  go_wp2_with (go_at_call 122; refine (stampis_any _ _).mono ?_; rw [hd]; rintro e w' ⟨rfl, hb⟩)
  go_ret2
  exact ⟨rfl, by assumption⟩
abbrev clkV (n h m s : Int) : Value := .agg #[.int .i64 (ofY n), .int .i64 (ofM n), .int .i64 (ofD n), .int .i64 h, .int .i64 m, .int .i64 s, .int .i64 (wdF n)]
set_option maxHeartbeats 1000000 in
theorem split_any (t : Int) (w : World) (h0 : 0 ≤ t) (h1 : t < 13569465600) :
    Calls Tryz.prog 93 #[.int .i64 t] w fun e w' => e = .returned (.tuple #[clkV (t / 86400) (t % 86400 / 3600) (t % 86400 % 3600 / 60) (t % 86400 % 60), .int .i64 0]) ∧ Below w.heap.size w w' := by
  have hd : (decide (0 ≤ t) && decide (t < 13569465600)) = true := by simp; omega
  have n0 : 0 ≤ t / 86400 := by omega
  have n1 : t / 86400 < 157054 := by omega
  have s0 : 0 ≤ t % 86400 := by omega
  have s1 : t % 86400 < 86400 := by omega
  generalize hn : t / 86400 = n at *
  generalize hs : t % 86400 = s at *
  go_enter Tryz.func93, Tryz.ntmps93
  go_wp2_with fail
  refine (stampis_any _ _).mono ?_
  rw [hd]
  rintro e w1 ⟨rfl, hb1⟩
  go_wp2_with fail
  refine (of_any _ _ (by omega) (by omega)).mono ?_
  rintro e w2 ⟨rfl, hb2⟩
  go_wp2_with fail
  have b1 := blk_below (blk_new w _) hb1 (by simp)
  have b2 := blk_alloc (o' := .cells #[.int .i64 (ofY n), .int .i64 (ofM n), .int .i64 (ofD n)] 105) (blk_keep b1 hb2)
  have b3 := blk_new w2 (.cells #[.int .i64 (ofY n), .int .i64 (ofM n), .int .i64 (ofD n)] 105)
  have hk := vi (vi (a0 w _) hb1) hb2
  obtain ⟨W, hW⟩ : ∃ W, w2.alloc (.cells #[.int .i64 (ofY n), .int .i64 (ofM n), .int .i64 (ofD n)] 105) = W := ⟨_, rfl⟩
  rw [hW] at b2 b3 ⊢
  have c3 := later_blk b3
  refine region_tail 11 (by kernel_rfl) (by kernel_rfl) ?_
  simp only [List.take_succ_cons, List.take_zero, List.drop_succ_cons, List.drop_zero]
  repeat (go_big_quiet_step ((go_at_call 125; exact later_call (weekday_any _ _ (by omega) (by omega)))))
  refine wpQuiet_nil ?_
  rintro _ ⟨u, rfl⟩
  have hu := vi (vi (vi (a0 w _) hb1) hb2) (hW ▸ a0 w2 _)
  clear hW
  have b4 := blk_keep b2 u.below
  have c4 := blk_cell b4
  have f4 := blk_free b4
  clear b1 b2 b3 c3 hb1 hb2
  go_wp2
  have hv := vi hu u.below
  exact bodyPost_ret (v := .tuple #[clkV n (s / 3600) (s % 3600 / 60) (s % 60), .int .i64 0]) (by simp [results, Tryz.results93, go_sem, c4]) rfl ⟨rfl, by go_grown⟩
set_option maxHeartbeats 1000000 in
theorem cmay_any (y m d : Int) (w : World) (h0 : 1970 ≤ y) (h1 : y ≤ 2399) (h2 : 1 ≤ d) (h3 : d ≤ longF y m) :
    Calls Tryz.prog 142 #[.agg #[.int .i64 y, .int .i64 m, .int .i64 d]] w fun e w' => e = .returned (.bool true) ∧ Below w.heap.size w w' := by
  have b1 := blk_new w (.cells #[.int .i64 y, .int .i64 m, .int .i64 d] 105)
  have hk := a0 w (.cells #[.int .i64 y, .int .i64 m, .int .i64 d] 105)
  go_enter Tryz.func142, Tryz.ntmps142
  go_wp2
  generalize w.alloc (.cells #[.int .i64 y, .int .i64 m, .int .i64 d] 105) = W at *
  have c1 := later_blk b1
  clear b1
  refine region_later (by kernel_rfl) (by kernel_rfl) ?_
  repeat (go_big_quiet_step ((go_at_call 123; exact later_call (long_any _ _ _ (by omega) (by omega)))))
  refine wpQuiet_nil ?_
  rintro _ ⟨u, rfl⟩
  go_wp2
  go_ret
  exact ⟨by simp [h3], vi hk u.below⟩
/-- A day's number out of its date. -/
theorem days_of (n : Int) (h0 : 0 ≤ n) (h1 : n < 157054) :
    (if ofM n ≤ 2 then 365 * (ofY n - 1) + (ofY n - 1) / 4 - (ofY n - 1) / 100 + (ofY n - 1) / 400 + (153 * (ofM n + 12 - 3) + 2) / 5 + ofD n - 719469
      else 365 * ofY n + ofY n / 4 - ofY n / 100 + ofY n / 400 + (153 * (ofM n - 3) + 2) / 5 + ofD n - 719469) = n := by
  have hd0 : 0 ≤ (n + 719468) % 146097 := by omega
  have hd1 : (n + 719468) % 146097 < 146097 := by omega
  obtain ⟨ya, yb, yc, yd, ye⟩ := yoe_spec _ hd0 hd1
  obtain ⟨ka, kb, -⟩ := doy_bd _ hd0 hd1
  obtain ⟨ma, mb, -, -⟩ := months_at _ ka kb
  unfold sY at ye
  have hn : n + 719468 = (n + 719468) / 146097 * 146097 + (n + 719468) % 146097 := by omega
  unfold ofM ofD ofY
  generalize (n + 719468) % 146097 = D at *
  generalize (n + 719468) / 146097 = E at *
  generalize yoe D = Y at *
  generalize doy D = K at *
  generalize mpF K = M at *
  have e4 : (E * 400 + Y) / 4 = E * 100 + Y / 4 := by omega
  have e100 : (E * 400 + Y) / 100 = E * 4 + Y / 100 := by omega
  have e400 : (E * 400 + Y) / 400 = E + Y / 400 := by omega
  by_cases h9 : 9 < M
  · rw [if_pos h9, if_pos h9, if_pos (by omega)]
    rw [show M - 9 + 12 - 3 = M by omega, show E * 400 + Y + 1 - 1 = E * 400 + Y by omega, e4, e100, e400]
    omega
  · rw [if_neg h9, if_neg h9, if_neg (by omega)]
    rw [show M + 3 - 3 = M by omega, Int.add_zero, e4, e100, e400]
    omega
set_option maxHeartbeats 1000000 in
theorem days_any (n : Int) (w : World) (h0 : 0 ≤ n) (h1 : n < 157054) :
    Calls Tryz.prog 159 #[.agg #[.int .i64 (ofY n), .int .i64 (ofM n), .int .i64 (ofD n)]] w fun e w' => e = .returned (.tuple #[.int .i64 n, .int .i64 0]) ∧ Below w.heap.size w w' := by
  obtain ⟨m1, m2, d1, d2, y1, y2⟩ := of_ok n h0 h1
  obtain ⟨y3, y4⟩ := of_year n h0 h1
  have hd := days_of n h0 h1
  have d3 : longF (ofY n) (ofM n) ≤ 31 := longF_le _ _
  generalize ofY n = y at *
  generalize ofM n = m at *
  generalize ofD n = d at *
  have b1 := blk_new w (.cells #[.int .i64 y, .int .i64 m, .int .i64 d] 105)
  have hk := a0 w (.cells #[.int .i64 y, .int .i64 m, .int .i64 d] 105)
  have Hd := Lib.hid hd
  clear hd
  by_cases h2 : m ≤ 2
  all_goals
    go_enter Tryz.func159, Tryz.ntmps159
    go_wp2_with fail
    generalize w.alloc (.cells #[.int .i64 y, .int .i64 m, .int .i64 d] 105) = W at *
    refine (cmay_any _ _ _ _ y3 y4 d1 d2).mono ?_
    rintro e w1 ⟨rfl, hb1⟩
    have b2 := blk_keep b1 hb1
    have hk2 := vi hk hb1
    clear hb1 b1 hk
    have c1 := later_blk b2
    have c2 := blk_cell b2
    go_wp2_with fail
    refine region_later (by kernel_rfl) (by kernel_rfl) ?_
    repeat (go_big_quiet_step (fail))
    refine wpQuiet_nil ?_
    rintro _ ⟨u, rfl⟩
    have c3 := blk_cell (blk_keep b2 u.below)
    go_wp2
    go_ret2
    refine ⟨?_, vi hk2 u.below⟩
    have hd := Hd.out
    first | rw [if_pos h2] at hd | rw [if_neg (by omega)] at hd
    simp only [hd]
    rfl
set_option maxHeartbeats 1000000 in
theorem moment_any (n : Int) (w : World) (h0 : 0 ≤ n) (h1 : n < 157054) :
    Calls Tryz.prog 143 #[clkV n 0 0 0] w fun e w' => e = .returned (.int .i64 (n * 86400)) ∧ Below w.heap.size w w' := by
  have b1 := blk_new w (.cells #[.int .i64 (ofY n), .int .i64 (ofM n), .int .i64 (ofD n), .int .i64 0, .int .i64 0, .int .i64 0, .int .i64 (wdF n)] 147)
  have hk := a0 w (.cells #[.int .i64 (ofY n), .int .i64 (ofM n), .int .i64 (ofD n), .int .i64 0, .int .i64 0, .int .i64 0, .int .i64 (wdF n)] 147)
  go_enter Tryz.func143, Tryz.ntmps143
  go_wp2_with fail
  generalize w.alloc (.cells #[.int .i64 (ofY n), .int .i64 (ofM n), .int .i64 (ofD n), .int .i64 0, .int .i64 0, .int .i64 0, .int .i64 (wdF n)] 147) = W at *
  refine (days_any n _ h0 h1).mono ?_
  rintro e w1 ⟨rfl, hb1⟩
  have c1 := blk_cell (blk_keep b1 hb1)
  clear b1
  go_wp2
  go_ret
  exact ⟨by simp, vi hk hb1⟩
theorem split_day (n : Int) (w : World) (h0 : 0 ≤ n) (h1 : n < 157054) :
    Calls Tryz.prog 93 #[.int .i64 (n * 86400)] w fun e w' => e = .returned (.tuple #[clkV n 0 0 0, .int .i64 0]) ∧ Below w.heap.size w w' := by
  have h := split_any (n * 86400) w (by omega) (by omega)
  rwa [show n * 86400 / 86400 = n by omega, show n * 86400 % 86400 = 0 by omega] at h
set_option maxHeartbeats 1000000 in
theorem smay_any (n : Int) (w : World) (h0 : 0 ≤ n) (h1 : n < 157054) :
    Calls Tryz.prog 126 #[clkV n 0 0 0] w fun e w' => e = .returned (.bool true) ∧ Below w.heap.size w w' := by
  obtain ⟨y3, y4⟩ := of_year n h0 h1
  obtain ⟨m1, m2, d1, d2, -, -⟩ := of_ok n h0 h1
  have b1 := blk_new w (.cells #[.int .i64 (ofY n), .int .i64 (ofM n), .int .i64 (ofD n), .int .i64 0, .int .i64 0, .int .i64 0, .int .i64 (wdF n)] 147)
  have hk := a0 w (.cells #[.int .i64 (ofY n), .int .i64 (ofM n), .int .i64 (ofD n), .int .i64 0, .int .i64 0, .int .i64 0, .int .i64 (wdF n)] 147)
  go_enter Tryz.func126, Tryz.ntmps126
  go_wp2_with fail
  generalize w.alloc (.cells #[.int .i64 (ofY n), .int .i64 (ofM n), .int .i64 (ofD n), .int .i64 0, .int .i64 0, .int .i64 0, .int .i64 (wdF n)] 147) = W at *
  refine (cmay_any _ _ _ _ y3 y4 d1 d2).mono ?_
  rintro e w1 ⟨rfl, hb1⟩
  have b2 := blk_keep b1 hb1
  have c1 := blk_cell b2
  have hk1 := vi hk hb1
  clear b1 hb1
  go_wp2_with fail
  refine (moment_any n _ h0 h1).mono ?_
  rintro e w2 ⟨rfl, hb1⟩
  have b3 := blk_keep b2 hb1
  have hk2 := vi hk1 hb1
  clear b2 hb1 c1
  go_wp2_with fail
  refine (split_day n _ h0 h1).mono ?_
  rintro e w3 ⟨rfl, hb1⟩
  have b4 := blk_keep b3 hb1
  have c1 := blk_cell b4
  have hk3 := vi hk2 hb1
  have hz := blk_lt b4
  clear b3 b4 hb1
  go_wp2
  go_ret
  exact ⟨by simp, al hk3 _⟩
end Go.Proofs.YtceddjpaddcjiaaGreatDoor

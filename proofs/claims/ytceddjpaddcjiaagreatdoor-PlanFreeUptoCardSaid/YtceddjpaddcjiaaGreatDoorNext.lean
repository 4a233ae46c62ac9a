/- The walks of package next: from, may, After: the first firing behind a moment, as a plain function says. -/
import Derived.Test.YtceddjpaddcjiaaGreatDoorCron
import Derived.Deep.LoopGhost
namespace Go.Proofs.YtceddjpaddcjiaaGreatDoor
open Go.RowKit
/-- The first hour and minute that are allowed, as seconds of the day. -/
def hoursF : Nat → Int → Int → Int → Int → Option Int
  | 0, _, _, _, _ => none
  | k + 1, b1, b0, hour, minute =>
    match firstB b1 hour with
    | none => none
    | some h =>
      match firstB b0 ((if hour < h then 0 else minute) % 60) with
      | some m => some (h * 3600 + m * 60)
      | none => hoursF k b1 b0 (h + 1) 0
theorem firstB_some {b n m : Int} (h : firstB b n = some m) : n ≤ 63 ∧ n ≤ m := by
  unfold firstB at h
  split at h
  · cases h
  · rename_i hn
    injection h with h
    omega
theorem firstB_le {b n m : Int} (hb : u64ok b) (h0 : 0 ≤ n) (h : firstB b n = some m) : m ≤ 126 := by
  have h63 := (firstB_some h).1
  obtain ⟨x, hx, hlt⟩ := shr_lt b n hb
  unfold firstB at h
  split at h
  · cases h
  · rename_i hn
    injection h with h
    rw [hx] at h hn
    have hc : Lib.ctz 64 x < 64 := (Lib.lowest_bit 64 x (by omega) hlt).2
    simp at h
    omega
theorem hoursF_more (b1 b0 : Int) : ∀ (k : Nat) (hour mi : Int), (64 - hour).toNat < k → hoursF k b1 b0 hour mi = hoursF (k + 1) b1 b0 hour mi := by
  intro k
  induction k with
  | zero => intro hour mi h; omega
  | succ k ih =>
    intro hour mi h
    rw [hoursF, hoursF]
    cases hf : firstB b1 hour with
    | none => rfl
    | some hh =>
      obtain ⟨a, b⟩ := firstB_some hf
      simp only []
      cases firstB b0 ((if hour < hh then 0 else mi) % 60) with
      | some m => rfl
      | none => exact ih (hh + 1) 0 (by omega)
def HF (b1 b0 hour mi : Int) : Option Int := hoursF 65 b1 b0 hour mi
theorem HF_none {b1 b0 hour mi : Int} (h : firstB b1 hour = none) : HF b1 b0 hour mi = none := by
  unfold HF; rw [hoursF, h]
theorem HF_some {b1 b0 hour mi h m : Int} (h1 : firstB b1 hour = some h) (h2 : firstB b0 ((if hour < h then 0 else mi) % 60) = some m) : HF b1 b0 hour mi = some (h * 3600 + m * 60) := by
  unfold HF; rw [hoursF, h1]; simp only []; rw [h2]
theorem HF_next {b1 b0 hour mi h : Int} (h0 : 0 ≤ hour) (h1 : firstB b1 hour = some h) (h2 : firstB b0 ((if hour < h then 0 else mi) % 60) = none) : HF b1 b0 hour mi = HF b1 b0 (h + 1) 0 := by
  have := firstB_some h1
  unfold HF; rw [hoursF, h1]; simp only []; rw [h2]; exact hoursF_more b1 b0 64 (h + 1) 0 (by omega)
/-- The first firing at a day's minute or behind it. -/
def fromF : Nat → Ex → Int → Int → Option Int
  | 0, _, _, _ => none
  | k + 1, x, day, mi =>
    if 157054 ≤ day then none
    else if hasB x.b3 (ofM day) = false then fromF k x (day + (longF (ofY day) (ofM day) - ofD day) + 1) 0
    else if dayB x day = false then fromF k x (day + 1) 0
    else match HF x.b1 x.b0 (mi / 60) mi with
      | some s => some (day * 86400 + s)
      | none => fromF k x (day + 1) 0
theorem fromF_more (x : Ex) : ∀ (k : Nat) (day mi : Int), 0 ≤ day → (157054 - day).toNat < k → fromF k x day mi = fromF (k + 1) x day mi := by
  intro k
  induction k with
  | zero => intro day mi _ h; omega
  | succ k ih =>
    intro day mi h0 h
    rw [fromF, fromF]
    by_cases hd : 157054 ≤ day
    · rw [if_pos hd, if_pos hd]
    · rw [if_neg hd, if_neg hd]
      obtain ⟨-, -, -, hl, -, -⟩ := of_ok day h0 (by omega)
      by_cases h3 : hasB x.b3 (ofM day) = false
      · rw [if_pos h3, if_pos h3]; exact ih _ _ (by omega) (by omega)
      · rw [if_neg h3, if_neg h3]
        by_cases h4 : dayB x day = false
        · rw [if_pos h4, if_pos h4]; exact ih _ _ (by omega) (by omega)
        · rw [if_neg h4, if_neg h4]
          cases HF x.b1 x.b0 (mi / 60) mi with
          | some s => rfl
          | none => exact ih _ _ (by omega) (by omega)
def dayFuel : Nat := 157054
def GF (x : Ex) (day mi : Int) : Option Int := fromF (dayFuel + 1) x day mi
theorem GF_end {x : Ex} {day mi : Int} (h : 157054 ≤ day) : GF x day mi = none := by
  unfold GF; rw [fromF, if_pos h]
theorem GF_month {x : Ex} {day mi : Int} (h0 : 0 ≤ day) (h1 : day < 157054) (h3 : hasB x.b3 (ofM day) = false) : GF x day mi = GF x (day + (longF (ofY day) (ofM day) - ofD day) + 1) 0 := by
  obtain ⟨-, -, -, hl, -, -⟩ := of_ok day h0 h1
  unfold GF
  rw [fromF, if_neg (by omega), if_pos h3]
  exact fromF_more x _ _ _ (by omega) (by unfold dayFuel; omega)
theorem GF_day {x : Ex} {day mi : Int} (h0 : 0 ≤ day) (h1 : day < 157054) (h3 : hasB x.b3 (ofM day) = true) (h4 : dayB x day = false) : GF x day mi = GF x (day + 1) 0 := by
  unfold GF
  rw [fromF, if_neg (by omega), if_neg (by rw [h3]; decide), if_pos h4]
  exact fromF_more x _ _ _ (by omega) (by unfold dayFuel; omega)
theorem GF_none {x : Ex} {day mi : Int} (h0 : 0 ≤ day) (h1 : day < 157054) (h3 : hasB x.b3 (ofM day) = true) (h4 : dayB x day = true) (h5 : HF x.b1 x.b0 (mi / 60) mi = none) : GF x day mi = GF x (day + 1) 0 := by
  unfold GF
  rw [fromF, if_neg (by omega), if_neg (by rw [h3]; decide), if_neg (by rw [h4]; decide), h5]
  exact fromF_more x _ _ _ (by omega) (by unfold dayFuel; omega)
theorem GF_some {x : Ex} {day mi s : Int} (h1 : day < 157054) (h3 : hasB x.b3 (ofM day) = true) (h4 : dayB x day = true) (h5 : HF x.b1 x.b0 (mi / 60) mi = some s) : GF x day mi = some (day * 86400 + s) := by
  unfold GF
  rw [fromF, if_neg (by omega), if_neg (by rw [h3]; decide), if_neg (by rw [h4]; decide), h5]
def optV : Option Int → Value
  | none => .tuple #[.int .i64 0, .bool false]
  | some n => .tuple #[.int .i64 n, .bool true]
set_option maxHeartbeats 4000000 in
set_option maxRecDepth 100000 in
theorem from_any (x : Ex) (hx : x.ok) (hm : exMayB x = true) (t : Int) (w : World) (h0 : 0 ≤ t) (h1 : t ≤ 13569465600) (hT : Tab64 w) :
    Calls Tryz.prog 92 #[exV x, .int .i64 t] w fun e w' => e = .returned (optV (GF x (t / 86400) (t % 86400 / 60))) ∧ Below w.heap.size w w' := by
  have k0 := a0 w (exO x)
  have c0 := blk_new w (exO x)
  have q0 : 0 ≤ t / 86400 := by omega
  have q1 : t / 86400 ≤ 157054 := by omega
  have q2 : 0 ≤ t % 86400 := by omega
  have q3 : t % 86400 < 86400 := by omega
  have q4 : 0 ≤ t % 86400 / 60 := by omega
  have q5 : t % 86400 / 60 < 1440 := by omega
  generalize hR : GF x (t / 86400) (t % 86400 / 60) = R
  have HR := Lib.hid hR
  have HT := Lib.hid hT
  clear hR hT
  go_enter Tryz.func92, Tryz.ntmps92
  go_wp2_with fail
  go_step3
  go_wp2_with fail
  go_step3
  go_wp2_with fail
  go_loopg [6, 7] 157055 (fun k d m wr => ∃ day mi : Int, d = .int .i64 day ∧ m = .int .i64 mi ∧ 0 ≤ day ∧ day ≤ 157200 ∧ 0 ≤ mi ∧ mi < 1440 ∧ (157054 - day).toNat ≤ k ∧ Aside (GF x day mi = R) ∧ Below w.heap.size w wr ∧ wr.heap[w.heap.size]? = some (exO x))
  case atStart => exact ⟨_, _, rfl, rfl, q0, by omega, q4, q5, by omega, HR.out, k0, c0⟩
  case round =>
    obtain ⟨day, mi, rfl, rfl, d0, d1, m0, m1, hk, hG, hb, hc⟩ := hrel
    obtain ⟨gko, rfl⟩ : ∃ g, g = gk := ⟨_, rfl⟩
    clear k0 c0 q0 q1 q2 q3 q4 q5 HR
    by_cases hd : day < 157054
    · have cc := blk_cell hc
      go_wp2_with fail
      refine (of_any _ _ d0 hd).mono ?_
      rintro e w1 ⟨rfl, hb1⟩
      obtain ⟨p1, p2, p3, p4, -, -⟩ := of_ok day d0 hd
      have p5 : longF (ofY day) (ofM day) ≤ 31 := longF_le _ _
      obtain ⟨p6, p7⟩ := of_year day d0 hd
      have hb2 := vi hb hb1
      have hc1 := blk_keep hc hb1
      clear hb hc hb1 cc
      have hz1 := blk_lt hc1
      have cc := blk_cell hc1
      go_wp2_with fail
      refine (has_any _ _ _ _ hx.2.2.2.1.1).mono ?_
      rintro e w2 ⟨rfl, hb1⟩
      have hb3 := vi (al hb2 _) hb1
      have hc2 := blk_keep (blk_alloc hc1) hb1
      have hd2 := blk_keep (blk_new w1 _) hb1
      clear hb2 hc1 hb1 cc
      cases h3 : hasB x.b3 (ofM day)
      · have cd := later_blk hd2
        go_wp2_with fail
        refine region_later (by kernel_rfl) (by kernel_rfl) ?_
        repeat (go_big_quiet_step ((go_at_call 123; exact later_call (long_any _ _ _ (by omega) (by omega)))))
        refine wpQuiet_nil ?_
        rintro _ ⟨u, rfl⟩
        have hG2 := GF_month (mi := mi) d0 hd h3
        rw [hG] at hG2
        have HG := Lib.hid hG2
        clear hG hG2 cd
        go_wp2
        go_roundg (157054 - (day + (longF (ofY day) (ofM day) - ofD day) + 1)).toNat
        case measure => omega
        case rel => exact ⟨_, _, rfl, rfl, by omega, by omega, by omega, by omega, by omega, HG.out.symm, vi hb3 u.below, blk_keep hc2 u.below⟩
      · have cc := blk_cell hc2
        have cd := blk_cell hd2
        have hz2 := blk_lt hd2
        go_wp2_with fail
        refine (fits_any x hx hm _ _ d0 hd).mono ?_
        rintro e w3 ⟨rfl, hb1⟩
        have hb4 := vi hb3 hb1
        have hc3 := blk_keep hc2 hb1
        clear hb3 hc2 hd2 hb1 cc cd
        cases h4 : dayB x day
        · have hG2 := GF_day (mi := mi) d0 hd h3 h4
          rw [hG] at hG2
          have HG := Lib.hid hG2
          clear hG hG2
          go_wp2
          go_roundg (157054 - (day + 1)).toNat
          case measure => omega
          case rel => exact ⟨_, _, rfl, rfl, by omega, by omega, by omega, by omega, by omega, HG.out.symm, hb4, hc3⟩
        · go_wp2_with fail
          obtain ⟨H, hH⟩ : ∃ H, HF x.b1 x.b0 (mi / 60) mi = H := ⟨_, rfl⟩
          have HH := Lib.hid hH
          have HG := Lib.hid hG
          clear hH hG
          go_loopg [7, 10] 65 (fun k m h wr => ∃ hour mj : Int, h = .int .i64 hour ∧ m = .int .i64 mj ∧ 0 ≤ hour ∧ hour ≤ 200 ∧ 0 ≤ mj ∧ mj < 1440 ∧ (65 - hour).toNat ≤ k ∧ Aside (HF x.b1 x.b0 hour mj = H) ∧ Below w.heap.size w wr ∧ wr.heap[w.heap.size]? = some (exO x))
          case atStart => exact ⟨_, _, rfl, rfl, by omega, by omega, m0, m1, by omega, HH.out, hb4, hc3⟩
          case round =>
            obtain ⟨hour, mj, rfl, rfl, hr0, hr1, mj0, mj1, hk2, hI, hb, hc⟩ := hrel
            clear hb4 hc3
            have HI := Lib.hid hI
            clear hI
            have cc := blk_cell hc
            have hz := blk_lt hc
            cases hf : firstB x.b1 hour with
            | none =>
              have hn := HI.out.symm.trans (HF_none hf)
              have hG2 := GF_none d0 hd h3 h4 (HH.out.trans hn)
              rw [HG.out] at hG2
              have HG2 := Lib.hid hG2
              clear hG2 hn
              go_wp2_with fail
              refine (first_any _ _ _ _ hx.2.1 hr0 (tab_keep HT.out hb)).mono ?_
              rw [hf]
              rintro e w4 ⟨rfl, hb1⟩
              have hb5 := vi hb hb1
              have hc5 := blk_keep hc hb1
              clear cc hb1
              go_wp2
              go_roundg (157054 - (day + 1)).toNat
              case measure => omega
              case rel => exact ⟨_, _, rfl, rfl, by omega, by omega, by omega, by omega, by omega, HG2.out.symm, hb5, hc5⟩
            | some h =>
              obtain ⟨f63, fle⟩ := firstB_some hf
              have f126 := firstB_le hx.2.1 hr0 hf
              by_cases hlt : hour < h
              · skip
                have he : (if hour < h then (0 : Int) else mj) % 60 = 0 := by rw [if_pos hlt]; rfl
                have hm60 : 0 ≤ mj % 60 ∧ mj % 60 < 60 := by omega
                cases hf2 : firstB x.b0 0 with
                | none =>
                  have hn := HI.out.symm.trans (HF_next hr0 hf (by rw [he]; exact hf2))
                  have HN := Lib.hid hn
                  clear hn he
                  go_wp2_with fail
                  refine (first_any _ _ _ _ hx.2.1 hr0 (tab_keep HT.out hb)).mono ?_
                  rw [hf]
                  rintro e w4 ⟨rfl, hb1⟩
                  have hb5 := vi hb hb1
                  have hc5 := blk_keep hc hb1
                  clear cc hb1
                  have cc := blk_cell hc5
                  go_wp2_with fail
                  refine (first_any _ _ _ _ hx.1 (by omega) (tab_keep HT.out hb5)).mono ?_
                  rw [hf2]
                  rintro e w5 ⟨rfl, hb1⟩
                  have hb6 := vi hb5 hb1
                  have hc6 := blk_keep hc5 hb1
                  clear cc hb1
                  go_wp2
                  go_roundg (65 - (h + 1)).toNat
                  case measure => omega
                  case rel => exact ⟨_, _, rfl, rfl, by omega, by omega, by omega, by omega, by omega, HN.out.symm, hb6, hc6⟩
                | some m =>
                  have hn := HI.out.symm.trans (HF_some hf (by rw [he]; exact hf2))
                  have hG2 := GF_some hd h3 h4 (HH.out.trans hn)
                  rw [HG.out] at hG2
                  have HG2 := Lib.hid hG2
                  obtain ⟨g63, gle⟩ := firstB_some hf2
                  have g126 := firstB_le hx.1 (by omega) hf2
                  clear hG2 hn he
                  go_wp2_with fail
                  refine (first_any _ _ _ _ hx.2.1 hr0 (tab_keep HT.out hb)).mono ?_
                  rw [hf]
                  rintro e w4 ⟨rfl, hb1⟩
                  have hb5 := vi hb hb1
                  have hc5 := blk_keep hc hb1
                  clear cc hb1
                  have cc := blk_cell hc5
                  go_wp2_with fail
                  refine (first_any _ _ _ _ hx.1 (by omega) (tab_keep HT.out hb5)).mono ?_
                  rw [hf2]
                  rintro e w5 ⟨rfl, hb1⟩
                  have hb6 := vi hb5 hb1
                  clear cc hb1
                  go_wp2
                  try rw [Exit.noGoto_ret]
                  go_ret2
                  exact ⟨by rw [HG2.out, ← Int.add_assoc]; rfl, hb6⟩
              · obtain rfl : h = hour := by omega
                have he : (if h < h then (0 : Int) else mj) % 60 = (mj % 60) := by rw [if_neg (by omega)]
                have hm60 : 0 ≤ mj % 60 ∧ mj % 60 < 60 := by omega
                cases hf2 : firstB x.b0 (mj % 60) with
                | none =>
                  have hn := HI.out.symm.trans (HF_next hr0 hf (by rw [he]; exact hf2))
                  have HN := Lib.hid hn
                  clear hn he
                  go_wp2_with fail
                  refine (first_any _ _ _ _ hx.2.1 hr0 (tab_keep HT.out hb)).mono ?_
                  rw [hf]
                  rintro e w4 ⟨rfl, hb1⟩
                  have hb5 := vi hb hb1
                  have hc5 := blk_keep hc hb1
                  clear cc hb1
                  have cc := blk_cell hc5
                  go_wp2_with fail
                  refine (first_any _ _ _ _ hx.1 (by omega) (tab_keep HT.out hb5)).mono ?_
                  rw [hf2]
                  rintro e w5 ⟨rfl, hb1⟩
                  have hb6 := vi hb5 hb1
                  have hc6 := blk_keep hc5 hb1
                  clear cc hb1
                  go_wp2
                  go_roundg (65 - (h + 1)).toNat
                  case measure => omega
                  case rel => exact ⟨_, _, rfl, rfl, by omega, by omega, by omega, by omega, by omega, HN.out.symm, hb6, hc6⟩
                | some m =>
                  have hn := HI.out.symm.trans (HF_some hf (by rw [he]; exact hf2))
                  have hG2 := GF_some hd h3 h4 (HH.out.trans hn)
                  rw [HG.out] at hG2
                  have HG2 := Lib.hid hG2
                  obtain ⟨g63, gle⟩ := firstB_some hf2
                  have g126 := firstB_le hx.1 (by omega) hf2
                  clear hG2 hn he
                  go_wp2_with fail
                  refine (first_any _ _ _ _ hx.2.1 hr0 (tab_keep HT.out hb)).mono ?_
                  rw [hf]
                  rintro e w4 ⟨rfl, hb1⟩
                  have hb5 := vi hb hb1
                  have hc5 := blk_keep hc hb1
                  clear cc hb1
                  have cc := blk_cell hc5
                  go_wp2_with fail
                  refine (first_any _ _ _ _ hx.1 (by omega) (tab_keep HT.out hb5)).mono ?_
                  rw [hf2]
                  rintro e w5 ⟨rfl, hb1⟩
                  have hb6 := vi hb5 hb1
                  clear cc hb1
                  go_wp2
                  try rw [Exit.noGoto_ret]
                  go_ret2
                  exact ⟨by rw [HG2.out, ← Int.add_assoc]; rfl, hb6⟩
    · have hn := hG.symm.trans (GF_end (x := x) (mi := mi) (show 157054 ≤ day by omega))
      have HG := Lib.hid hn
      clear hG hn
      go_wp2
      try rw [Exit.noGoto_ret]
      go_ret2
      exact ⟨by rw [HG.out]; rfl, hb⟩
end Go.Proofs.YtceddjpaddcjiaaGreatDoor

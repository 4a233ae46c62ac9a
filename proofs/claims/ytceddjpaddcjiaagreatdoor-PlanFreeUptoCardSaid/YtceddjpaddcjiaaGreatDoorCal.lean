/- Plain arithmetic of days and dates (no program in sight): the day's date has a month from 1 to 12 and a day that its month has. -/
import Derived.IntWalk
namespace Go.Proofs.YtceddjpaddcjiaaGreatDoor
def leapB (y : Int) : Bool := (y % 4 == 0 && !(y % 100 == 0)) || y % 400 == 0
def mlen (m : Int) : Int := if m = 2 then 28 else if m = 4 ∨ m = 6 ∨ m = 9 ∨ m = 11 then 30 else 31
def longF (y m : Int) : Int := if m < 1 ∨ 12 < m then 0 else if m = 2 ∧ leapB y = true then 29 else mlen m
def gD (d : Int) : Int := d - d / 1460 + d / 36524 - d / 146096
def sY (y : Int) : Int := 365 * y + y / 4 - y / 100 + y / 400
def yoe (d : Int) : Int := gD d / 365
def doy (d : Int) : Int := d - (365 * yoe d + yoe d / 4 - yoe d / 100)
def mpF (k : Int) : Int := (5 * k + 2) / 153
def ofY (n : Int) : Int := (n + 719468) / 146097 * 400 + yoe ((n + 719468) % 146097) + (if 9 < mpF (doy ((n + 719468) % 146097)) then 1 else 0)
def ofM (n : Int) : Int := if 9 < mpF (doy ((n + 719468) % 146097)) then mpF (doy ((n + 719468) % 146097)) - 9 else mpF (doy ((n + 719468) % 146097)) + 3
def ofD (n : Int) : Int := doy ((n + 719468) % 146097) - (153 * mpF (doy ((n + 719468) % 146097)) + 2) / 5 + 1
theorem gD_step (d : Int) (h0 : 0 ≤ d) (h1 : d < 146096) : gD d ≤ gD (d + 1) := by unfold gD; omega
theorem gD_mono (n : Nat) : ∀ d : Int, 0 ≤ d → d + n < 146097 → gD d ≤ gD (d + n) := by
  induction n with
  | zero => intro d _ _; simp
  | succ n ih =>
    intro d h0 h1
    have a := ih d h0 (by omega)
    have b := gD_step (d + n) (by omega) (by omega)
    have e : d + ((n + 1 : Nat) : Int) = d + n + 1 := by omega
    rw [e]; omega
theorem gD_le {a b : Int} (h0 : 0 ≤ a) (h : a ≤ b) (h1 : b < 146097) : gD a ≤ gD b := by
  have := gD_mono (b - a).toNat a h0 (by omega)
  rwa [show a + ((b - a).toNat : Int) = b by omega] at this
theorem ends_ok : (List.range 400).all (fun y => decide (365 * (y : Int) ≤ gD (sY y)) && decide (gD (sY ((y : Int) + 1) - 1) < 365 * ((y : Int) + 1)) && decide (0 ≤ sY y) && decide (sY ((y : Int) + 1) ≤ 146097)
    && decide (sY ((y : Int) + 1) = sY y + 365 + if leapB ((y : Int) + 1) then 1 else 0)) = true := by decide +kernel
theorem ends_at (y : Int) (h0 : 0 ≤ y) (h1 : y < 400) : 365 * y ≤ gD (sY y) ∧ gD (sY (y + 1) - 1) < 365 * (y + 1) ∧ 0 ≤ sY y ∧ sY (y + 1) ≤ 146097 ∧ sY (y + 1) = sY y + 365 + if leapB (y + 1) then 1 else 0 := by
  obtain ⟨k, rfl⟩ := Int.eq_ofNat_of_zero_le h0
  have h := List.all_eq_true.1 ends_ok k (List.mem_range.2 (by omega))
  simp only [Bool.and_eq_true, decide_eq_true_eq] at h
  exact ⟨h.1.1.1.1, h.1.1.1.2, h.1.1.2, h.1.2, h.2⟩
theorem year_of (d : Int) (h0 : 0 ≤ d) (k : Nat) : (k : Int) ≤ 400 → d < sY k → ∃ y : Int, 0 ≤ y ∧ y < k ∧ sY y ≤ d ∧ d < sY (y + 1) := by
  induction k with
  | zero => intro _ h; simp [sY] at h; omega
  | succ k ih =>
    intro hk h
    by_cases hd : d < sY k
    · obtain ⟨y, a, b, c⟩ := ih (by omega) hd; exact ⟨y, a, by omega, c⟩
    · exact ⟨k, by omega, by omega, by omega, by exact_mod_cast h⟩
/-- The year of an era's day, and its day of the year. -/
theorem yoe_spec (d : Int) (h0 : 0 ≤ d) (h1 : d < 146097) : 0 ≤ yoe d ∧ yoe d < 400 ∧ sY (yoe d) ≤ d ∧ d < sY (yoe d + 1) ∧ doy d = d - sY (yoe d) := by
  obtain ⟨y, a, b, c, e⟩ := year_of d h0 400 (by omega) (by have : sY ((400 : Nat) : Int) = 146097 := (by decide +kernel); omega)
  obtain ⟨p, q, r, s, _⟩ := ends_at y a (by omega)
  have p' := gD_le r c h1
  have q' := gD_le h0 (show d ≤ sY (y + 1) - 1 by omega) (by omega)
  have hy : yoe d = y := by unfold yoe; omega
  refine ⟨by omega, by omega, by rw [hy]; exact c, by rw [hy]; exact e, ?_⟩
  unfold doy sY; omega
theorem doy_bd (d : Int) (h0 : 0 ≤ d) (h1 : d < 146097) : 0 ≤ doy d ∧ doy d ≤ 365 ∧ (doy d = 365 → leapB (yoe d + 1) = true) := by
  obtain ⟨a, b, c, e, f⟩ := yoe_spec d h0 h1
  obtain ⟨_, _, _, _, g⟩ := ends_at (yoe d) a b
  refine ⟨by omega, ?_, fun h => ?_⟩
  · split at g <;> omega
  · cases hl : leapB (yoe d + 1)
    · rw [hl] at g; simp at g; omega
    · rfl
theorem months_ok : (List.range 366).all (fun k => decide (0 ≤ mpF k) && decide (mpF k ≤ 11) && decide (1 ≤ (k : Int) - (153 * mpF k + 2) / 5 + 1)
    && decide ((k : Int) - (153 * mpF k + 2) / 5 + 1 ≤ if mpF k = 11 then (if k = 365 then 29 else 28) else mlen (if 9 < mpF k then mpF k - 9 else mpF k + 3))) = true := by decide +kernel
theorem months_at (k : Int) (h0 : 0 ≤ k) (h1 : k ≤ 365) : 0 ≤ mpF k ∧ mpF k ≤ 11 ∧ 1 ≤ k - (153 * mpF k + 2) / 5 + 1 ∧
    k - (153 * mpF k + 2) / 5 + 1 ≤ if mpF k = 11 then (if k = 365 then 29 else 28) else mlen (if 9 < mpF k then mpF k - 9 else mpF k + 3) := by
  obtain ⟨k, rfl⟩ := Int.eq_ofNat_of_zero_le h0
  have h := List.all_eq_true.1 months_ok k (List.mem_range.2 (by omega))
  simp only [Bool.and_eq_true, decide_eq_true_eq] at h
  obtain ⟨⟨⟨a, b⟩, c⟩, e⟩ := h
  refine ⟨a, b, c, ?_⟩
  by_cases hk : k = 365
  · subst hk; simpa using e
  · rw [if_neg hk] at e
    rw [if_neg (show ¬(k : Int) = 365 by omega)]; exact e
theorem leap_era (e y : Int) : leapB (e * 400 + y) = leapB y := by
  unfold leapB
  rw [show (e * 400 + y) % 4 = y % 4 by omega, show (e * 400 + y) % 100 = y % 100 by omega, show (e * 400 + y) % 400 = y % 400 by omega]
/-- A day's date: its month is one, its day is one of that month. -/
theorem of_ok (n : Int) (h0 : 0 ≤ n) (h1 : n < 157054) : 1 ≤ ofM n ∧ ofM n ≤ 12 ∧ 1 ≤ ofD n ∧ ofD n ≤ longF (ofY n) (ofM n) ∧ 1600 ≤ ofY n ∧ ofY n ≤ 2400 := by
  have hd0 : 0 ≤ (n + 719468) % 146097 := by omega
  have hd1 : (n + 719468) % 146097 < 146097 := by omega
  have he : 4 ≤ (n + 719468) / 146097 ∧ (n + 719468) / 146097 ≤ 5 := by omega
  unfold ofM ofD ofY
  generalize (n + 719468) % 146097 = d at *
  generalize (n + 719468) / 146097 = e at *
  obtain ⟨ya, yb, _, _, _⟩ := yoe_spec d hd0 hd1
  obtain ⟨ka, kb, kl⟩ := doy_bd d hd0 hd1
  generalize yoe d = y at *
  generalize doy d = k at *
  obtain ⟨ma, mb, da, db⟩ := months_at k ka kb
  have hl : leapB (e * 400 + y + 1) = leapB (y + 1) := by rw [Int.add_assoc]; exact leap_era e (y + 1)
  by_cases h9 : 9 < mpF k
  · simp only [h9, if_true] at db ⊢
    refine ⟨by omega, by omega, da, ?_, by omega, by omega⟩
    unfold longF
    rw [if_neg (by omega), hl]
    by_cases h11 : mpF k = 11
    · rw [if_pos h11] at db
      have h2 : mpF k - 9 = 2 := by omega
      by_cases hk : k = 365
      · rw [if_pos ⟨h2, kl hk⟩]; rw [if_pos hk] at db; exact db
      · rw [if_neg hk] at db
        split
        · omega
        · rw [h2]; simp only [mlen, if_true]; exact db
    · rw [if_neg h11] at db
      rw [if_neg (by omega)]
      exact db
  · simp only [h9, if_false] at db ⊢
    rw [if_neg (by omega)] at db
    refine ⟨by omega, by omega, da, ?_, by omega, by omega⟩
    unfold longF
    rw [if_neg (by omega), if_neg (by omega)]
    exact db
theorem longF_le (y m : Int) : longF y m ≤ 31 := by
  unfold longF mlen
  repeat' split
  all_goals omega
theorem of_year (n : Int) (h0 : 0 ≤ n) (h1 : n < 157054) : 1970 ≤ ofY n ∧ ofY n ≤ 2399 := by
  have hd0 : 0 ≤ (n + 719468) % 146097 := by omega
  have hd1 : (n + 719468) % 146097 < 146097 := by omega
  obtain ⟨ya, yb, yc, yd, ye⟩ := yoe_spec _ hd0 hd1
  have hn : n + 719468 = (n + 719468) / 146097 * 146097 + (n + 719468) % 146097 := by omega
  unfold ofY
  generalize (n + 719468) % 146097 = D at *
  generalize (n + 719468) / 146097 = E at *
  rw [ye]
  unfold mpF
  unfold sY at yc yd ⊢
  generalize yoe D = Y at *
  clear ye
  have hE : E = 4 ∨ E = 5 := by omega
  rcases hE with rfl | rfl
  · have hY : 369 ≤ Y := by
      rcases (show Y < 369 ∨ 369 ≤ Y by omega) with h | h
      · exfalso
        have a1 : (Y + 1) / 4 ≤ 92 := by omega
        have a2 : (Y + 1) / 400 = 0 := by omega
        have a3 : 0 ≤ (Y + 1) / 100 := by omega
        have a4 : Y + 1 = 369 ∨ Y + 1 ≤ 368 := by omega
        rcases a4 with a4 | a4
        · rw [a4] at yd; omega
        · omega
      · exact h
    rcases Int.lt_or_eq_of_le hY with h | rfl
    · split <;> omega
    · rw [if_pos (by omega)]; omega
  · have : Y ≤ 399 := by omega
    rcases Int.lt_or_eq_of_le this with h | rfl
    · split <;> omega
    · rw [if_neg (by omega)]; omega
end Go.Proofs.YtceddjpaddcjiaaGreatDoor

/- The walks of next.may and next.After. -/
import Derived.Test.YtceddjpaddcjiaaGreatDoorNext
namespace Go.Proofs.YtceddjpaddcjiaaGreatDoor
open Go.RowKit
def mayE (x : Ex) (t : Int) : Int := if exMayB x = false then 2 else if t < 0 ∨ 13569465600 ≤ t then 50 else 0
/-- The first firing behind a moment, and the error's number. -/
def afterF (x : Ex) (t : Int) : Int × Int :=
  if mayE x t = 0 then
    match GF x ((t - t % 60 + 60) / 86400) ((t - t % 60 + 60) % 86400 / 60) with
    | none => (0, 5)
    | some n => (n, 0)
  else (0, mayE x t)
set_option maxHeartbeats 400000 in
theorem nmay_any (x : Ex) (t : Int) (w : World) :
    Calls Tryz.prog 53 #[exV x, .int .i64 t] w fun e w' => e = .returned (.int .i64 (mayE x t)) ∧ Below w.heap.size w w' := by
  have k0 := a0 w (exO x)
  have c0 := blk_new w (exO x)
  go_enter Tryz.func53, Tryz.ntmps53
  go_wp2_with fail
  generalize w.alloc _ = W at *
  refine (crmay_any x _).mono ?_
  rintro e w1 ⟨rfl, hb⟩
  have k1 := vi k0 hb
  clear k0 c0 hb
  cases hm : exMayB x
  · go_wp2
    go_ret
    exact ⟨by simp [mayE, hm], k1⟩
  · by_cases ht : t < 0 ∨ 13569465600 ≤ t
    · have HT := Lib.hid ht
      clear ht
      go_wp2_with fail
      refine (floor_no _ _ HT.out).mono ?_
      rintro e w2 ⟨rfl, hb⟩
      go_wp2
      go_ret
      exact ⟨by unfold mayE; rw [if_neg (by rw [hm]; decide), if_pos HT.out]; rfl, vi k1 hb⟩
    · have t0 : 0 ≤ t := by omega
      have t1 : t < 13569465600 := by omega
      clear ht
      go_wp2_with fail
      refine (floor_yes _ _ t0 t1).mono ?_
      rintro e w2 ⟨rfl, hb⟩
      go_wp2
      go_ret
      exact ⟨by unfold mayE; rw [if_neg (by rw [hm]; decide), if_neg (by omega)]; rfl, vi k1 hb⟩
theorem mayE_ok {x : Ex} {t : Int} (he : mayE x t = 0) : exMayB x = true ∧ 0 ≤ t ∧ t < 13569465600 := by
  unfold mayE at he
  split at he
  · cases he
  · rename_i h1
    split at he
    · cases he
    · exact ⟨by simpa using h1, by omega, by omega⟩
set_option maxHeartbeats 400000 in
theorem after_any (x : Ex) (hx : x.ok) (t : Int) (w : World) (hT : Tab64 w) :
    Calls Tryz.prog 54 #[exV x, .int .i64 t] w fun e w' => e = .returned (.tuple #[.int .i64 (afterF x t).1, .int .i64 (afterF x t).2]) ∧ Below w.heap.size w w' := by
  have k0 := a0 w (exO x)
  have c0 := blk_new w (exO x)
  have HT := Lib.hid (tab_keep hT k0)
  clear hT
  go_enter Tryz.func54, Tryz.ntmps54
  go_wp2_with fail
  generalize w.alloc _ = W at *
  refine (nmay_any x _ _).mono ?_
  rintro e w1 ⟨rfl, hb⟩
  have k1 := vi k0 hb
  have c1 := blk_keep c0 hb
  have HT1 := Lib.hid (tab_keep HT.out hb)
  clear k0 c0 hb HT
  have cc := blk_cell c1
  by_cases he : mayE x t = 0
  · have hA : afterF x t = match GF x ((t - t % 60 + 60) / 86400) ((t - t % 60 + 60) % 86400 / 60) with
      | none => (0, 5)
      | some n => (n, 0) := by unfold afterF; rw [if_pos he]
    have HA := Lib.hid hA
    clear hA
    obtain ⟨hm, t0, t1⟩ := mayE_ok he
    go_wp2_with fail
    refine (from_any x hx hm _ _ (by omega) (by omega) HT1.out).mono ?_
    rintro e w2 ⟨rfl, hb⟩
    have k2 := vi k1 hb
    clear hb cc c1
    generalize GF x ((t - t % 60 + 60) / 86400) ((t - t % 60 + 60) % 86400 / 60) = R at *
    cases R with
    | none =>
      simp only [optV]
      go_wp2
      go_ret2
      exact ⟨by rw [HA.out]; rfl, k2⟩
    | some n =>
      simp only [optV]
      go_wp2
      go_ret2
      exact ⟨by rw [HA.out]; rfl, k2⟩
  · have hA : afterF x t = (0, mayE x t) := by unfold afterF; rw [if_neg he]
    have HA := Lib.hid hA
    have hb : (mayE x t != 0) = true := by simpa using he
    clear he hA
    go_wp2
    go_ret2
    exact ⟨by rw [HA.out]; rfl, k1⟩
end Go.Proofs.YtceddjpaddcjiaaGreatDoor

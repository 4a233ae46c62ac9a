/- The walk of slices.Equal over items. -/
import Derived.Test.YtceddjpaddcjiaaGreatDoorPFirst
namespace Go.Proofs.YtceddjpaddcjiaaGreatDoor
open Go.RowKit
set_option maxHeartbeats 8000000 in
set_option maxRecDepth 100000 in
theorem equal_items (p q : Option Addr) (L M : List (Int × Int)) (c d : Nat) (w : World) (hL : ElemsAt 2 itC w w.heap.size p L) (hM : ElemsAt 2 itC w w.heap.size q M) (hl : L.length ≤ 1000) :
    Calls Tryz.prog 18 #[.slice p L.length c, .slice q M.length d] w fun e w' => e = .returned (.bool (decide (L = M))) ∧ Below w.heap.size w w' := by
  have HL := Lib.hid hL
  have HM := Lib.hid hM
  clear hL hM
  by_cases hlm : L.length = M.length
  rotate_left
  · have hd : decide (L = M) = false := by simp; intro h; exact hlm (by rw [h])
    have HD := Lib.hid hd
    have hne : ((L.length : Int) != M.length) = true := by simp; omega
    clear hd
    go_enter Tryz.func18, Tryz.ntmps18
    go_wp2
    go_ret
    exact ⟨by rw [HD.out]; rfl, Below.refl _ _⟩
  have hne : ((L.length : Int) != M.length) = false := by simp; omega
  have h1 : L.length ≤ M.length := by omega
  have h2 : M.length ≤ L.length := by omega
  have HLM := Lib.hid hlm
  clear hlm
  generalize hR : decide (L = M) = R
  have HR := Lib.hid hR
  clear hR
  go_enter Tryz.func18, Tryz.ntmps18
  go_wp2_with fail
  go_loopg [13] 2000 (fun g iv wr => ∃ (j : Nat), iv = .int .i64 j ∧ j ≤ L.length ∧ L.length - j ≤ g ∧ Aside (L.take j = M.take j) ∧ Below w.heap.size w wr)
  case atStart => exact ⟨0, rfl, by omega, by omega, by simp [Aside], Below.refl _ _⟩
  case round =>
    obtain ⟨j, rfl, hj, hg, hT, B⟩ := hrel
    have HT := Lib.hid hT
    clear hT
    by_cases hlt : j < L.length
    · have hlt2 : j < M.length := by omega
      obtain ⟨b, o, rfl, _, hc⟩ := (elems_keep HL.out B).resolve_left (elems_len hlt)
      obtain ⟨b', o', rfl, _, hc'⟩ := (elems_keep HM.out B).resolve_left (elems_len hlt2)
      have x0 := fun u : Later wr => Later.cellp (show wr.cell? ⟨b, o + j * 2, none⟩ = some (.int .i64 L[j].1) from hc j hlt 0 _ rfl) u
      have x1 := fun u : Later wr => Later.cellp (hc j hlt 1 _ rfl) u
      have y0 := fun u : Later wr => Later.cellp (show wr.cell? ⟨b', o' + j * 2, none⟩ = some (.int .i64 M[j].1) from hc' j hlt2 0 _ rfl) u
      have y1 := fun u : Later wr => Later.cellp (hc' j hlt2 1 _ rfl) u
      clear hc hc'
      by_cases he : L[j] = M[j]
      · have HN := Lib.hid (show L.take (j + 1) = M.take (j + 1) by rw [List.take_succ_eq_append_getElem hlt, List.take_succ_eq_append_getElem hlt2, he]; rw [show L.take j = M.take j from HT.out])
        rw [he] at x0 x1
        generalize M[j] = y at *
        clear he
        go_wp2_with fail
        refine region_later (by kernel_rfl) (by kernel_rfl) ?_
        repeat (go_big_quiet_step (fail))
        refine wpQuiet_nil ?_
        rintro _ ⟨u, rfl⟩
        have B2 := vi B u.below
        clear x0 x1 y0 y1
        go_wp2
        go_roundg (gk - 1)
        case measure => omega
        case rel => exact ⟨j + 1, by go_num, by omega, by omega, HN.out, B2⟩
      · have hd : R = false := by
          rw [← HR.out]
          simp
          intro h
          subst h
          exact he rfl
        have HD := Lib.hid hd
        have hd2 : L[j].1 ≠ M[j].1 ∨ L[j].2 ≠ M[j].2 := by
          by_cases h : L[j].1 = M[j].1
          · exact Or.inr (fun h' => he (Prod.ext h h'))
          · exact Or.inl h
        clear hd he
        generalize L[j] = x at *
        generalize M[j] = y at *
        rcases hq : (x.1 == y.1)
        · clear hd2
          go_wp2_with fail
          refine region_later (by kernel_rfl) (by kernel_rfl) ?_
          repeat (go_big_quiet_step (fail))
          refine wpQuiet_nil ?_
          rintro _ ⟨u, rfl⟩
          have B2 := vi B u.below
          clear x0 x1 y0 y1
          go_wp2
          go_ret
          exact ⟨by rw [HD.out]; rfl, B2⟩
        · have hq2 : (x.2 == y.2) = false := by
            rcases hd2 with h | h
            · exact absurd (by simpa using hq) h
            · simpa using h
          clear hd2
          go_wp2_with fail
          refine region_later (by kernel_rfl) (by kernel_rfl) ?_
          repeat (go_big_quiet_step (fail))
          refine wpQuiet_nil ?_
          rintro _ ⟨u, rfl⟩
          have B2 := vi B u.below
          clear x0 x1 y0 y1
          go_wp2
          go_ret
          exact ⟨by rw [HD.out]; rfl, B2⟩
    · have hje : j = L.length := by omega
      subst hje
      have hT := HT.out
      rw [List.take_length, List.take_of_length_le (by omega)] at hT
      have HD := Lib.hid (show R = true by rw [← HR.out]; exact decide_eq_true (show L = M from hT))
      go_wp2
      go_ret
      exact ⟨by rw [HD.out]; rfl, B⟩
end Go.Proofs.YtceddjpaddcjiaaGreatDoor

/- The walk of the closure in plan.each that looks for the row that fires next. -/
import Derived.Test.YtceddjpaddcjiaaGreatDoorPlanF
import Derived.Test.YtceddjpaddcjiaaGreatDoorPlanRows
import Derived.Test.YtceddjpaddcjiaaGreatDoorElems
import Derived.Deep.MidRow
namespace Go.Proofs.YtceddjpaddcjiaaGreatDoor
open Go.RowKit
theorem rwC_len (r : Rw) : (rwC r).length = 24 := rfl
theorem bestF_range (tt : Int) (L : List Rw) : ∀ k, k ≤ L.length → -1 ≤ bestF tt L k ∧ bestF tt L k < k := by
  intro k hk
  rcases best_spec tt L k hk with ⟨h, _⟩ | ⟨i, _, h, hi, _⟩
  · omega
  · omega
theorem bestF_succ (tt : Int) (L : List Rw) (k : Nat) (h : k < L.length) : bestF tt L (k + 1) = if elig tt L[k] = true ∧ better L (bestF tt L k) L[k] = true then (k : Int) else bestF tt L k := by
  rw [bestF, List.getElem?_eq_getElem h]
set_option maxHeartbeats 8000000 in
set_option maxRecDepth 100000 in
theorem first_clo (tt : Int) (L : List Rw) (p : Option Addr) (c bl bt : Nat) (w : World) (hl : w.heap[bl]? = some (.cells #[.slice p L.length c] 163)) (ht : w.heap[bt]? = some (.cells #[.int .i64 tt] 2))
    (hL : ElemsAt 24 rwC w w.heap.size p L) (hn : L.length ≤ 13) :
    Calls Tryz.prog 115 #[.pointer (some ⟨bl, 0, none⟩), .pointer (some ⟨bt, 0, none⟩)] w fun e w' => e = .returned (.int .i64 (bestF tt L L.length)) ∧ Below w.heap.size w w' := by
  have HL := Lib.hid hL
  clear hL
  have lc := blk_cell hl
  go_enter Tryz.func115, Tryz.ntmps115
  go_wp2_with fail
  clear lc
  go_loopg [3, 8] 20 (fun g bv iv wr => ∃ (j : Nat) (b : Int), iv = .int .i64 j ∧ bv = .int .i64 b ∧ Aside (bestF tt L j = b) ∧ j ≤ L.length ∧ L.length - j ≤ g ∧ Below w.heap.size w wr)
  case atStart => exact ⟨0, -1, rfl, rfl, rfl, by omega, by omega, Below.refl _ _⟩
  case round =>
    obtain ⟨j, bb, rfl, rfl, hb, hj, hg, B⟩ := hrel
    have HB := Lib.hid hb
    clear hb
    by_cases hlt : j < L.length
    · have HJ := elems_keep HL.out B
      obtain ⟨b, o, rfl, hbl, hc⟩ := HJ.resolve_left (elems_len hlt)
      have hr : wr.rangeAt b (o + j * 24) (rwC L[j]) := fun k v hv => hc j hlt k v hv
      have HS := Lib.hid (bestF_succ tt L j hlt)
      have HC := Lib.hid hc
      have hbr := bestF_range tt L j hj
      rw [HB.out] at hbr
      have ll := blk_keep hl B
      have lt' := blk_keep ht B
      have XB := blk_new wr (rwO L[j])
      have B2 := al B (rwO L[j])
      have ll2 := blk_alloc (o' := rwO L[j]) ll
      have lt2 := blk_alloc (o' := rwO L[j]) lt'
      have hsz := B.size
      clear hc ll lt'
      generalize hq : L[j] = q at *
      have HQ := Lib.hid hq
      clear hq
      go_wp2_with (first | (refine wpList_load_mid rfl 166 (.tmp 11) rfl b (o + j * 24) rfl (rwC q) _ hr Tryz.underlying166 rfl (by kernel_rfl) ?_) | (refine wpList_store_new rfl 166 (.tmp 5) (.tmp 12) rfl wr _ _ rfl rfl rfl (by kernel_rfl) rfl (by simp [Value.oneCell']) ?_) | ((conv in (World.alloc wr (rwO q)) => skip); generalize World.alloc wr (rwO q) = W2 at *))
      dsimp only [Act.put]
      have xc := later_blk XB
      have lc2 := later_blk ll2
      have tc := later_blk lt2
      have HE2 := elems_keep HL.out B2
      clear ll2 lt2 XB hr
      obtain ⟨qj, qx, qa, qo⟩ := q
      cases qo
      rotate_left
      · have HN := Lib.hid (show bestF tt L (j + 1) = bb by rw [HS.out, if_neg (by simp [elig])]; exact HB.out)
        refine region_later (by kernel_rfl) (by kernel_rfl) ?_
        repeat (go_big_quiet_step (fail))
        refine wpQuiet_nil ?_
        rintro _ ⟨u, rfl⟩
        have B3 := vi B2 u.below
        go_wp2
        go_roundg (gk - 1)
        case measure => omega
        case rel => exact ⟨j + 1, _, by go_num, rfl, HN.out, by omega, by omega, B3⟩
      by_cases h1 : qa ≤ tt
      rotate_left
      · have HN := Lib.hid (show bestF tt L (j + 1) = bb by rw [HS.out, if_neg (by simp [elig, h1])]; exact HB.out)
        have h1' : decide (qa ≤ tt) = false := by simpa using h1
        replace h1 : tt < qa := by omega
        refine region_later (by kernel_rfl) (by kernel_rfl) ?_
        repeat (go_big_quiet_step (fail))
        refine wpQuiet_nil ?_
        rintro _ ⟨u, rfl⟩
        have B3 := vi B2 u.below
        go_wp2
        go_roundg (gk - 1)
        case measure => omega
        case rel => exact ⟨j + 1, _, by go_num, rfl, HN.out, by omega, by omega, B3⟩
      have h1' : decide (qa ≤ tt) = true := by simpa using h1
      by_cases h2 : bb < 0
      · have HN := Lib.hid (show bestF tt L (j + 1) = j by rw [HS.out, HB.out, if_pos ⟨by simp [elig, h1], by simp [better, h2]⟩])
        have h2' : decide (bb < 0) = true := by simpa using h2
        refine region_later (by kernel_rfl) (by kernel_rfl) ?_
        repeat (go_big_quiet_step (fail))
        refine wpQuiet_nil ?_
        rintro _ ⟨u, rfl⟩
        have B3 := vi B2 u.below
        go_wp2
        go_roundg (gk - 1)
        case measure => omega
        case rel => exact ⟨j + 1, _, by go_num, rfl, HN.out, by omega, by omega, B3⟩
      have h2' : decide (bb < 0) = false := by simpa using h2
      replace h2 : 0 ≤ bb := by omega
      obtain ⟨i, rfl⟩ : ∃ i : Nat, bb = i := ⟨bb.toNat, by omega⟩
      have hil : i < L.length := by omega
      obtain ⟨b', o', e', _, hc'⟩ := HE2.resolve_left (elems_len hlt)
      injection e' with e'
      injection e' with e1 e2
      subst e1 e2
      have rc := fun u : Later W2 => Later.cellp (hc' i hil 22 _ rfl) u
      clear hc'
      have hbt : better L (i : Int) ⟨qj, qx, qa, false⟩ = decide (qa < L[i].at') := by
        unfold better
        rw [show ((i : Int).toNat) = i from rfl, List.getElem?_eq_getElem hil]
        simp
        omega
      have HBT := Lib.hid hbt
      clear hbt
      generalize L[i].at' = ma at *
      by_cases h3 : qa < ma
      · have HN := Lib.hid (show bestF tt L (j + 1) = j by rw [HS.out, HB.out, if_pos ⟨by simp [elig, h1], by rw [HBT.out]; simpa using h3⟩])
        have h3' : decide (qa < ma) = true := by simpa using h3
        refine region_later (by kernel_rfl) (by kernel_rfl) ?_
        repeat (go_big_quiet_step (fail))
        refine wpQuiet_nil ?_
        rintro _ ⟨u, rfl⟩
        have B3 := vi B2 u.below
        go_wp2
        go_roundg (gk - 1)
        case measure => omega
        case rel => exact ⟨j + 1, _, by go_num, rfl, HN.out, by omega, by omega, B3⟩
      · have HN := Lib.hid (show bestF tt L (j + 1) = i by rw [HS.out, HB.out, if_neg (by rintro ⟨_, h⟩; rw [HBT.out] at h; exact h3 (of_decide_eq_true h))])
        have h3' : decide (qa < ma) = false := by simpa using h3
        replace h3 : ma ≤ qa := by omega
        refine region_later (by kernel_rfl) (by kernel_rfl) ?_
        repeat (go_big_quiet_step (fail))
        refine wpQuiet_nil ?_
        rintro _ ⟨u, rfl⟩
        have B3 := vi B2 u.below
        go_wp2
        go_roundg (gk - 1)
        case measure => omega
        case rel => exact ⟨j + 1, _, by go_num, rfl, HN.out, by omega, by omega, B3⟩
    · have hje : j = L.length := by omega
      subst hje
      have hb := HB.out
      go_wp2
      go_ret
      exact ⟨by rw [hb]; rfl, B⟩
end Go.Proofs.YtceddjpaddcjiaaGreatDoor

/- The walk of known. -/
import Derived.Test.YtceddjpaddcjiaaGreatDoorKnown
namespace Go.Proofs.YtceddjpaddcjiaaGreatDoor
open Go.RowKit
theorem elems_new {α : Type} {sz : Nat} {C : α → List Value} (hC : ∀ x, (C x).length = sz) (w : World) (M : List α) (t : TypeId) {cs : Array Value} (h : cs = (M.flatMap C).toArray) : ElemsAt sz C (w.alloc (.cells cs t)) (w.alloc (.cells cs t)).heap.size (some ⟨w.heap.size, 0, none⟩) M := by
  subst h
  refine Or.inr ⟨w.heap.size, 0, rfl, by simp, fun i hi k v hv => ?_⟩
  rw [blk_cell (blk_new w _), Nat.zero_add]
  simpa using flat_at hC M i hi k v hv
def Good (w : World) (e : Ending) (w' : World) : Prop := e = .returned (.bool true) ∧ Below w.heap.size w w'
abbrev sixL : List (Int × Int) := [(1800, 2), (3600, 1), (3600, 2), (5400, 2), (7200, 1), (7200, 2)]
theorem six_eq : (runsF twoJ 0 7200 9).map itOf = sixL := by rw [two_runs]; rfl
theorem peak_eq : peakF (runsF twoJ 0 7200 9) = (3, 7200) := by rw [two_runs]; decide
theorem gap_eq : gapF 0 7200 (runsF twoJ 0 7200 9) = (0, 1800) := by rw [two_runs]; decide
theorem clash_eq : clashF (runsF twoJ 0 7200 9) = [(7200, 1)] := by rw [two_runs]; decide
theorem k_first (p : Option Addr) (w : World) (h : JobsOk w p twoJ) : Calls Tryz.prog 10 #[.slice p 2 2, .int .i64 0, .int .i64 7200, .int .i64 9] w fun e w' => ∃ q c, e = .returned (.slice q 6 c) ∧ ElemsAt 2 itC w' w'.heap.size q sixL ∧ Below w.heap.size w w' := by
  have := pfirst_any p twoJ 2 0 7200 9 w h (by decide)
  rw [six_eq] at this
  exact this
theorem k_none (p : Option Addr) (w : World) (h : JobsOk w p twoJ) : Calls Tryz.prog 10 #[.slice p 2 2, .int .i64 5, .int .i64 5, .int .i64 9] w fun e w' => ∃ q c, e = .returned (.slice q 0 c) ∧ Below w.heap.size w w' := by
  have := pfirst_any p twoJ 2 5 5 9 w h (by decide)
  rw [two_none] at this
  exact this.mono fun e w' ⟨q, c, a, _, b⟩ => ⟨q, c, a, b⟩
theorem k_zero (p : Option Addr) (w : World) (h : JobsOk w p twoJ) : Calls Tryz.prog 10 #[.slice p 2 2, .int .i64 0, .int .i64 7200, .int .i64 0] w fun e w' => ∃ q c, e = .returned (.slice q 0 c) ∧ Below w.heap.size w w' := by
  have := pfirst_any p twoJ 2 0 7200 0 w h (by decide)
  rw [two_zero] at this
  exact this.mono fun e w' ⟨q, c, a, _, b⟩ => ⟨q, c, a, b⟩
theorem k_peak (p : Option Addr) (w : World) (h : JobsOk w p twoJ) : Calls Tryz.prog 12 #[.slice p 2 2, .int .i64 0, .int .i64 7200, .int .i64 9] w fun e w' => e = .returned (.tuple #[.int .i64 3, .int .i64 7200]) ∧ Below w.heap.size w w' := by
  have := peak_any p twoJ 2 0 7200 9 w h (by decide)
  rw [peak_eq] at this
  exact this
theorem k_gap (p : Option Addr) (w : World) (h : JobsOk w p twoJ) : Calls Tryz.prog 11 #[.slice p 2 2, .int .i64 0, .int .i64 7200, .int .i64 9] w fun e w' => e = .returned (.tuple #[.int .i64 0, .int .i64 1800]) ∧ Below w.heap.size w w' := by
  have := gap_any p twoJ 2 0 7200 9 w h (by decide)
  rw [gap_eq] at this
  exact this
theorem k_clash (p : Option Addr) (w : World) (h : JobsOk w p twoJ) : Calls Tryz.prog 14 #[.slice p 2 2, .int .i64 0, .int .i64 7200, .int .i64 9] w fun e w' => ∃ q c, e = .returned (.slice q 1 c) ∧ ElemsAt 2 itC w' w'.heap.size q [(7200, 1)] ∧ Below w.heap.size w w' := by
  have := clash_any p twoJ 2 0 7200 9 w h (by decide)
  rw [clash_eq] at this
  exact this
theorem k_two (w : World) : Calls Tryz.prog 47 #[] w fun e w' => ∃ p, e = .returned (.slice p 2 2) ∧ (Env w → JobsOk w' p twoJ) ∧ Below w.heap.size w w' := two_any w
theorem equal_six (p q : Option Addr) (c d : Nat) (w : World) (hL : ElemsAt 2 itC w w.heap.size p sixL) (hM : ElemsAt 2 itC w w.heap.size q sixL) :
    Calls Tryz.prog 18 #[.slice p 6 c, .slice q 6 d] w fun e w' => e = .returned (.bool true) ∧ Below w.heap.size w w' := equal_items p q sixL sixL c d w hL hM (by decide)
theorem equal_one (p q : Option Addr) (c d : Nat) (w : World) (hL : ElemsAt 2 itC w w.heap.size p [(7200, 1)]) (hM : ElemsAt 2 itC w w.heap.size q [(7200, 1)]) :
    Calls Tryz.prog 18 #[.slice p 1 c, .slice q 1 d] w fun e w' => e = .returned (.bool true) ∧ Below w.heap.size w w' := equal_items p q [(7200, 1)] [(7200, 1)] c d w hL hM (by decide)
set_option maxHeartbeats 8000000 in
set_option maxRecDepth 100000 in
theorem known_any (w : World) (hE : Env w) : Calls Tryz.prog 8 #[] w (Good w) := by
  have HE := Lib.hid hE
  clear hE
  go_enter Tryz.func8, Tryz.ntmps8
  go_wp2_with fail
  refine (k_two _).mono ?_
  rintro e w1 ⟨p1, rfl, hj, hb⟩
  have B := hb
  have HJ := Lib.hid (hj HE.out)
  clear hj hb
  go_wp2_with fail
  refine (k_first _ _ HJ.out).mono ?_
  rintro e w2 ⟨q1, c1, rfl, hL, hb⟩
  have HL := Lib.hid hL
  have B := vi B hb
  clear HJ hL hb
  go_wp2_with fail
  refine (k_two _).mono ?_
  rintro e w3 ⟨p2, rfl, hj, hb⟩
  have HJ := Lib.hid (hj (env_keep HE.out B))
  have HL := Lib.hid (elems_mono (elems_keep HL.out hb) hb.size)
  have B := vi B hb
  clear hj hb
  go_wp2_with fail
  refine (k_peak _ _ HJ.out).mono ?_
  rintro e w4 ⟨rfl, hb⟩
  have HL := Lib.hid (elems_mono (elems_keep HL.out hb) hb.size)
  have B := vi B hb
  clear HJ hb
  go_wp2_with fail
  refine (k_two _).mono ?_
  rintro e w5 ⟨p3, rfl, hj, hb⟩
  have HJ := Lib.hid (hj (env_keep HE.out B))
  have HL := Lib.hid (elems_mono (elems_keep HL.out hb) hb.size)
  have B := vi B hb
  clear hj hb
  go_wp2_with fail
  refine (k_gap _ _ HJ.out).mono ?_
  rintro e w6 ⟨rfl, hb⟩
  have HL := Lib.hid (elems_mono (elems_keep HL.out hb) hb.size)
  have B := vi B hb
  clear HJ hb
  go_wp2_with fail
  have hM := elems_new itC_len w6 sixL 31 (cs := #[.int .i64 1800, .int .u64 2, .int .i64 3600, .int .u64 1, .int .i64 3600, .int .u64 2, .int .i64 5400, .int .u64 2, .int .i64 7200, .int .u64 1, .int .i64 7200, .int .u64 2]) rfl
  have A6 := a0 w6 (.cells #[.int .i64 1800, .int .u64 2, .int .i64 3600, .int .u64 1, .int .i64 3600, .int .u64 2, .int .i64 5400, .int .u64 2, .int .i64 7200, .int .u64 1, .int .i64 7200, .int .u64 2] 31)
  have hL := elems_mono (elems_keep HL.out A6) A6.size
  have B := vi B A6
  generalize w6.alloc _ = W6 at *
  have HL := Lib.hid hL
  have HM := Lib.hid hM
  clear hL hM A6
  refine (equal_six _ _ _ _ _ HL.out HM.out).mono ?_
  rintro e w7 ⟨rfl, hb⟩
  have B := vi B hb
  clear HL HM hb
  go_wp2_with fail
  refine (k_two _).mono ?_
  rintro e w8 ⟨p8, rfl, hj, hb⟩
  have HJ := Lib.hid (hj (env_keep HE.out B))
  have B := vi B hb
  clear hj hb
  go_wp2_with fail
  refine (k_clash _ _ HJ.out).mono ?_
  rintro e w9 ⟨q2, c2, rfl, hL, hb⟩
  have HL := Lib.hid hL
  clear hL
  have B := vi B hb
  clear HJ hb
  go_wp2_with fail
  have hM := elems_new itC_len w9 [((7200 : Int), (1 : Int))] 31 (cs := #[.int .i64 7200, .int .u64 1]) rfl
  have A9 := a0 w9 (.cells #[.int .i64 7200, .int .u64 1] 31)
  have hL := elems_mono (elems_keep HL.out A9) A9.size
  have B := vi B A9
  generalize w9.alloc _ = W9 at *
  have HL := Lib.hid hL
  have HM := Lib.hid hM
  clear hL hM A9
  refine (equal_one _ _ _ _ _ HL.out HM.out).mono ?_
  rintro e w10 ⟨rfl, hb⟩
  have B := vi B hb
  clear HL HM hb
  go_wp2_with fail
  refine (k_two _).mono ?_
  rintro e w11 ⟨p11, rfl, hj, hb⟩
  have HJ := Lib.hid (hj (env_keep HE.out B))
  have B := vi B hb
  clear hj hb
  go_wp2_with fail
  refine (k_none _ _ HJ.out).mono ?_
  rintro e w12 ⟨q3, c3, rfl, hb⟩
  have B := vi B hb
  clear HJ hb
  go_wp2_with fail
  refine (k_two _).mono ?_
  rintro e w13 ⟨p13, rfl, hj, hb⟩
  have HJ := Lib.hid (hj (env_keep HE.out B))
  have B := vi B hb
  clear hj hb
  go_wp2_with fail
  refine (k_zero _ _ HJ.out).mono ?_
  rintro e w14 ⟨q4, c4, rfl, hb⟩
  have B := vi B hb
  clear HJ hb
  go_wp2
  go_ret
  exact ⟨rfl, B⟩
end Go.Proofs.YtceddjpaddcjiaaGreatDoor

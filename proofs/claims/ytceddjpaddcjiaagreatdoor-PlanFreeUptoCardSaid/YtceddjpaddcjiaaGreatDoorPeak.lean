/- The walk of plan.Peak. -/
import Derived.Test.YtceddjpaddcjiaaGreatDoorPFirst
namespace Go.Proofs.YtceddjpaddcjiaaGreatDoor
open Go.RowKit
def runsAt (a : Int) (y : Rn) : Bool := decide (y.at' ≤ a) && decide (a < y.unt)
def cnt (a : Int) (l : List Rn) : Int := ((l.filter (runsAt a)).length : Int)
theorem cnt_snoc (a : Int) (l : List Rn) (k : Nat) (h : k < l.length) : cnt a (l.take (k + 1)) = cnt a (l.take k) + if runsAt a l[k] = true then 1 else 0 := by
  unfold cnt
  rw [List.take_succ_eq_append_getElem h, List.filter_append]
  cases hr : runsAt a l[k] <;> simp [hr]
theorem cnt_bd (a : Int) (l : List Rn) : 0 ≤ cnt a l ∧ cnt a l ≤ l.length := by
  unfold cnt
  have := List.length_filter_le (runsAt a) l
  omega
def peakStep (l : List Rn) (acc : Int × Int) (x : Rn) : Int × Int := if acc.1 < cnt x.at' l then (cnt x.at' l, x.at') else acc
def peakF (l : List Rn) : Int × Int := l.foldl (peakStep l) (0, 0)
theorem peak_snoc (l : List Rn) (j : Nat) (h : j < l.length) : (l.take (j + 1)).foldl (peakStep l) (0, 0) = peakStep l ((l.take j).foldl (peakStep l) (0, 0)) l[j] := by
  rw [List.take_succ_eq_append_getElem h, List.foldl_append]; rfl
set_option maxHeartbeats 8000000 in
set_option maxRecDepth 100000 in
theorem peak_any (jp : Option Addr) (js : List Jb) (jc : Nat) (fr tt most : Int) (w : World) (h : JobsOk w jp js) (hm : most ≤ 61) :
    Calls Tryz.prog 12 #[.slice jp js.length jc, .int .i64 fr, .int .i64 tt, .int .i64 most] w fun e w' => e = .returned (.tuple #[.int .i64 (peakF (runsF js fr tt most)).1, .int .i64 (peakF (runsF js fr tt most)).2]) ∧ Below w.heap.size w w' := by
  have hlen := runsF_len js fr tt most hm
  have hr0 := runs_any jp js jc fr tt most w h.env h.jobs h.len h.ids h.ok hm
  generalize runsF js fr tt most = l at *
  have HR0 := Lib.hid hr0
  clear h hr0
  generalize hpk : peakF l = pk
  have HPK := Lib.hid hpk
  clear hpk
  go_enter Tryz.func12, Tryz.ntmps12
  go_wp2_with fail
  refine HR0.out.mono ?_
  rintro e w1 ⟨p, c, rfl, hL, hb1, -⟩
  have HL := Lib.hid hL
  clear hL
  have z1 := hb1.size
  go_wp2_with fail
  go_loopg [8, 9, 23] 100 (fun g mv av iv wr => ∃ (j : Nat) (m a : Int), iv = .int .i64 j ∧ mv = .int .i64 m ∧ av = .int .i64 a ∧ Aside ((l.take j).foldl (peakStep l) (0, 0) = (m, a)) ∧ j ≤ l.length ∧ l.length - j ≤ g ∧ Below w1.heap.size w1 wr)
  case atStart => exact ⟨0, 0, 0, rfl, rfl, rfl, rfl, by omega, by omega, Below.refl _ _⟩
  case round =>
    obtain ⟨j, m, a, rfl, rfl, rfl, hA, hj, hg, B⟩ := hrel
    have HA := Lib.hid hA
    clear hA
    by_cases hlt : j < l.length
    · obtain ⟨b, o, rfl, hbl, hc⟩ := (elems_keep HL.out B).resolve_left (elems_len hlt)
      have hr : wr.rangeAt b (o + j * 5) (rnC l[j]) := fun k v hv => hc j hlt k v hv
      have hS := peak_snoc l j hlt
      rw [HA.out] at hS
      have HS := Lib.hid hS
      clear hc hS
      generalize hx : l[j] = x at *
      have HX := Lib.hid hx
      clear hx
      have hzr := B.size
      have B1 := al B (rnO x)
      have XB := blk_new wr (rnO x)
      go_wp2_with (first | (refine wpList_load_mid rfl 93 (.tmp 26) rfl b (o + j * 5) rfl (rnC x) _ hr Tryz.underlying93 rfl (by kernel_rfl) ?_) | (refine wpList_store_new rfl 93 (.tmp 12) (.tmp 27) rfl wr _ _ rfl rfl rfl (by kernel_rfl) rfl (by simp [Value.oneCell']) ?_) | ((conv in (World.alloc wr (rnO x)) => skip); generalize World.alloc wr (rnO x) = W2 at *))
      obtain ⟨gko, rfl⟩ : ∃ g, g = gk := ⟨_, rfl⟩
      obtain ⟨wo, rfl⟩ : ∃ wo : World, wo = wr := ⟨_, rfl⟩
      generalize wo.heap.size = xb at *
      go_loopg [13, 30] 100 (fun g nv iv wr => ∃ (k : Nat) (n : Int), iv = .int .i64 k ∧ nv = .int .i64 n ∧ Aside (cnt x.at' (l.take k) = n) ∧ k ≤ l.length ∧ l.length - k ≤ g ∧ Below W2.heap.size W2 wr)
      case atStart => exact ⟨0, 0, rfl, rfl, rfl, by omega, by omega, Below.refl _ _⟩
      case round =>
        obtain ⟨k, n, rfl, rfl, hA2, hk, hg2, B2⟩ := hrel
        have HA2 := Lib.hid hA2
        clear hA2
        have XB2 := blk_keep XB B2
        by_cases hk2 : k < l.length
        · have hr2 := elems_at (elems_keep HL.out (vi B1 B2)) k hk2
          have hS := cnt_snoc x.at' l k hk2
          rw [HA2.out] at hS
          have HS2 := Lib.hid hS
          clear hS
          generalize l[k] = y at *
          have B3 := al B2 (rnO y)
          have YB := blk_new wr (rnO y)
          have XB3 := blk_alloc (o' := rnO y) XB2
          by_cases h1 : y.at' ≤ x.at' ∧ x.at' < y.unt
          · obtain ⟨h1, h2⟩ := h1
            have HN := Lib.hid (show cnt x.at' (l.take (k + 1)) = n + 1 by rw [HS2.out, if_pos (by simp [runsAt, h1, h2])])
            have h1' : decide (y.at' ≤ x.at') = true := by simpa using h1
            have h2' : decide (x.at' < y.unt) = true := by simpa using h2
            have hcb := cnt_bd x.at' (l.take k)
            rw [HA2.out] at hcb
            have hn61 : n ≤ 61 := by have := hcb.2; simp at this; omega
            go_wp2_with (first | (refine wpList_load_mid rfl 93 (.tmp 32) rfl b (o + k * 5) rfl (rnC y) _ hr2 Tryz.underlying93 rfl (by kernel_rfl) ?_) | (refine wpList_store_new rfl 93 (.tmp 15) (.tmp 33) rfl wr _ _ rfl rfl rfl (by kernel_rfl) rfl (by simp [Value.oneCell']) ?_) | ((conv in (World.alloc wr (rnO y)) => skip); generalize World.alloc wr (rnO y) = W3 at *; have yc := blk_cell YB; have xc := blk_cell XB3))
            go_roundg (gk - 1)
            case measure => omega
            case rel => exact ⟨k + 1, _, by go_num, rfl, HN.out, by omega, by omega, B3⟩
          · have HN := Lib.hid (show cnt x.at' (l.take (k + 1)) = n by rw [HS2.out, if_neg (by intro h; simp [runsAt] at h; exact h1 h)]; simp)
            by_cases h3 : y.at' ≤ x.at'
            · have h1' : decide (y.at' ≤ x.at') = true := by simpa using h3
              have h2 : y.unt ≤ x.at' := by omega
              have h2' : decide (x.at' < y.unt) = false := by simp; omega
              clear h1
              go_wp2_with (first | (refine wpList_load_mid rfl 93 (.tmp 32) rfl b (o + k * 5) rfl (rnC y) _ hr2 Tryz.underlying93 rfl (by kernel_rfl) ?_) | (refine wpList_store_new rfl 93 (.tmp 15) (.tmp 33) rfl wr _ _ rfl rfl rfl (by kernel_rfl) rfl (by simp [Value.oneCell']) ?_) | ((conv in (World.alloc wr (rnO y)) => skip); generalize World.alloc wr (rnO y) = W3 at *; have yc := blk_cell YB; have xc := blk_cell XB3))
              go_roundg (gk - 1)
              case measure => omega
              case rel => exact ⟨k + 1, _, by go_num, rfl, HN.out, by omega, by omega, B3⟩
            · have h1' : decide (y.at' ≤ x.at') = false := by simpa using h3
              replace h3 : x.at' < y.at' := by omega
              clear h1
              go_wp2_with (first | (refine wpList_load_mid rfl 93 (.tmp 32) rfl b (o + k * 5) rfl (rnC y) _ hr2 Tryz.underlying93 rfl (by kernel_rfl) ?_) | (refine wpList_store_new rfl 93 (.tmp 15) (.tmp 33) rfl wr _ _ rfl rfl rfl (by kernel_rfl) rfl (by simp [Value.oneCell']) ?_) | ((conv in (World.alloc wr (rnO y)) => skip); generalize World.alloc wr (rnO y) = W3 at *; have yc := blk_cell YB; have xc := blk_cell XB3))
              go_roundg (gk - 1)
              case measure => omega
              case rel => exact ⟨k + 1, _, by go_num, rfl, HN.out, by omega, by omega, B3⟩
        · have hke : k = l.length := by omega
          subst hke
          have hA3 := HA2.out
          rw [List.take_length] at hA3
          have HA3 := Lib.hid (show cnt x.at' l = n from hA3)
          have hps : peakStep l (m, a) x = if m < n then (n, x.at') else (m, a) := by unfold peakStep; rw [HA3.out]
          have HPS := Lib.hid (HS.out.trans hps)
          clear hA3 hps
          have B4 := vi B1 B2
          by_cases hmn : m < n
          · have HF := Lib.hid (show (l.take (j + 1)).foldl (peakStep l) (0, 0) = (n, x.at') by rw [HPS.out, if_pos hmn])
            have hrx := elems_at (elems_keep HL.out B4) j hlt
            rw [HX.out] at hrx
            have c0 := fun u : Later wr => Later.cellp (show wr.cell? ⟨b, o + j * 5, none⟩ = some (.int .i64 x.at') from hrx 0 _ rfl) u
            clear hrx
            go_wp2_with fail
            refine region_later (by kernel_rfl) (by kernel_rfl) ?_
            repeat (go_big_quiet_step (fail))
            refine wpQuiet_nil ?_
            rintro _ ⟨u, rfl⟩
            have B5 := vi B4 u.below
            go_wp2
            go_roundg (gko - 1)
            case measure => omega
            case rel => exact ⟨j + 1, _, _, by go_num, rfl, rfl, HF.out, by omega, by omega, B5⟩
          · replace hmn : n ≤ m := by omega
            have HF := Lib.hid (show (l.take (j + 1)).foldl (peakStep l) (0, 0) = (m, a) by rw [HPS.out, if_neg (by omega)])
            go_wp2
            go_roundg (gko - 1)
            case measure => omega
            case rel => exact ⟨j + 1, _, _, by go_num, rfl, rfl, HF.out, by omega, by omega, B4⟩
    · have hje : j = l.length := by omega
      subst hje
      have hA := HA.out
      rw [List.take_length] at hA
      go_wp2
      go_ret2
      exact ⟨by rw [← HPK.out, show peakF l = (m, a) from hA]; rfl, vi hb1 B⟩
end Go.Proofs.YtceddjpaddcjiaaGreatDoor

/- The walk of plan.Clashes. -/
import Derived.Test.YtceddjpaddcjiaaGreatDoorPFirst
namespace Go.Proofs.YtceddjpaddcjiaaGreatDoor
open Go.RowKit
def clB (x y : Rn) : Bool := (y.id == x.id) && (y.pl == x.pl) && decide (x.at' < y.unt)
def cntK (x : Rn) (K : List Rn) : Int := ((K.filter (clB x)).length : Int)
theorem cntK_snoc (x : Rn) (K : List Rn) (k : Nat) (h : k < K.length) : cntK x (K.take (k + 1)) = cntK x (K.take k) + if clB x K[k] = true then 1 else 0 := by
  unfold cntK
  rw [List.take_succ_eq_append_getElem h, List.filter_append]
  cases hr : clB x K[k] <;> simp [hr]
theorem cntK_bd (x : Rn) (K : List Rn) : 0 ≤ cntK x K ∧ cntK x K ≤ K.length := by
  unfold cntK
  have := List.length_filter_le (clB x) K
  omega
def clStep (acc : List (Int × Int) × List Rn) (x : Rn) : List (Int × Int) × List Rn := if x.lim ≤ cntK x acc.2 then (acc.1 ++ [itOf x], acc.2) else (acc.1, acc.2 ++ [x])
def clAt (l : List Rn) (j : Nat) : List (Int × Int) × List Rn := (l.take j).foldl clStep ([], [])
def clashF (l : List Rn) : List (Int × Int) := (l.foldl clStep ([], [])).1
theorem clAt_succ (l : List Rn) (j : Nat) (h : j < l.length) : clAt l (j + 1) = clStep (clAt l j) l[j] := by
  unfold clAt
  rw [List.take_succ_eq_append_getElem h, List.foldl_append]; rfl
theorem own_ne {w : World} {b1 b2 : Nat} {e1 e2 : TypeId} {s1 s2 : Nat} {v1 v2 : Value} {n1 n2 : Nat} {x1 x2 : List Value} (h1 : w.ownsRow b1 e1 s1 v1 n1 x1) (h2 : w.ownsRow b2 e2 s2 v2 n2 x2) (he : e1 ≠ e2) : v1.ownBlock = none ∨ v1.ownBlock ≠ v2.ownBlock := by
  obtain ⟨-, ⟨rfl, -⟩ | ⟨g, cap, cur, rfl, -, hg, -⟩⟩ := h1
  · exact Or.inl rfl
  · refine Or.inr fun e => ?_
    obtain ⟨-, ⟨rfl, -⟩ | ⟨g', cap', cur', rfl, -, hg', -⟩⟩ := h2
    · cases e
    · have : g = g' := by simpa [Value.ownBlock] using e
      subst this
      rw [hg] at hg'
      injection hg' with hg'
      injection hg' with _ h
      exact he h
set_option maxHeartbeats 16000000 in
set_option maxRecDepth 100000 in
theorem clash_any (jp : Option Addr) (js : List Jb) (jc : Nat) (fr tt most : Int) (w : World) (h : JobsOk w jp js) (hm : most ≤ 61) :
    Calls Tryz.prog 14 #[.slice jp js.length jc, .int .i64 fr, .int .i64 tt, .int .i64 most] w fun e w' => ∃ p c, e = .returned (.slice p (clashF (runsF js fr tt most)).length c) ∧ ElemsAt 2 itC w' w'.heap.size p (clashF (runsF js fr tt most)) ∧ Below w.heap.size w w' := by
  have hlen := runsF_len js fr tt most hm
  have hr0 := runs_any jp js jc fr tt most w h.env h.jobs h.len h.ids h.ok hm
  generalize runsF js fr tt most = l at *
  have HR0 := Lib.hid hr0
  clear h hr0
  generalize hcf : clashF l = R
  have HCF := Lib.hid hcf
  clear hcf
  go_enter Tryz.func14, Tryz.ntmps14
  go_wp2_with fail
  refine HR0.out.mono ?_
  rintro e w1 ⟨p, c, rfl, hL, hb1, -⟩
  have HL := Lib.hid hL
  clear hL
  have z1 := hb1.size
  obtain ⟨i0, hi, hz0, hz1, hz2⟩ := info_parts info_it
  have HI := Lib.hid hi
  have HZ0 := Lib.hid hz0
  have HZ1 := Lib.hid hz1
  have HZ2 := Lib.hid hz2
  clear hi hz0 hz1 hz2
  obtain ⟨i1, hi, hz0, hz1, hz2⟩ := info_parts info_run
  have RI := Lib.hid hi
  have RZ0 := Lib.hid hz0
  have RZ1 := Lib.hid hz1
  have RZ2 := Lib.hid hz2
  clear hi hz0 hz1 hz2
  go_wp2_with fail
  go_loopg [9, 10, 22] 100 (fun g ov kv iv wr => ∃ (j : Nat) (O : List (Int × Int)) (K : List Rn), iv = .int .i64 j ∧ Aside (clAt l j = (O, K)) ∧ j ≤ l.length ∧ l.length - j ≤ g ∧ O.length ≤ j ∧ K.length ≤ j ∧ Below w1.heap.size w1 wr ∧
    wr.ownsRow w1.heap.size 31 2 ov O.length (O.flatMap itC) ∧ wr.ownsRow w1.heap.size 93 5 kv K.length (K.flatMap rnC))
  case atStart => exact ⟨0, [], [], rfl, rfl, by omega, by omega, Nat.le_refl _, Nat.le_refl _, Below.refl _ _, World.ownsRow_nil _ _ _ _, World.ownsRow_nil _ _ _ _⟩
  case round =>
    obtain ⟨j, O, K, rfl, hA, hj, hg, hOl, hKl, B, hO, hK⟩ := hrel
    have HA := Lib.hid hA
    clear hA
    by_cases hlt : j < l.length
    · obtain ⟨b, o, rfl, hbl, hc⟩ := (elems_keep HL.out B).resolve_left (elems_len hlt)
      have hr : wr.rangeAt b (o + j * 5) (rnC l[j]) := fun k v hv => hc j hlt k v hv
      have hS := clAt_succ l j hlt
      rw [HA.out] at hS
      have HS := Lib.hid hS
      obtain ⟨kp, kc, rfl, hEK⟩ := elems_own rnC_len hK
      have HEK := Lib.hid hEK
      have HO := Lib.hid hO
      have HK := Lib.hid hK
      clear hc hS hEK hO hK
      generalize l[j] = x at *
      have hzr := B.size
      have A1 := a0 wr (rnO x)
      have XB := blk_new wr (rnO x)
      have HEK1 := Lib.hid (elems_keep HEK.out A1)
      have HO1 := Lib.hid (HO.out.alloc (rnO x))
      have HK1 := Lib.hid (HK.out.alloc (rnO x))
      have B1 := al B (rnO x)
      go_wp2_with (first | (refine wpList_load_mid rfl 93 (.tmp 24) rfl b (o + j * 5) rfl (rnC x) _ hr Tryz.underlying93 rfl (by kernel_rfl) ?_) | (refine wpList_store_new rfl 93 (.tmp 12) (.tmp 25) rfl wr _ _ rfl rfl rfl (by kernel_rfl) rfl (by simp [Value.oneCell']) ?_) | ((conv in (World.alloc wr (rnO x)) => skip); generalize World.alloc wr (rnO x) = W2 at *))
      obtain ⟨gko, rfl⟩ : ∃ g, g = gk := ⟨_, rfl⟩
      obtain ⟨wo, rfl⟩ : ∃ wo : World, wo = wr := ⟨_, rfl⟩
      have zxb := A1.size
      generalize hxb : wo.heap.size = xb at *
      clear hxb
      go_loopg [13, 28] 100 (fun g nv iv wr => ∃ (k : Nat) (n : Int), iv = .int .i64 k ∧ nv = .int .i64 n ∧ Aside (cntK x (K.take k) = n) ∧ k ≤ K.length ∧ K.length - k ≤ g ∧ Below W2.heap.size W2 wr)
      case atStart => exact ⟨0, 0, rfl, rfl, rfl, by omega, by omega, Below.refl _ _⟩
      case round =>
        obtain ⟨k, n, rfl, rfl, hA2, hk, hg2, B2⟩ := hrel
        have HA2 := Lib.hid hA2
        clear hA2
        have XB2 := blk_keep XB B2
        by_cases hk2 : k < K.length
        · obtain ⟨b', o', rfl, _, _⟩ := HEK1.out.resolve_left (elems_len hk2)
          have hr2 := elems_at (elems_keep HEK1.out (B2.mono zxb)) k hk2
          have hS := cntK_snoc x K k hk2
          rw [HA2.out] at hS
          have HS2 := Lib.hid hS
          clear hS
          generalize K[k] = y at *
          have B3 := al B2 (rnO y)
          have YB := blk_new wr (rnO y)
          have XB3 := blk_alloc (o' := rnO y) XB2
          have hcb := cntK_bd x (K.take k)
          rw [HA2.out] at hcb
          have hn61 : n ≤ 61 := by have := hcb.2; simp at this; omega
          have hn0 := hcb.1
          clear hcb
          rcases hq1 : (y.id == x.id)
          · have HN := Lib.hid (show cntK x (K.take (k + 1)) = n by rw [HS2.out, if_neg (by simp [clB, hq1])]; simp)
            go_wp2_with (first | (refine wpList_load_mid rfl 93 (.tmp 30) rfl b' (o' + k * 5) rfl (rnC y) _ hr2 Tryz.underlying93 rfl (by kernel_rfl) ?_) | (refine wpList_store_new rfl 93 (.tmp 15) (.tmp 31) rfl wr _ _ rfl rfl rfl (by kernel_rfl) rfl (by simp [Value.oneCell']) ?_) | ((conv in (World.alloc wr (rnO y)) => skip); generalize World.alloc wr (rnO y) = W3 at *; have yc := blk_cell YB; have xc := blk_cell XB3))
            go_roundg (gk - 1)
            case measure => omega
            case rel => exact ⟨k + 1, _, by go_num, rfl, HN.out, by omega, by omega, B3⟩
          rcases hq2 : (y.pl == x.pl)
          · have HN := Lib.hid (show cntK x (K.take (k + 1)) = n by rw [HS2.out, if_neg (by simp [clB, hq2])]; simp)
            go_wp2_with (first | (refine wpList_load_mid rfl 93 (.tmp 30) rfl b' (o' + k * 5) rfl (rnC y) _ hr2 Tryz.underlying93 rfl (by kernel_rfl) ?_) | (refine wpList_store_new rfl 93 (.tmp 15) (.tmp 31) rfl wr _ _ rfl rfl rfl (by kernel_rfl) rfl (by simp [Value.oneCell']) ?_) | ((conv in (World.alloc wr (rnO y)) => skip); generalize World.alloc wr (rnO y) = W3 at *; have yc := blk_cell YB; have xc := blk_cell XB3))
            go_roundg (gk - 1)
            case measure => omega
            case rel => exact ⟨k + 1, _, by go_num, rfl, HN.out, by omega, by omega, B3⟩
          by_cases h3 : x.at' < y.unt
          · have HN := Lib.hid (show cntK x (K.take (k + 1)) = n + 1 by rw [HS2.out, if_pos (by simp [clB, hq1, hq2, h3])])
            have h3' : decide (x.at' < y.unt) = true := by simpa using h3
            go_wp2_with (first | (refine wpList_load_mid rfl 93 (.tmp 30) rfl b' (o' + k * 5) rfl (rnC y) _ hr2 Tryz.underlying93 rfl (by kernel_rfl) ?_) | (refine wpList_store_new rfl 93 (.tmp 15) (.tmp 31) rfl wr _ _ rfl rfl rfl (by kernel_rfl) rfl (by simp [Value.oneCell']) ?_) | ((conv in (World.alloc wr (rnO y)) => skip); generalize World.alloc wr (rnO y) = W3 at *; have yc := blk_cell YB; have xc := blk_cell XB3))
            go_roundg (gk - 1)
            case measure => omega
            case rel => exact ⟨k + 1, _, by go_num, rfl, HN.out, by omega, by omega, B3⟩
          · have HN := Lib.hid (show cntK x (K.take (k + 1)) = n by rw [HS2.out, if_neg (by simp [clB, h3])]; simp)
            have h3' : decide (x.at' < y.unt) = false := by simpa using h3
            replace h3 : y.unt ≤ x.at' := by omega
            go_wp2_with (first | (refine wpList_load_mid rfl 93 (.tmp 30) rfl b' (o' + k * 5) rfl (rnC y) _ hr2 Tryz.underlying93 rfl (by kernel_rfl) ?_) | (refine wpList_store_new rfl 93 (.tmp 15) (.tmp 31) rfl wr _ _ rfl rfl rfl (by kernel_rfl) rfl (by simp [Value.oneCell']) ?_) | ((conv in (World.alloc wr (rnO y)) => skip); generalize World.alloc wr (rnO y) = W3 at *; have yc := blk_cell YB; have xc := blk_cell XB3))
            go_roundg (gk - 1)
            case measure => omega
            case rel => exact ⟨k + 1, _, by go_num, rfl, HN.out, by omega, by omega, B3⟩
        · have hke : k = K.length := by omega
          subst hke
          have hA3 := HA2.out
          rw [List.take_length] at hA3
          have HA3 := Lib.hid (show cntK x K = n from hA3)
          have hst : clStep (O, K) x = if x.lim ≤ n then (O ++ [itOf x], K) else (O, K ++ [x]) := by unfold clStep; rw [HA3.out]
          have HST := Lib.hid (HS.out.trans hst)
          clear hA3 hst
          have xc := blk_cell XB2
          have B4 := vi B1 B2
          have hO4 := own_keep2 HO1.out B2
          have hK4 := own_keep2 HK1.out B2
          have HO4 := Lib.hid hO4
          have HK4 := Lib.hid hK4
          have z4 := B4.size
          clear hO4 hK4
          by_cases hlm : x.lim ≤ n
          · have HF := Lib.hid (show clAt l (j + 1) = (O ++ [itOf x], K) by rw [HST.out, if_pos hlm])
            have nws := World.news_of_block (blk_new wr (itO (x.at', x.id)))
            go_wp2_with (at_builtin; refine wpList_append_lies _ rfl (.tmp 61) (.tmp 64) 25 rfl w1.heap.size 31 i0 _ 2 16 Tryz.underlying25 HI.out HZ0.out HZ1.out HZ2.out rfl (by decide) _ O.length _ rfl (HO4.out.alloc _) ⟨wr.heap.size, 0, none⟩ 1 1 (itC (x.at', x.id)) rfl rfl nws (by simp [Value.oneCell']) (by decide) (by unfold maxLen; omega) (by omega) (by simp; omega) _ rfl ?_; intro g9 cap9 w9 hown9 hgrow9 _ _)
            have B9 := (al B4 (itO (x.at', x.id))).grown hgrow9 (by simp; omega) (fun k hk => (HO4.out.lt k hk).1)
            have hK9 := (HK4.out.alloc (itO (x.at', x.id))).kept hgrow9 (own_ne HK4.out HO4.out (by decide))
            have hO9 : w9.ownsRow w1.heap.size 31 2 (.slice (some ⟨g9, 0, none⟩) (O.length + 1) cap9) (O ++ [itOf x]).length ((O ++ [itOf x]).flatMap itC) := by
              rw [List.length_append, List.flatMap_append]
              simpa [itOf] using hown9
            go_roundg (gko - 1)
            case measure => omega
            case rel => exact ⟨j + 1, _, _, by go_num, HF.out, by omega, by omega, by simp; omega, by omega, B9, hO9, hK9⟩
          · replace hlm : n < x.lim := by omega
            have HF := Lib.hid (show clAt l (j + 1) = (O, K ++ [x]) by rw [HST.out, if_neg (by omega)])
            have nws := World.news_of_block (blk_new wr (rnO x))
            go_wp2_with (at_builtin; refine wpList_append_lies _ rfl (.tmp 66) (.tmp 68) 90 rfl w1.heap.size 93 i1 _ 5 40 Tryz.underlying90 RI.out RZ0.out RZ1.out RZ2.out rfl (by decide) _ K.length _ rfl (HK4.out.alloc _) ⟨wr.heap.size, 0, none⟩ 1 1 (rnC x) rfl rfl nws (by simp [Value.oneCell']) (by decide) (by unfold maxLen; omega) (by omega) (by simp; omega) _ rfl ?_; intro g9 cap9 w9 hown9 hgrow9 _ _)
            have B9 := (al B4 (rnO x)).grown hgrow9 (by simp; omega) (fun k hk => (HK4.out.lt k hk).1)
            have hO9 := (HO4.out.alloc (rnO x)).kept hgrow9 (own_ne HO4.out HK4.out (by decide))
            have hK9 : w9.ownsRow w1.heap.size 93 5 (.slice (some ⟨g9, 0, none⟩) (K.length + 1) cap9) (K ++ [x]).length ((K ++ [x]).flatMap rnC) := by
              rw [List.length_append, List.flatMap_append]
              simpa using hown9
            go_roundg (gko - 1)
            case measure => omega
            case rel => exact ⟨j + 1, _, _, by go_num, HF.out, by omega, by omega, by omega, by simp; omega, B9, hO9, hK9⟩
    · have hje : j = l.length := by omega
      subst hje
      have hA : clAt l l.length = (O, K) := HA.out
      unfold clAt at hA
      rw [List.take_length] at hA
      have hR : R = O := by rw [← HCF.out]; unfold clashF; rw [hA]
      subst hR
      clear hA
      obtain ⟨p', c', rfl, he⟩ := elems_own itC_len hO
      go_wp2
      go_ret
      exact ⟨p', c', rfl, he, vi hb1 B⟩
end Go.Proofs.YtceddjpaddcjiaaGreatDoor

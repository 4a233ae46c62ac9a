/- The walk of plan.Gap. -/
import Derived.Test.YtceddjpaddcjiaaGreatDoorPFirst
import Derived.IntWalk
namespace Go.Proofs.YtceddjpaddcjiaaGreatDoor
open Go.RowKit
def gapGo : Int → Int × Int → List Int → Int × Int
  | _, be, [] => be
  | p, (b, e), y :: r => gapGo y (if e - b < y - p then (p, y) else (b, e)) r
def gapG (A : List Int) (k : Nat) (be : Int × Int) : Int × Int := gapGo (A.getD k 0) be (A.drop (k + 1))
def gapF (fr tt : Int) (l : List Rn) : Int × Int := if momentB fr = true ∧ momentB tt = true ∧ fr < tt then gapG (fr :: (l.map (·.at') ++ [tt])) 0 (fr, fr) else (0, 0)
theorem gapG_end (A : List Int) (k : Nat) (be : Int × Int) (h : A.length = k + 1) : gapG A k be = be := by
  unfold gapG
  rw [List.drop_of_length_le (by omega)]
  rfl
theorem gapG_succ (A : List Int) (k : Nat) (b e : Int) (h : k + 1 < A.length) : gapG A k (b, e) = gapG A (k + 1) (if e - b < A[k + 1] - A[k] then (A[k], A[k + 1]) else (b, e)) := by
  unfold gapG
  rw [List.drop_eq_getElem_cons h, gapGo]
  simp [List.getD_eq_getElem?_getD, List.getElem?_eq_getElem h, List.getElem?_eq_getElem (show k < A.length by omega)]
theorem runsF_mem {js : List Jb} {fr tt most : Int} {x : Rn} (h : x ∈ runsF js fr tt most) : fr < x.at' ∧ x.at' ≤ tt := by
  unfold runsF at h
  split at h
  · cases h
  · obtain ⟨y, hy, rfl⟩ := List.mem_map.1 h
    have := gives_mem hy
    exact ⟨this.2.2.2.1, this.2.2.2.2.1⟩
theorem own_ints {w : World} {base g n cap : Nat} {e : TypeId} {A : List Int} (h : w.ownsRow base e 1 (.slice (some ⟨g, 0, none⟩) n cap) n (A.map (Value.int .i64))) : ∀ i (h : i < A.length), w.cell? ⟨g, i, none⟩ = some (.int .i64 A[i]) := by
  intro i hi
  obtain ⟨-, ⟨hv, -⟩ | ⟨g', cap', cur, hv, -, hg, -, -, -, ht⟩⟩ := h
  · cases hv
  · injection hv with hv
    injection hv with hv
    injection hv with hv
    subst hv
    rw [blk_cell hg]
    have : (A.map (Value.int .i64))[i]? = some (.int .i64 A[i]) := by simp [hi]
    rw [← ht, List.getElem?_take] at this
    split at this
    · simpa using this
    · cases this
theorem elems_grown {α : Type} {sz : Nat} {C : α → List Value} {w w' : World} {n : Nat} {p : Option Addr} {l : List α} {row : Option Nat} (h : ElemsAt sz C w n p l) (hg : w.grownBy w' row) (hr : ∀ a, p = some a → row ≠ some a.block) (hn : n ≤ w.heap.size) : ElemsAt sz C w' n p l := by
  rcases h with h | ⟨b, o, rfl, hl, h⟩
  · exact Or.inl h
  · exact Or.inr ⟨b, o, rfl, hl, fun i hi k v hv => (World.cell?_of_block (hg.block b (by omega) (fun e => hr _ rfl e.symm))).trans (h i hi k v hv)⟩
theorem info_i64 : (Tryz.prog.info? 2).map (fun i => (i.zero, i.size, i.bytes)) = some (some (.int .i64 0), 1, 8) := by kernel_rfl
set_option maxHeartbeats 8000000 in
set_option maxRecDepth 100000 in
theorem gap_any (jp : Option Addr) (js : List Jb) (jc : Nat) (fr tt most : Int) (w : World) (h : JobsOk w jp js) (hm : most ≤ 61) :
    Calls Tryz.prog 11 #[.slice jp js.length jc, .int .i64 fr, .int .i64 tt, .int .i64 most] w fun e w' => e = .returned (.tuple #[.int .i64 (gapF fr tt (runsF js fr tt most)).1, .int .i64 (gapF fr tt (runsF js fr tt most)).2]) ∧ Below w.heap.size w w' := by
  have hlen := runsF_len js fr tt most hm
  have hmem := fun x (hx : x ∈ runsF js fr tt most) => runsF_mem hx
  have hr0 := fun W (h : JobsOk W jp js) => runs_any jp js jc fr tt most W h.env h.jobs h.len h.ids h.ok hm
  generalize runsF js fr tt most = l at *
  have HR0 := Lib.hid hr0
  have H := Lib.hid h
  have HM := Lib.hid hmem
  clear h hr0 hmem
  generalize hgp : gapF fr tt l = R
  have HGP := Lib.hid hgp
  clear hgp
  by_cases hg : momentB fr = true ∧ momentB tt = true ∧ fr < tt
  rotate_left
  · have HG := Lib.hid (show R = (0, 0) by rw [← HGP.out]; unfold gapF; rw [if_neg hg])
    go_enter Tryz.func11, Tryz.ntmps11
    rcases hm1 : momentB fr
    rotate_left
    rcases hm2 : momentB tt
    rotate_left
    have h3 : tt ≤ fr := by
      by_cases h : fr < tt
      · exact absurd ⟨hm1, hm2, h⟩ hg
      · omega
    all_goals
      clear hg
      have H1 := Lib.hid hm1
      try have H2 := Lib.hid hm2
      clear hm1
      try clear hm2
      go_wp2_with fail
      refine (moment_any2 fr _).mono ?_
      rintro e w1 ⟨rfl, hw⟩
      obtain rfl : w1 = w := hw
      rw [H1.out]
      go_wp2_with fail
      try
        refine (moment_any2 tt _).mono ?_
        rintro e w2 ⟨rfl, hw⟩
        obtain rfl : w2 = w1 := hw
        rw [H2.out]
        go_wp2_with fail
      go_ret2
      exact ⟨by rw [HG.out]; rfl, Below.refl _ _⟩
  obtain ⟨hm1, hm2, h3⟩ := hg
  have HG := Lib.hid (show gapG (fr :: (l.map (·.at') ++ [tt])) 0 (fr, fr) = R by rw [← HGP.out]; unfold gapF; rw [if_pos ⟨hm1, hm2, h3⟩])
  have hb1 : 0 ≤ fr := by simp only [momentB, Bool.and_eq_true, decide_eq_true_eq] at hm1; exact hm1.1
  have hb2 : tt < 13569465600 := by simp only [momentB, Bool.and_eq_true, decide_eq_true_eq] at hm2; exact hm2.2
  have H1 := Lib.hid hm1
  have H2 := Lib.hid hm2
  have h3' : decide (tt ≤ fr) = false := by simp; omega
  clear hm1 hm2
  go_enter Tryz.func11, Tryz.ntmps11
  go_wp2_with fail
  refine (moment_any2 fr _).mono ?_
  rintro e w1 ⟨rfl, hw⟩
  obtain rfl : w1 = w := hw
  rw [H1.out]
  go_wp2_with fail
  refine (moment_any2 tt _).mono ?_
  rintro e w2 ⟨rfl, hw⟩
  obtain rfl : w2 = w1 := hw
  rw [H2.out]
  have B1 := a0 w2 (.cells #[.int .i64 fr] 2)
  have hO : (w2.alloc (.cells #[.int .i64 fr] 2)).ownsRow w2.heap.size 2 1 (.slice (some ⟨w2.heap.size, 0, none⟩) 1 1) 1 ([fr].map (Value.int .i64)) :=
    ⟨rfl, Or.inr ⟨w2.heap.size, 1, _, rfl, Nat.le_refl _, blk_new _ _, Nat.le_refl _, by decide, rfl, rfl⟩⟩
  go_wp2_with fail
  have z1 := B1.size
  have hz1W : (w2.alloc (.cells #[.int .i64 fr] 2)).heap.size = w2.heap.size + 1 := World.size_alloc _ _
  generalize w2.alloc _ = W1 at *
  refine (HR0.out W1 (jobsOk_keep H.out B1)).mono ?_
  rintro e w3 ⟨p, c, rfl, hL, hb, hF⟩
  have HF := Lib.hid hF
  have zW : W1.heap.size = w2.heap.size + 1 := hz1W
  have HZW := Lib.hid zW
  have HL := Lib.hid hL
  have HO := Lib.hid (own_keep2 hO hb)
  have B3 := vi B1 hb
  have z3 := B3.size
  clear hL hO hb B1 hF zW hz1W
  obtain ⟨i0, hi, hz0, hz1, hz2⟩ := info_parts info_i64
  have HI := Lib.hid hi
  have HZ0 := Lib.hid hz0
  have HZ1 := Lib.hid hz1
  have HZ2 := Lib.hid hz2
  clear hi hz0 hz1 hz2
  go_wp2_with fail
  go_loopg [10, 35] 100 (fun g ov iv wr => ∃ (j : Nat), iv = .int .i64 j ∧ j ≤ l.length ∧ l.length - j ≤ g ∧ Below w2.heap.size w2 wr ∧ w3.heap.size ≤ wr.heap.size ∧ ElemsAt 5 rnC wr w3.heap.size p l ∧
    wr.ownsRow w2.heap.size 2 1 ov (fr :: (l.take j).map (·.at')).length ((fr :: (l.take j).map (·.at')).map (Value.int .i64)) ∧ (∀ k, ov.ownBlock = some k → k = w2.heap.size ∨ w3.heap.size ≤ k))
  case atStart => exact ⟨0, rfl, by omega, by omega, B3, Nat.le_refl _, HL.out, HO.out, fun k hk => Or.inl (by simpa [Value.ownBlock] using hk.symm)⟩
  case round =>
    obtain ⟨j, rfl, hj, hgk, B, hz, hE, hO, hK⟩ := hrel
    have HO := Lib.hid hO
    have HK := Lib.hid hK
    have HE := Lib.hid hE
    clear hO hK hE
    by_cases hlt : j < l.length
    · obtain ⟨b, o, rfl, hbl, hc⟩ := HE.out.resolve_left (elems_len hlt)
      have hr : wr.rangeAt b (o + j * 5) (rnC l[j]) := fun k v hv => hc j hlt k v hv
      have HX := Lib.hid (take_snoc (·.at') l j hlt)
      have hln : (fr :: (l.take j).map (·.at')).length = j + 1 := by simp; omega
      have HLN := Lib.hid hln
      clear hc hln
      generalize l[j] = x at *
      generalize hP : fr :: (l.take j).map (·.at') = P at *
      have HP := Lib.hid hP
      clear hP
      have hPl : P.length ≤ 62 := by rw [HLN.out]; omega
      have B1 := al B (rnO x)
      have XB := blk_new wr (rnO x)
      have hO1 := HO.out.alloc (rnO x)
      have nb := blk_new (wr.alloc (rnO x)) (.cells #[.int .i64 x.at'] 2)
      rw [World.size_alloc] at nb
      have nws := World.news_of_block nb
      have zr := B.size
      clear nb
      go_wp2_with (first | (refine wpList_load_mid rfl 93 (.tmp 37) rfl b (o + j * 5) rfl (rnC x) _ hr Tryz.underlying93 rfl (by kernel_rfl) ?_) | (refine wpList_store_new rfl 93 (.tmp 12) (.tmp 38) rfl wr _ _ rfl rfl rfl (by kernel_rfl) rfl (by simp [Value.oneCell']) ?_) | (at_builtin; refine wpList_append_lies _ rfl (.tmp 39) (.tmp 43) 95 rfl w2.heap.size 2 i0 _ 1 8 Tryz.underlying95 HI.out HZ0.out HZ1.out HZ2.out rfl (by decide) _ P.length _ rfl (hO1.alloc _) ⟨wr.heap.size + 1, 0, none⟩ 1 1 [.int .i64 x.at'] rfl rfl nws (by simp [Value.oneCell']) (by decide) (by unfold maxLen; omega) (by omega) (by simp; omega) _ rfl ?_; intro g9 cap9 w9 hown9 hgrow9 hat9 _))
      have z9 := hgrow9.size
      simp only [World.size_alloc] at z9 hat9
      have B9 := (al B1 (.cells #[.int .i64 x.at'] 2)).grown hgrow9 (by simp; omega) (fun k hk => (HO.out.lt k hk).1)
      have E9 : ElemsAt 5 rnC w9 w3.heap.size (some ⟨b, o, none⟩) l := elems_grown (elems_keep HE.out (((Below.refl w3.heap.size wr).alloc hz (rnO x)).alloc (by simp; omega) (.cells #[.int .i64 x.at'] 2))) hgrow9 (fun a ha hk => by
        injection ha with ha
        have h1 := HF.out _ rfl
        have h2 := HK.out _ hk
        have h3 := HZW.out
        subst ha
        simp only at h1 h2
        omega) (by simp; omega)
      have hP9 : fr :: (l.take (j + 1)).map (·.at') = P ++ [x.at'] := by rw [HX.out, ← HP.out]; rfl
      have hO9 : w9.ownsRow w2.heap.size 2 1 (.slice (some ⟨g9, 0, none⟩) (P.length + 1) cap9) (fr :: (l.take (j + 1)).map (·.at')).length ((fr :: (l.take (j + 1)).map (·.at')).map (Value.int .i64)) := by
        rw [hP9, List.length_append, List.map_append]
        exact hown9
      go_roundg (gk - 1)
      case measure => omega
      case rel =>
        refine ⟨j + 1, by go_num, by omega, by omega, B9, by omega, E9, hO9, fun k hk => ?_⟩
        have hk : g9 = k := by simpa [Value.ownBlock] using hk
        subst hk
        rcases hat9 with h | h
        · exact HK.out _ h
        · exact Or.inr (by omega)
    · have hje : j = l.length := by omega
      subst hje
      have hP : (fr :: (l.take l.length).map (·.at')) ++ [tt] = fr :: (l.map (·.at') ++ [tt]) := by rw [List.take_length]; rfl
      have hPl : (fr :: (l.take l.length).map (·.at')).length ≤ 62 := by simp; omega
      have hAb : ∀ x ∈ fr :: (l.map (·.at') ++ [tt]), 0 ≤ x ∧ x ≤ 13569465600 := by
        intro x hx
        rcases List.mem_cons.1 hx with rfl | hx
        · omega
        rcases List.mem_append.1 hx with hx | hx
        · obtain ⟨y, hy, rfl⟩ := List.mem_map.1 hx
          have := HM.out y hy
          omega
        · have : x = tt := by simpa using hx
          omega
      have hAl := congrArg List.length hP
      rw [List.length_append, show [tt].length = 1 from rfl] at hAl
      have ha0 : (fr :: (l.map (·.at') ++ [tt]))[0]? = some fr := rfl
      have HPP := Lib.hid hP
      have HAb := Lib.hid hAb
      have HA0 := Lib.hid ha0
      clear hP hAb ha0
      generalize fr :: (l.map (·.at') ++ [tt]) = A at *
      generalize fr :: (l.take l.length).map (·.at') = P at *
      have hal1 : A.length ≤ P.length + 1 := by omega
      have hal2 : P.length + 1 ≤ A.length := by omega
      have HAl := Lib.hid hAl
      clear hAl
      have nb := blk_new wr (.cells #[.int .i64 tt] 2)
      have nws := World.news_of_block nb
      have zr := B.size
      have hO1 := HO.out
      clear nb
      go_wp2_with (at_builtin; refine wpList_append_lies _ rfl (.tmp 46) (.tmp 48) 95 rfl w2.heap.size 2 i0 _ 1 8 Tryz.underlying95 HI.out HZ0.out HZ1.out HZ2.out rfl (by decide) _ P.length _ rfl (hO1.alloc _) ⟨wr.heap.size, 0, none⟩ 1 1 [.int .i64 tt] rfl rfl nws (by simp [Value.oneCell']) (by decide) (by unfold maxLen; omega) (by omega) (by simp; omega) _ rfl ?_; intro g9 cap9 w9 hown9 hgrow9 hat9 _)
      have B9 := (al B (.cells #[.int .i64 tt] 2)).grown hgrow9 (by simp; omega) (fun k hk => (HO.out.lt k hk).1)
      have hO9 : w9.ownsRow w2.heap.size 2 1 (.slice (some ⟨g9, 0, none⟩) (P.length + 1) cap9) (P.length + 1) (A.map (Value.int .i64)) := by
        rw [← HPP.out, List.map_append]
        exact hown9
      have HC := Lib.hid (own_ints hO9)
      clear hown9 hgrow9 hat9 hO9 hO1 nws
      have c0 := fun u : Later w9 => Later.cellp (show w9.cell? ⟨g9, 0, none⟩ = some (.int .i64 fr) from by
        have := HC.out 0 (by omega)
        have h0 := HA0.out
        rw [List.getElem?_eq_getElem (by omega)] at h0
        injection h0 with h0
        rw [this, h0]) u
      have hgw : g9 < w9.heap.size := World.block_lt_of_cell? _ _ (HC.out 0 (by omega))
      refine region_later (by kernel_rfl) (by kernel_rfl) ?_
      repeat (go_big_quiet_step (fail))
      refine wpQuiet_nil ?_
      rintro _ ⟨u, rfl⟩
      have B10 := vi B9 u.below
      have hu := u.below
      clear c0
      generalize u.u = W10 at *
      go_wp2_with fail
      go_loopg [8, 9, 13] 100 (fun g bv ev iv wr => ∃ (k : Nat) (b e : Int), iv = .int .i64 (↑k + 1) ∧ bv = .int .i64 b ∧ ev = .int .i64 e ∧ k + 1 ≤ A.length ∧ A.length - k ≤ g ∧ 0 ≤ b ∧ b ≤ 13569465600 ∧ 0 ≤ e ∧ e ≤ 13569465600 ∧ Aside (gapG A k (b, e) = R) ∧ Below W10.heap.size W10 wr)
      case atStart => exact ⟨0, fr, fr, rfl, rfl, rfl, by omega, by omega, hb1, by omega, hb1, by omega, HG.out, Below.refl _ _⟩
      case round =>
        obtain ⟨k, be, en, rfl, rfl, rfl, hk, hgg, b1, b2, e1, e2, hA, B11⟩ := hrel
        have HA := Lib.hid hA
        clear hA
        by_cases hkl : k + 1 < A.length
        · have hk0 : k < A.length := by omega
          have x1 := HAb.out _ (List.getElem_mem hk0)
          have y1 := HAb.out _ (List.getElem_mem hkl)
          have cx := fun u : Later wr => Later.cellp ((bblk (hu.trans (B11.mono hu.size)) hgw k).trans (HC.out k hk0)) u
          have cy := fun u : Later wr => Later.cellp ((bblk (hu.trans (B11.mono hu.size)) hgw (k + 1)).trans (HC.out (k + 1) hkl)) u
          have hS := gapG_succ A k be en hkl
          rw [HA.out] at hS
          have HS := Lib.hid hS
          clear hS
          generalize A[k] = x at *
          generalize A[k + 1] = y at *
          have s1 : IntKind.i64.wrap ((k : Int) + 1 - 1) = k := by rw [IntWalk.i64_in _ (by omega)]; omega
          have s2 : IntKind.i64.wrap (y - x) = y - x := IntWalk.i64_in _ (by omega)
          have s3 : IntKind.i64.wrap (en - be) = en - be := IntWalk.i64_in _ (by omega)
          have s4 : ((k : Int) + 1).toNat = k + 1 := by omega
          by_cases ht : en - be < y - x
          · have HN := Lib.hid (show gapG A (k + 1) (x, y) = R from (HS.out.trans (by rw [if_pos ht])).symm)
            go_wp2_with fail
            refine region_later (by kernel_rfl) (by kernel_rfl) ?_
            repeat (go_big_quiet_step (fail))
            refine wpQuiet_nil ?_
            rintro _ ⟨u, rfl⟩
            have B12 := vi B11 u.below
            have cx2 := fun v : Later u.u => Later.cellp (cx u) v
            have cy2 := fun v : Later u.u => Later.cellp (cy u) v
            clear cx cy
            generalize u.u = W12 at *
            go_wp2_with fail
            refine region_later (by kernel_rfl) (by kernel_rfl) ?_
            repeat (go_big_quiet_step (fail))
            refine wpQuiet_nil ?_
            rintro _ ⟨u2, rfl⟩
            have B13 := vi B12 u2.below
            clear s1 s2 s3 s4
            go_wp2
            go_roundg (gk - 1)
            case measure => omega
            case rel => exact ⟨k + 1, _, _, by go_num, rfl, rfl, by omega, by omega, by omega, by omega, by omega, by omega, HN.out, B13⟩
          · have HN := Lib.hid (show gapG A (k + 1) (be, en) = R from (HS.out.trans (by rw [if_neg ht])).symm)
            replace ht : y - x ≤ en - be := by omega
            go_wp2_with fail
            refine region_later (by kernel_rfl) (by kernel_rfl) ?_
            repeat (go_big_quiet_step (fail))
            refine wpQuiet_nil ?_
            rintro _ ⟨u, rfl⟩
            have B12 := vi B11 u.below
            clear s1 s2 s3 s4
            go_wp2
            go_roundg (gk - 1)
            case measure => omega
            case rel => exact ⟨k + 1, _, _, by go_num, rfl, rfl, by omega, by omega, by omega, by omega, by omega, by omega, HN.out, B12⟩
        · have hR : R = (be, en) := by rw [← HA.out, gapG_end A k (be, en) (by omega)]
          have HR := Lib.hid hR
          clear hR
          go_wp2
          go_ret2
          exact ⟨by rw [HR.out]; rfl, vi B10 B11⟩
end Go.Proofs.YtceddjpaddcjiaaGreatDoor

/- The walk of the iterator of plan.each. -/
import Derived.Test.YtceddjpaddcjiaaGreatDoorEach
namespace Go.Proofs.YtceddjpaddcjiaaGreatDoor
open Go.RowKit
abbrev itV (x : Int × Jb) : Array Value := #[.agg #[.int .i64 x.1, .int .u64 x.2.id], jbV x.2]
/-- What the iterator gives. -/
def givesF (js : List Jb) (fr tt : Int) (N : Nat) : List (Int × Jb) := if momentB fr = true ∧ momentB tt = true ∧ fr < tt then eachF N tt (rowsF js fr) else []
theorem rows_ok (js : List Jb) (t : Int) : ∀ r ∈ rowsF js t, r.x.ok := by
  intro r hr
  obtain ⟨j, _, hj⟩ := List.mem_filterMap.1 hr
  unfold rowO at hj
  split at hj
  · cases hj
  · injection hj with hj
    subst hj
    exact cronF_ok _
theorem set_ok {L : List Rw} {i : Nat} (hi : i < L.length) (h : ∀ r ∈ L, r.x.ok) : ∀ r ∈ L.set i (stepR L[i]), r.x.ok := by
  intro r hr
  rcases mem_set hr with rfl | hr
  · exact h L[i] (List.getElem_mem hi)
  · exact h r hr
def IterMay (n : Nat) : Nat → Obj → Prop := fun k o => n ≤ k ∧ ∃ cs fr, o = .cells cs 166 fr
def BodyMay (n B : Nat) : Nat → Obj → Prop := fun k o => n ≤ k ∧ (k = B ∨ o.isCells = false ∨ ∃ cs fr, o = .cells cs 93 fr)
theorem rowsIn_mono {W : World} {a b : Nat} {p : Option Addr} {L : List Rw} (h : RowsIn W a p L) (hb : b ≤ a) : RowsIn W b p L := by
  rcases h with h | ⟨T, cur, hp, hb0, hT, hc⟩
  · exact Or.inl h
  · exact Or.inr ⟨T, cur, hp, by omega, hT, hc⟩
theorem notBody {n B k : Nat} {cs : Array Value} {t : TypeId} {fr : Nat × Nat} (h : k ≠ B) (ht : t ≠ 93) : ¬ BodyMay n B k (.cells cs t fr) := by
  rintro ⟨_, h1 | h1 | ⟨_, _, h1⟩⟩
  · exact h h1
  · cases h1
  · injection h1 with _ h2
    exact ht h2
theorem blk_two {w : World} {k T : Nat} {o : Obj} (h : w.heap[k]? = some o) (hk : k ≠ T) (a b : Nat) (u v : Value) : ((w.setCell ⟨T, a, none⟩ u).setCell ⟨T, b, none⟩ v).heap[k]? = some o :=
  blk_other (p := ⟨T, b, none⟩) (blk_other (p := ⟨T, a, none⟩) h hk u) hk v
theorem env_n {w0 w : World} (h : Env w0) (hb : Below w0.heap.size w0 w) : Env w := env_keep h hb
theorem jobs_mono {w : World} {n m : Nat} {jp : Option Addr} {js : List Jb} (h : JobsAt w n jp js) (hm : n ≤ m) : JobsAt w m jp js := elems_mono (C := jbC) (sz := 12) h hm
set_option maxHeartbeats 8000000 in
set_option maxRecDepth 100000 in
theorem each1_seq (n : Nat) (jp : Option Addr) (js : List Jb) (jc : Nat) (fr tt : Int) (N : Nat) (hN : 1 ≤ N) (w0 w : World) (hE : Env w0) (hJs : JobsAt w0 w0.heap.size jp js) (hl : js.length ≤ 13) (hB : Below w0.heap.size w0 w)
    (B bj bf bt : Nat) (cj : w.heap[bj]? = some (.cells #[.slice jp js.length jc] 22)) (cf : w.heap[bf]? = some (.cells #[.int .i64 fr] 2)) (ct : w.heap[bt]? = some (.cells #[.int .i64 tt] 2))
    (hBj : bj ≠ B) (hBf : bf ≠ B) (hBt : bt ≠ B) (hBw : B < w.heap.size) :
    SeqM Fence.wide n Tryz.prog 113 #[.pointer (some ⟨bf, 0, none⟩), .pointer (some ⟨bt, 0, none⟩), .pointer (some ⟨bj, 0, none⟩)] itV (fun x => x ∈ givesF js fr tt N) (IterMay w.heap.size) (BodyMay w0.heap.size B) N (fun xs => xs = givesF js fr tt N) w := by
  intro l J Jx W hW hJ hJx hY h0
  refine callsIn_wide.2 ?_
  show Calls Tryz.prog 113 #[.func (.yield l) #[] #[], .pointer (some ⟨bf, 0, none⟩), .pointer (some ⟨bt, 0, none⟩), .pointer (some ⟨bj, 0, none⟩)] W _
  have BW : Below w0.heap.size w0 W := vi hB hW
  have zW := hW.size
  have z0 := hB.size
  have cj := blk_keep cj hW
  have cf := blk_keep cf hW
  have ct := blk_keep ct hW
  have HJ := Lib.hid hJ
  have HJx := Lib.hid hJx
  have HY := Lib.hid hY
  have HE := Lib.hid hE
  have HJs := Lib.hid hJs
  clear hJ hJx hY hE hJs
  have jj := blk_cell cj
  have ff := blk_cell cf
  have tc := blk_cell ct
  by_cases hg : momentB fr = true ∧ momentB tt = true ∧ fr < tt
  rotate_left
  · have HG := Lib.hid (show givesF js fr tt N = [] by unfold givesF; rw [if_neg hg])
    go_enter Tryz.func113, Tryz.ntmps113
    rcases hm1 : momentB fr
    rotate_left
    rcases hm2 : momentB tt
    rotate_left
    have h3 : tt ≤ fr := by
      by_cases h : fr < tt
      · exact absurd ⟨hm1, hm2, h⟩ hg
      · omega
    all_goals
      clear hg
      have H1 := Lib.hid hm1
      try have H2 := Lib.hid hm2
      clear hm1
      try clear hm2
      go_wp2_with fail
      refine (moment_any2 fr _).mono ?_
      rintro e w1 ⟨rfl, hw⟩
      obtain rfl : w1 = W := hw
      rw [H1.out]
      go_wp2_with fail
      try
        refine (moment_any2 tt _).mono ?_
        rintro e w2 ⟨rfl, hw⟩
        obtain rfl : w2 = w1 := hw
        rw [H2.out]
        go_wp2_with fail
      refine bodyPost_ret (results_none rfl _ _ _) rfl ?_
      exact ⟨⟨_, rfl⟩, .inl ⟨[], by simp; omega, HG.out.symm, h0⟩⟩
  obtain ⟨hm1, hm2, h3⟩ := hg
  have HG := Lib.hid (show givesF js fr tt N = eachF N tt (rowsF js fr) by unfold givesF; rw [if_pos ⟨hm1, hm2, h3⟩])
  have H1 := Lib.hid hm1
  have H2 := Lib.hid hm2
  have h3' : decide (tt ≤ fr) = false := by simp; omega
  clear hm1 hm2
  go_enter Tryz.func113, Tryz.ntmps113
  go_wp2_with fail
  refine (moment_any2 fr _).mono ?_
  rintro e w1 ⟨rfl, hw⟩
  obtain rfl : w1 = W := hw
  rw [H1.out]
  go_wp2_with fail
  refine (moment_any2 tt _).mono ?_
  rintro e w2 ⟨rfl, hw⟩
  obtain rfl : w2 = w1 := hw
  rw [H2.out]
  go_wp2_with fail
  refine (rows_any jp js jc fr w2 (env_keep HE.out BW) (jobs_mono (jobs_keep HJs.out BW) BW.size) hl).mono ?_
  rintro e w1 ⟨v, rfl, hb, hown⟩
  obtain ⟨p, c, rfl, hR⟩ := rowsIn_of_own hown
  have hxs := rows_ok js fr
  have hlen : (rowsF js fr).length ≤ 13 := Nat.le_trans (List.length_filterMap_le _ _) hl
  have cf := blk_keep cf hb
  have ct := blk_keep ct hb
  have B1 := vi BW hb
  have k1 := HJ.out _ _ _ h0 (Keeps.below (Keeps.refl _ _) hb)
  clear cj jj ff tc h0 hown
  generalize hL0 : rowsF js fr = L0 at *
  have HL0 := Lib.hid hL0
  clear hL0
  have lc := blk_new w1 (.cells #[.slice p L0.length c] 163)
  have ct := blk_alloc (o' := .cells #[.slice p L0.length c] 163) ct
  have B2 := al B1 (.cells #[.slice p L0.length c] 163)
  have k2 := HJ.out _ _ _ k1 ((Keeps.refl _ _).alloc (.cells #[.slice p L0.length c] 163))
  have R2 := rowsIn_below hR (a0 w1 (.cells #[.slice p L0.length c] 163))
  have z1 := hb.size
  clear k1 hR cf hb
  go_wp2_with ((conv in (World.alloc w1 (Obj.cells #[Value.slice p L0.length c] 163)) => skip); generalize hW2 : World.alloc w1 (Obj.cells #[Value.slice p L0.length c] 163) = W2 at *)
  clear hW2
  refine (first_clo tt L0 p c _ bt W2 lc ct (rowsIn_elems R2) hlen).mono ?_
  rintro e w3 ⟨rfl, hb⟩
  have B3 := vi B2 hb
  have lc := blk_keep lc hb
  have ct := blk_keep ct hb
  have R3 := rowsIn_below R2 hb
  have k3 := HJ.out _ _ _ k2 (Keeps.below (Keeps.refl _ _) hb)
  have zbl : w.heap.size ≤ w1.heap.size := by omega
  clear hb R2 k2 B2 B1
  generalize w1.heap.size = bl at *
  go_wp2_with fail
  go_loopg [7] N (fun g iv wr => ∃ (L : List Rw) (pre : List (Int × Jb)), iv = .int .i64 (bestF tt L L.length) ∧ L.length = L0.length ∧ (∀ r ∈ L, r.x.ok) ∧ RowsIn wr w.heap.size p L ∧ wr.heap[bl]? = some (.cells #[.slice p L0.length c] 163 (0, 0)) ∧ wr.heap[bt]? = some (.cells #[.int .i64 tt] 2 (0, 0)) ∧ J pre wr ∧ pre.length < N ∧ N - pre.length ≤ g ∧ Aside (pre ++ eachF (N - pre.length) tt L = eachF N tt L0) ∧ Below w0.heap.size w0 wr)
  case atStart => exact ⟨L0, [], rfl, rfl, hxs, rowsIn_mono R3 zW, lc, ct, k3, by simp; omega, by simp, by simp [Aside], B3⟩
  case round =>
    clear lc ct R3 k3 B3 hxs
    obtain ⟨L, pre, rfl, hLl, hxs, hR, lc, ct, hj, hpN, hg, hA, B⟩ := hrel
    have HA := Lib.hid hA
    have HLl := Lib.hid hLl
    have HX := Lib.hid hxs
    clear hA hLl hxs
    rcases best_cases tt L with ⟨hb, _⟩ | ⟨i, hi, hb, _, _⟩
    · have HN := Lib.hid (show pre = givesF js fr tt N by rw [HG.out, ← HA.out, each_none hb, List.append_nil])
      rw [hb]
      clear hb
      go_wp2
      refine bodyPost_end (v := .tuple #[]) (by simp [results, Tryz.results113, go_sem]) rfl ?_
      exact ⟨⟨_, rfl⟩, .inl ⟨pre, hpN, HN.out, hj⟩⟩
    · rw [hb]
      have hi0 : i < L0.length := by rw [← HLl.out]; exact hi
      obtain ⟨T, cur, rfl, hT0, hT, hc⟩ := hR.resolve_left (elems_len hi)
      have c0 := fun u : Later wr => Later.cellp (show wr.cell? ⟨T, i * 24, none⟩ = some (.int .u64 L[i].j.id) from (blk_cell hT _).trans (hc i hi 0 _ rfl)) u
      have c1 := fun u : Later wr => Later.cellp ((blk_cell hT _).trans (hc i hi 1 _ rfl)) u
      have c2 := fun u : Later wr => Later.cellp ((blk_cell hT _).trans (hc i hi 2 _ rfl)) u
      have c3 := fun u : Later wr => Later.cellp ((blk_cell hT _).trans (hc i hi 3 _ rfl)) u
      have c4 := fun u : Later wr => Later.cellp ((blk_cell hT _).trans (hc i hi 4 _ rfl)) u
      have c5 := fun u : Later wr => Later.cellp ((blk_cell hT _).trans (hc i hi 5 _ rfl)) u
      have c6 := fun u : Later wr => Later.cellp ((blk_cell hT _).trans (hc i hi 6 _ rfl)) u
      have c7 := fun u : Later wr => Later.cellp ((blk_cell hT _).trans (hc i hi 7 _ rfl)) u
      have c8 := fun u : Later wr => Later.cellp ((blk_cell hT _).trans (hc i hi 8 _ rfl)) u
      have c9 := fun u : Later wr => Later.cellp ((blk_cell hT _).trans (hc i hi 9 _ rfl)) u
      have c10 := fun u : Later wr => Later.cellp ((blk_cell hT _).trans (hc i hi 10 _ rfl)) u
      have c11 := fun u : Later wr => Later.cellp ((blk_cell hT _).trans (hc i hi 11 _ rfl)) u
      have c22 := fun u : Later wr => Later.cellp ((blk_cell hT _).trans (hc i hi 22 _ rfl)) u
      have lcu := later_blk lc
      have HC := Lib.hid hc
      have hHA := HA.out
      rw [show N - pre.length = (N - (pre.length + 1)) + 1 by omega, each_some hi hb] at hHA
      have HA2 := Lib.hid hHA
      have HB := Lib.hid hb
      clear hc hb hHA
      generalize hq : L[i] = q at *
      have HQ := Lib.hid hq
      clear hq
      obtain ⟨⟨id, name, expr, pol, gr, lim, ret, tmo, dp, dn, dc, pau, ver, seen⟩, qx, qa, qo⟩ := q
      go_wp2_with fail
      refine region_tail_in n 18 (by kernel_rfl) (by kernel_rfl) ?_
      simp only [List.take_succ_cons, List.take_zero, List.drop_succ_cons, List.drop_zero]
      repeat (go_big_quiet_step (fail))
      refine wpQuiet_nil ?_
      rintro _ ⟨u, rfl⟩
      have ku := HJ.out _ _ _ hj (Keeps.below (Keeps.refl _ _) u.below)
      have Bu := vi B u.below
      have lcv := blk_keep lc u.below
      have ctv := blk_keep ct u.below
      have hTv := blk_keep hT u.below
      have hRv := rowsIn_below hR u.below
      clear c0 c1 c2 c3 c4 c5 c6 c7 c8 c9 c10 c11 c22 lcu lc ct hT hR B hj
      obtain ⟨fn, tmps, assign, body, hy, hRd⟩ := HY.out pre (qa, ⟨id, name, expr, pol, gr, lim, ret, tmo, dp, dn, dc, pau, ver, seen⟩) u.u ku (by rw [HG.out, ← HA2.out]; simp)
      dsimp only [itV] at hy
      generalize u.u = Wu at *
      gi_wp2
      refine ⟨fun h => by simp [Fence.wide] at h, hRd.mono ?_⟩
      clear hy hRd
      rintro e W4 (⟨rfl, hj4, hk4, hN4⟩ | ⟨rfl, hj4, hN4⟩)
      rotate_left
      · have HN := Lib.hid (show pre ++ [(qa, ⟨id, name, expr, pol, gr, lim, ret, tmo, dp, dn, dc, pau, ver, seen⟩)] = givesF js fr tt N by
          rw [HG.out, ← HA2.out, show N - (pre.length + 1) = 0 by omega]; rfl)
        have HN4 := Lib.hid hN4
        clear hN4
        gi_wp2
        go_wp2
        refine bodyPost_ret (results_none rfl _ _ _) rfl ?_
        exact ⟨⟨_, rfl⟩, .inr ⟨_, by rw [List.length_append]; exact HN4.out, HN.out, hj4⟩⟩
      · have lc4 := hk4.same _ _ lcv (notBody (by omega) (by decide))
        have ct4 := hk4.same _ _ ctv (notBody hBt (by decide))
        have hT4 := hk4.same _ _ hTv (notBody (by omega) (by decide))
        have B4 : Below w0.heap.size w0 W4 := Bu.trans (hk4.toBelow Bu.size (fun k o hk hm => absurd hm.1 (by omega)))
        clear hk4 lcv ctv hTv Bu ku hRv
        have hRA : RowAt W4 T (i * 24) ⟨⟨id, name, expr, pol, gr, lim, ret, tmo, dp, dn, dc, pau, ver, seen⟩, qx, qa, qo⟩ := fun k v hv => by
          rw [← HQ.out] at hv
          exact (blk_cell hT4 _).trans (HC.out i hi k v hv)
        have hqx : qx.ok := by have := HX.out _ (List.getElem_mem hi); rw [HQ.out] at this; exact this
        have lcc := blk_cell lc4
        gi_wp2
        go_wp2_with fail
        refine (steps_any ⟨⟨id, name, expr, pol, gr, lim, ret, tmo, dp, dn, dc, pau, ver, seen⟩, qx, qa, qo⟩ hqx T (i * 24) W4 (env_keep HE.out B4).t64 hRA (blk_lt hT4) (blk_free hT4)).mono ?_
        rintro e w5' ⟨⟨v5, rfl⟩, w5, hb5, rfl⟩
        have hT5 := blk_keep hT4 hb5
        have lc5 := blk_keep lc4 hb5
        have ct5 := blk_keep ct4 hb5
        have B5 := vi B4 hb5
        have hj5 := HJ.out _ _ _ hj4 (((Keeps.below (Keeps.refl _ _) hb5).setCell (a := ⟨T, i * 24 + 22, none⟩) hT5 ⟨hT0, _, _, rfl⟩ (.int .i64 (stepR ⟨⟨id, name, expr, pol, gr, lim, ret, tmo, dp, dn, dc, pau, ver, seen⟩, qx, qa, qo⟩).at')).setCell (a := ⟨T, i * 24 + 23, none⟩) (blk_setg hT5 _ _) ⟨hT0, _, _, rfl⟩ (.bool (stepR ⟨⟨id, name, expr, pol, gr, lim, ret, tmo, dp, dn, dc, pau, ver, seen⟩, qx, qa, qo⟩).ov))
        have hR6 := rowsIn_step (i := i) (L := L) (base := w.heap.size) (Or.inr ⟨T, cur, rfl, hT0, hT5, HC.out⟩) hi rfl
        rw [HQ.out] at hR6
        have hn1 : bl ≠ T := fun e => by subst e; rw [hT4] at lc4; cases lc4
        have hn2 : bt ≠ T := fun e => by subst e; rw [hT4] at ct4; cases ct4
        have lc6 := blk_two lc5 hn1 (i * 24 + 22) (i * 24 + 23) (.int .i64 (stepR ⟨⟨id, name, expr, pol, gr, lim, ret, tmo, dp, dn, dc, pau, ver, seen⟩, qx, qa, qo⟩).at') (.bool (stepR ⟨⟨id, name, expr, pol, gr, lim, ret, tmo, dp, dn, dc, pau, ver, seen⟩, qx, qa, qo⟩).ov)
        have ct6 := blk_two ct5 hn2 (i * 24 + 22) (i * 24 + 23) (.int .i64 (stepR ⟨⟨id, name, expr, pol, gr, lim, ret, tmo, dp, dn, dc, pau, ver, seen⟩, qx, qa, qo⟩).at') (.bool (stepR ⟨⟨id, name, expr, pol, gr, lim, ret, tmo, dp, dn, dc, pau, ver, seen⟩, qx, qa, qo⟩).ov)
        have hzT : w0.heap.size ≤ T := by omega
        have B6 := (B5.setCell (p := ⟨T, i * 24 + 22, none⟩) hzT (.int .i64 (stepR ⟨⟨id, name, expr, pol, gr, lim, ret, tmo, dp, dn, dc, pau, ver, seen⟩, qx, qa, qo⟩).at')).setCell (p := ⟨T, i * 24 + 23, none⟩) hzT (.bool (stepR ⟨⟨id, name, expr, pol, gr, lim, ret, tmo, dp, dn, dc, pau, ver, seen⟩, qx, qa, qo⟩).ov)
        have hxs6 := set_ok hi HX.out
        rw [HQ.out] at hxs6
        have hl6 : (L.set i (stepR ⟨⟨id, name, expr, pol, gr, lim, ret, tmo, dp, dn, dc, pau, ver, seen⟩, qx, qa, qo⟩)).length = L0.length := by rw [List.length_set]; exact HLl.out
        generalize L.set i (stepR ⟨⟨id, name, expr, pol, gr, lim, ret, tmo, dp, dn, dc, pau, ver, seen⟩, qx, qa, qo⟩) = L6 at *
        generalize (w5.setCell ⟨T, i * 24 + 22, none⟩ _).setCell ⟨T, i * 24 + 23, none⟩ _ = W6 at *
        clear lc5 ct5 B5 hT5 hb5 hj4 lc4 ct4 hT4 B4 hRA lcc
        have HL6 := Lib.hid hl6
        have HX6 := Lib.hid hxs6
        have lc7 : W6.heap[bl]? = some (.cells #[.slice (some ⟨T, 0, none⟩) L6.length c] 163 (0, 0)) := by rw [hl6]; exact lc6
        clear hl6 hxs6
        go_wp2_with fail
        refine (first_clo tt L6 (some ⟨T, 0, none⟩) c bl bt W6 lc7 ct6 (rowsIn_elems hR6) (by rw [HL6.out]; exact hlen)).mono ?_
        rintro e w7 ⟨rfl, hb7⟩
        have lc8 := blk_keep lc6 hb7
        have ct8 := blk_keep ct6 hb7
        have hR8 := rowsIn_below hR6 hb7
        have B8 := vi B6 hb7
        have hj8 := HJ.out _ _ _ hj5 (Keeps.below (Keeps.refl _ _) hb7)
        clear lc7 lc6 ct6 hR6 B6 hj5 hb7
        go_wp2
        go_roundg (N - (pre.length + 1))
        case measure => omega
        case rel => exact ⟨L6, _, rfl, HL6.out, HX6.out, hR8, lc8, ct8, hj8, by simp; omega, by simp, by simpa [Aside] using HA2.out, B8⟩
end Go.Proofs.YtceddjpaddcjiaaGreatDoor

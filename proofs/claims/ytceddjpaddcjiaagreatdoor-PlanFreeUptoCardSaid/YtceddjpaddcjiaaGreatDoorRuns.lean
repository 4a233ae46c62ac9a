/- The walk of plan.runs. -/
import Derived.Test.YtceddjpaddcjiaaGreatDoorEach1
import Derived.Test.YtceddjpaddcjiaaGreatDoorIdx
import Derived.OwnWalkIn
import Derived.TacticsInMore
import Derived.LoopNIn
import Derived.LoopIn
namespace Go.Proofs.YtceddjpaddcjiaaGreatDoor
open Go.RowKit
attribute [local go_sem] Oper.semAt_some
structure Rn where
  at' : Int
  id : Int
  unt : Int
  lim : Int
  pl : Int
abbrev rnC (x : Rn) : List Value := [.int .i64 x.at', .int .u64 x.id, .int .i64 x.unt, .int .i64 x.lim, .int .i64 x.pl]
abbrev rnO (x : Rn) : Obj := .cells #[.int .i64 x.at', .int .u64 x.id, .int .i64 x.unt, .int .i64 x.lim, .int .i64 x.pl] 93
def placeF (js : List Jb) (j : Jb) : Nat := js.findIdx (fun k => k.id == j.id)
def mkRn (js : List Jb) (x : Int × Jb) : Rn := ⟨x.1, x.2.id, x.1 + x.2.tmo, x.2.lim, placeF js x.2⟩
def runsF (js : List Jb) (fr tt most : Int) : List Rn := if most < 1 then [] else (givesF js fr tt most.toNat).map (mkRn js)
theorem rnC_len (x : Rn) : (rnC x).length = 5 := rfl
theorem own_keeps {M : Nat → Obj → Prop} {W W' : World} {base : Nat} {e : TypeId} {sz : Nat} {v : Value} {n : Nat} {xs : List Value} (h : W.ownsRow base e sz v n xs) (hk : Keeps M W W') (hM : ∀ k cs, ¬ M k (.cells cs e (0, 0))) : W'.ownsRow base e sz v n xs := by
  obtain ⟨h1, h2 | ⟨g, cap, cur, e1, e2, e3, h3⟩⟩ := h
  · exact ⟨h1, Or.inl h2⟩
  · exact ⟨h1, Or.inr ⟨g, cap, cur, e1, e2, hk.same _ _ e3 (hM _ _), h3⟩⟩
theorem own_keep2 {w w' : World} {base : Nat} {e : TypeId} {size : Nat} {v : Value} {n : Nat} {xs : List Value} (h : w.ownsRow base e size v n xs) (hb : Below w.heap.size w w') : w'.ownsRow base e size v n xs := own_keep h hb
theorem runs_k3 {w2 w3 : World} {n B : Nat} {v : Value} {k : Nat} {xs : List Value} (ho : w2.ownsRow n 93 5 v k xs) (o : Obj) (hg : (w2.alloc o).grownBy w3 v.ownBlock) {t : TypeId} (hv : Boxed w3 B t v) (hB : n ≤ B) (v' : Value) :
    Keeps (fun k o => BodyMay n B k o ∧ o.isCells = true) w2 (w3.setCell ⟨B, 0, none⟩ v') := by
  refine (((Keeps.refl _ w2).alloc o).grown hg (fun k' o' hk ho' => ?_)).setCell (a := ⟨B, 0, none⟩) hv ⟨⟨hB, Or.inl rfl⟩, rfl⟩ v'
  obtain ⟨-, ⟨rfl, -⟩ | ⟨g, cap, cur, rfl, hb, hg', -⟩⟩ := ho.alloc o
  · simp [Value.ownBlock] at hk
  · obtain rfl : g = k' := by simpa [Value.ownBlock] using hk
    rw [hg'] at ho'
    injection ho' with ho'
    subst ho'
    exact ⟨⟨hb, Or.inr (Or.inr ⟨_, _, rfl⟩)⟩, rfl⟩
/-- What holds of the caller's cells between two rounds. -/
def RunsI (w0 : World) (b4 b7 b9 : Nat) (jp : Option Addr) (js : List Jb) (jc : Nat) (most : Int) (pre : List (Int × Jb)) (W : World) : Prop :=
  ∃ v, W.heap[b9]? = some (.cells #[v] 90 (0, 0)) ∧ W.ownsRow w0.heap.size 93 5 v pre.length ((pre.map (mkRn js)).flatMap rnC) ∧ Below w0.heap.size w0 W ∧
    W.heap[b4]? = some (.cells #[.slice jp js.length jc] 22 (0, 0)) ∧ W.heap[b7]? = some (.cells #[.int .i64 most] 3 (0, 0)) ∧ pre.length ≤ most
theorem runsI_keeps {w0 : World} {b4 b7 b9 : Nat} {jp : Option Addr} {js : List Jb} {jc : Nat} {most : Int} {pre : List (Int × Jb)} {W W' : World} {Z : Nat} (h : RunsI w0 b4 b7 b9 jp js jc most pre W)
    (hZ : w0.heap.size ≤ Z) (h4 : b4 < Z) (h7 : b7 < Z) (h9 : b9 < Z) (hk : Keeps (fun k o => Z ≤ k ∧ (IterMay Z k o ∨ o.isCells = false)) W W') : RunsI w0 b4 b7 b9 jp js jc most pre W' := by
  obtain ⟨v, c9, ho, hB, c4, c7, hn⟩ := h
  refine ⟨v, hk.same _ _ c9 (by rintro ⟨h, _⟩; omega), own_keeps ho hk ?_, hB.trans (hk.toBelow hB.size (by rintro k o h ⟨h', _⟩; omega)), hk.same _ _ c4 (by rintro ⟨h, _⟩; omega), hk.same _ _ c7 (by rintro ⟨h, _⟩; omega), hn⟩
  rintro k cs ⟨_, ⟨_, _, _, h⟩ | h⟩
  · injection h with _ h
    exact absurd h (by decide)
  · cases h
theorem info_run : (Tryz.prog.info? 93).map (fun i => (i.zero, i.size, i.bytes)) = some (some (.agg #[.int .i64 0, .int .u64 0, .int .i64 0, .int .i64 0, .int .i64 0]), 5, 40) := by kernel_rfl
theorem place_lt {js : List Jb} {j : Jb} (h : j ∈ js) : ∃ hi : placeF js j < js.length, js[placeF js j].id = j.id := by
  have hx : ∃ k ∈ js, (k.id == j.id) = true := ⟨j, h, by simp⟩
  have hlt := List.findIdx_lt_length_of_exists hx
  have := List.findIdx_getElem (w := hlt)
  exact ⟨hlt, beq_iff_eq.1 this⟩
theorem id_inj {js : List Jb} (hd : (js.map (·.id)).Nodup) {a b : Jb} (ha : a ∈ js) (hb : b ∈ js) (h : a.id = b.id) : a = b := by
  obtain ⟨i, hi, rfl⟩ := List.mem_iff_getElem.1 ha
  obtain ⟨k, hk, rfl⟩ := List.mem_iff_getElem.1 hb
  have := nodup_inj hd (i := i) (j := k) (by simpa using hi) (by simpa using hk) (by simpa using h)
  subst this; rfl
theorem place_get {js : List Jb} (hd : (js.map (·.id)).Nodup) {j : Jb} (h : j ∈ js) : ∃ hi : placeF js j < js.length, js[placeF js j] = j := by
  obtain ⟨hi, he⟩ := place_lt h
  exact ⟨hi, id_inj hd (List.getElem_mem hi) h he⟩
theorem rowsF_mem {js : List Jb} {fr : Int} {r : Rw} (h : r ∈ rowsF js fr) : r.j ∈ js ∧ mayJ r.j = 0 ∧ r.j.pau = false ∧ (r.ov = false → fr < r.at' ∧ r.at' % 60 = 0) := by
  obtain ⟨j, hj, h⟩ := List.mem_filterMap.1 h
  unfold rowO at h
  split at h
  · cases h
  · rename_i hc
    injection h with h
    subst h
    refine ⟨hj, ?_, ?_, fun ho => ?_⟩
    · exact Classical.not_not.1 (fun h => hc (Or.inr h))
    · show j.pau = false
      cases hp : j.pau
      · rfl
      · exact absurd (Or.inl hp) hc
    · have := step_lo ho
      exact ⟨by show fr < _; have h2 := this.1; simp only at h2; omega, this.2⟩
theorem mayJ_ok {j : Jb} (h : mayJ j = 0) : 1 ≤ j.lim ∧ j.lim ≤ 8 ∧ 1 ≤ j.tmo ∧ j.tmo ≤ 86400 := by
  unfold mayJ at h
  split at h
  · cases h
  split at h
  · rename_i h1; exact absurd h h1
  split at h
  · cases h
  split at h
  · cases h
  · rename_i h1
    unfold argBad at h1
    omega
theorem gives_mem {js : List Jb} {fr tt : Int} {N : Nat} {x : Int × Jb} (h : x ∈ givesF js fr tt N) : x.2 ∈ js ∧ mayJ x.2 = 0 ∧ x.2.pau = false ∧ fr < x.1 ∧ x.1 ≤ tt ∧ 0 ≤ fr ∧ tt < 13569465600 := by
  unfold givesF at h
  split at h
  · rename_i hg
    obtain ⟨h1, h2, _⟩ := hg
    have a := each_job tt (fun j => j ∈ js ∧ mayJ j = 0 ∧ j.pau = false) N (rowsF js fr) (fun r hr => ⟨(rowsF_mem hr).1, (rowsF_mem hr).2.1, (rowsF_mem hr).2.2.1⟩) x h
    have b := each_mem tt (fun _ => True) (fr + 1) N (rowsF js fr) (fun r hr _ ho => by have := ((rowsF_mem hr).2.2.2 ho).1; omega) x h trivial
    have c := each_le tt N _ x h
    simp only [momentB, Bool.and_eq_true, decide_eq_true_eq] at h1 h2
    exact ⟨a.1, a.2.1, a.2.2, by omega, c, h1.1, h2.2⟩
  · cases h
theorem runs_end {w0 : World} {b4 b7 b9 : Nat} {jp : Option Addr} {js : List Jb} {jc : Nat} {fr tt most : Int} {xs : List (Int × Jb)} {W : World} {D : Nat} (h : RunsI w0 b4 b7 b9 jp js jc most xs W) (hS : xs = givesF js fr tt most.toNat) (h1 : 1 ≤ most)
    (hK : W.heap[D]? = some (.deferred (some []))) (hD : w0.heap.size ≤ D) :
    ∃ p c, ∃ _ : True, (ElemsAt 5 rnC (W.putObj D (.deferred none)) (W.putObj D (.deferred none)).heap.size p (runsF js fr tt most) ∧ Below w0.heap.size w0 (W.putObj D (.deferred none)) ∧ Fresh w0.heap.size p) ∧
      ∀ v, W.heap[b9]? = some (.cells #[v] 90 (0, 0)) → Ending.returned v = .returned (.slice p (runsF js fr tt most).length c) := by
  obtain ⟨v, c9, ho, hB, c4, c7, hn⟩ := h
  have hr : runsF js fr tt most = xs.map (mkRn js) := by unfold runsF; rw [if_neg (by omega), hS]
  have ho2 := ownsRow_putObj ho (.deferred none) hK rfl
  obtain ⟨p, c, rfl, he⟩ := elems_own (C := rnC) (l := xs.map (mkRn js)) rnC_len (by rw [List.length_map]; exact ho2)
  refine ⟨p, c, trivial, ⟨by rw [hr]; exact he, hB.trans ⟨rfl, rfl, rfl, by simp, fun k hk => World.putObj_heap_other (by omega)⟩, own_fresh ho2⟩, fun v' hv => ?_⟩
  rw [c9] at hv
  injection hv with hv
  injection hv with hv
  have : v' = .slice p (xs.map (mkRn js)).length c := by simpa using hv.symm
  rw [this, hr]
set_option maxHeartbeats 8000000 in
set_option maxRecDepth 100000 in
theorem runs_any (jp : Option Addr) (js : List Jb) (jc : Nat) (fr tt most : Int) (w : World) (hE : Env w) (hJ : JobsAt w w.heap.size jp js) (hl : js.length ≤ 13) (hd : (js.map (·.id)).Nodup) (hok : ∀ j ∈ js, JobOk w w.heap.size j) (hm : most ≤ 61) :
    Calls Tryz.prog 48 #[.slice jp js.length jc, .int .i64 fr, .int .i64 tt, .int .i64 most] w fun e w' => ∃ p c, e = .returned (.slice p (runsF js fr tt most).length c) ∧ ElemsAt 5 rnC w' w'.heap.size p (runsF js fr tt most) ∧ Below w.heap.size w w' ∧ Fresh w.heap.size p := by
  refine (callsIn_wide (n := 6)).1 ?_
  refine callsIn_of_wp_marks Tryz.func48 rfl trivial ?_ rfl
  simp only [Tryz.ntmps48, List.size_toArray, List.length_cons, List.length_nil, Nat.reduceAdd, Nat.reduceSub, Array.replicate_succ, Array.replicate_zero, List.push_toArray, List.append_toArray, List.nil_append, List.cons_append]
  have HE := Lib.hid hE
  have HJ := Lib.hid hJ
  have HD := Lib.hid hd
  have HO := Lib.hid hok
  clear hE hJ hd hok
  by_cases h1 : most < 1
  · have HR := Lib.hid (show runsF js fr tt most = [] by unfold runsF; rw [if_pos h1])
    gi_wp2
    exact ⟨_, results_tmp rfl _ _ _, none, 0, by rw [HR.out]; rfl, by rw [HR.out]; exact Or.inl rfl, ((a0 w _).alloc (by simp) _).alloc (by simp; omega) _, fun _ h => by cases h⟩
  · replace h1 : 1 ≤ most := by omega
    have h1' : decide (most < 1) = false := by simp; omega
    gi_wp2_with fail
    refine ⟨trivial, (callsIn_wide.2 (each_any _ _ _ _ _ _)).mono ?_⟩
    rintro e w' ⟨rfl, rfl⟩
    have B6 : Below w.heap.size w ((((((w.alloc (.cells #[.slice jp js.length jc] 22)).alloc (.cells #[.int .i64 most] 3)).alloc (.cells #[.slice none 0 0] 90)).alloc (.cells #[.slice jp js.length jc] 22)).alloc (.cells #[.int .i64 fr] 2)).alloc (.cells #[.int .i64 tt] 2)) := al (al (al (al (al (a0 w _) _) _) _) _) _
    have c4 := blk_alloc (o' := .cells #[.int .i64 tt] 2) (blk_alloc (o' := .cells #[.int .i64 fr] 2) (blk_alloc (o' := .cells #[.slice jp js.length jc] 22) (blk_alloc (o' := .cells #[.slice none 0 0] 90) (blk_alloc (o' := .cells #[.int .i64 most] 3) (blk_new w (.cells #[.slice jp js.length jc] 22))))))
    have c7 := blk_alloc (o' := .cells #[.int .i64 tt] 2) (blk_alloc (o' := .cells #[.int .i64 fr] 2) (blk_alloc (o' := .cells #[.slice jp js.length jc] 22) (blk_alloc (o' := .cells #[.slice none 0 0] 90) (blk_new (w.alloc (.cells #[.slice jp js.length jc] 22)) (.cells #[.int .i64 most] 3)))))
    have c9 := blk_alloc (o' := .cells #[.int .i64 tt] 2) (blk_alloc (o' := .cells #[.int .i64 fr] 2) (blk_alloc (o' := .cells #[.slice jp js.length jc] 22) (blk_new ((w.alloc (.cells #[.slice jp js.length jc] 22)).alloc (.cells #[.int .i64 most] 3)) (.cells #[.slice none 0 0] 90))))
    have cj := blk_alloc (o' := .cells #[.int .i64 tt] 2) (blk_alloc (o' := .cells #[.int .i64 fr] 2) (blk_new (((w.alloc (.cells #[.slice jp js.length jc] 22)).alloc (.cells #[.int .i64 most] 3)).alloc (.cells #[.slice none 0 0] 90)) (.cells #[.slice jp js.length jc] 22)))
    have cf := blk_alloc (o' := .cells #[.int .i64 tt] 2) (blk_new ((((w.alloc (.cells #[.slice jp js.length jc] 22)).alloc (.cells #[.int .i64 most] 3)).alloc (.cells #[.slice none 0 0] 90)).alloc (.cells #[.slice jp js.length jc] 22)) (.cells #[.int .i64 fr] 2))
    have ct := blk_new (((((w.alloc (.cells #[.slice jp js.length jc] 22)).alloc (.cells #[.int .i64 most] 3)).alloc (.cells #[.slice none 0 0] 90)).alloc (.cells #[.slice jp js.length jc] 22)).alloc (.cells #[.int .i64 fr] 2)) (.cells #[.int .i64 tt] 2)
    simp only [World.size_alloc] at c4 c7 c9 cj cf ct
    gi_wp2_with fail
    have zW := blk_lt ct
    generalize (World.alloc _ (Obj.cells #[Value.int .i64 tt] 2)) = W6 at *
    have hN : 1 ≤ most.toNat := by omega
    refine wpIn_rangeFunc_M 0 rfl (by omega) (gf := 113) (lb := #[.pointer (some ⟨w.heap.size + 1 + 1 + 1 + 1, 0, none⟩), .pointer (some ⟨w.heap.size + 1 + 1 + 1 + 1 + 1, 0, none⟩), .pointer (some ⟨w.heap.size + 1 + 1 + 1, 0, none⟩)]) rfl trivial (enters_of Tryz.func113 (by kernel_rfl) rfl)
      (each1_seq (6 - 1) jp js jc fr tt most.toNat hN w W6 HE.out HJ.out hl B6 (w.heap.size + 1 + 1) _ _ _ cj cf ct (by omega) (by omega) (by omega) (by omega))
      (fun k o h h2 => by obtain ⟨_, cs, fr', rfl⟩ := h2; cases h) (fun _ => rfl)
      (fun pre W => RunsI w w.heap.size (w.heap.size + 1) (w.heap.size + 1 + 1) jp js jc most pre W ∧ pre.length < most)
      (fun pre W => RunsI w w.heap.size (w.heap.size + 1) (w.heap.size + 1 + 1) jp js jc most pre W)
      (fun s W W' h hk => ⟨runsI_keeps h.1 (by omega) (by omega) (by omega) (by omega) hk, h.2⟩) (fun s W W' h hk => runsI_keeps h (by omega) (by omega) (by omega) (by omega) hk) (fun k o h => h.1)
      ⟨⟨_, c9, World.ownsRow_nil _ _ _ _, B6, c4, c7, by simp; omega⟩, by simp; omega⟩
      (fun pre x a' W => ∃ bx bj, W.heap[bx]? = some (.cells #[.int .i64 x.1, .int .u64 x.2.id] 31 (0, 0)) ∧ W.heap[bj]? = some (jbO x.2) ∧ RunsI w w.heap.size (w.heap.size + 1) (w.heap.size + 1 + 1) jp js jc most pre W ∧ pre.length < most ∧
        a' = { tmps := #[.slice jp js.length jc, .int .i64 fr, .int .i64 tt, .int .i64 most, .pointer (some ⟨w.heap.size, 0, none⟩), undef, undef, .pointer (some ⟨w.heap.size + 1, 0, none⟩), .slice none 0 0, .pointer (some ⟨w.heap.size + 1 + 1, 0, none⟩), .pointer (some ⟨bx, 0, none⟩), .pointer (some ⟨bj, 0, none⟩), undef,
          .int .i64 most, .bool false, .slice jp js.length jc, .int .i64 fr, .int .i64 tt, .func (.func 113) #[] #[.pointer (some ⟨w.heap.size + 1 + 1 + 1 + 1, 0, none⟩), .pointer (some ⟨w.heap.size + 1 + 1 + 1 + 1 + 1, 0, none⟩), .pointer (some ⟨w.heap.size + 1 + 1 + 1, 0, none⟩)],
          .agg #[.int .i64 x.1, .int .u64 x.2.id], jbV x.2, undef, undef, undef, undef, undef, undef, undef, undef, undef, undef, undef, undef, undef, undef, undef, undef, undef, undef, undef, undef, undef], defers := [] })
      ?ax ?assign ?mb ?body ?done ?stop
    case ax =>
      rintro pre x a' s W W' ⟨bx, bj, h1, h2, h3, h4, h5⟩ hk
      refine ⟨bx, bj, hk.same _ _ h1 ?_, hk.same _ _ h2 ?_, runsI_keeps h3 (by omega) (by omega) (by omega) (by omega) hk, h4, h5⟩
      all_goals
        rintro ⟨_, ⟨_, _, _, h⟩ | h⟩
        · injection h with _ h
          exact absurd h (by decide)
        · cases h
    case assign =>
      rintro l pre x W K ⟨hi, hlt⟩ hK
      obtain ⟨xa, ⟨id, name, expr, pol, gr, lim, ret, tmo, dp, dn, dc, pau, ver, seen⟩⟩ := x
      gi_wp2
      have hq := blk_new (W.alloc (.cells #[.int .i64 xa, .int .u64 id] 31)) (jbO ⟨id, name, expr, pol, gr, lim, ret, tmo, dp, dn, dc, pau, ver, seen⟩)
      rw [World.size_alloc] at hq
      exact hK _ _ (((Keeps.refl _ _).alloc _).alloc _) ⟨W.heap.size, W.heap.size + 1, blk_alloc (blk_new W _), hq, runsI_keeps hi (Z := W6.heap.size) (by omega) (by omega) (by omega) (by omega) (((Keeps.refl _ _).alloc _).alloc _), hlt, rfl⟩
    case mb => exact fun k o h ho => ⟨by omega, Or.inr (Or.inl ho)⟩
    case body =>
      rintro l pre x a' W hG ⟨bx, bj, cx, cj', ⟨v, c9, ho, hB, c4, c7, hn⟩, hlt, rfl⟩
      clear cj cf ct
      obtain ⟨hm1, hm2, -, hx1, hx2, hx3, hx4⟩ := gives_mem hG
      obtain ⟨_, _, ht1, ht2⟩ := mayJ_ok hm2
      obtain ⟨hpi, hpe⟩ := place_get HD.out hm1
      have HPE := Lib.hid hpe
      have HM1 := Lib.hid hm1
      have zb := hB.size
      have hcj : W.heap[bj]? = some (jbO js[placeF js x.2]) := by rw [hpe]; exact cj'
      have hok : JobOk W W.heap.size js[placeF js x.2] := by rw [hpe]; exact jobOk_mono (jobOk_keep (HO.out _ hm1) hB) zb
      have HCJ := Lib.hid hcj
      have HOK := Lib.hid hok
      clear hpe hm1 hm2 hG hcj hok
      have q4 := blk_cell c4
      gi_wp2_with fail
      refine ⟨trivial, (CallsIn.inRound l (callsIn_wide.2 (index_any jp js jc (placeF js x.2) hpi HD.out hl bj W (jobs_mono (jobs_keep HJ.out hB) zb) HCJ.out HOK.out))).mono ?_⟩
      rintro e w2 ⟨rfl, hb⟩
      have ko : Keeps (fun k o => BodyMay w.heap.size (w.heap.size + 1 + 1) k o ∧ o.isCells = true) W w2 := Keeps.below (Keeps.refl _ _) hb
      have ho2 := own_keep2 ho hb
      have c9 := blk_keep c9 hb
      have c7 := blk_keep c7 hb
      have c4 := blk_keep c4 hb
      have cx := blk_keep cx hb
      have cj' := blk_keep cj' hb
      have hB2 : Below w.heap.size w w2 := vi hB hb
      clear ho hB hb q4 HCJ HOK
      obtain ⟨xa, ⟨id, name, expr, pol, gr, lim, ret, tmo, dp, dn, dc, pau, ver, seen⟩⟩ := x
      simp only at hx1 hx2 ht1 ht2
      have HP := Lib.hid (show mkRn js (xa, ⟨id, name, expr, pol, gr, lim, ret, tmo, dp, dn, dc, pau, ver, seen⟩) = ⟨xa, id, xa + tmo, lim, placeF js ⟨id, name, expr, pol, gr, lim, ret, tmo, dp, dn, dc, pau, ver, seen⟩⟩ from rfl)
      generalize placeF js _ = pl at *
      have q9 := blk_cell c9
      have q7 := blk_cell c7
      have qx := blk_cell cx
      have qj := blk_cell cj'
      obtain ⟨i0, hi, hz0, hz1, hz2⟩ := info_parts info_run
      have HI := Lib.hid hi
      have HZ0 := Lib.hid hz0
      have HZ1 := Lib.hid hz1
      have HZ2 := Lib.hid hz2
      have nws := World.news_of_block (blk_new w2 (rnO ⟨xa, id, xa + tmo, lim, pl⟩))
      have hpl : pre.length + 1 ≤ 61 := by omega
      clear hi hz0 hz1 hz2
      have z2 := hB2.size
      gi_wp2_with (gi_at_builtin; refine wpListIn_append_own _ rfl (.tmp 24) (.tmp 35) 90 rfl w.heap.size 93 i0 _ 5 40 Tryz.underlying90 HI.out HZ0.out HZ1.out HZ2.out rfl (by decide) v pre.length _ rfl (ho2.alloc _) ⟨w2.heap.size, 0, none⟩ 1 1 (rnC ⟨xa, id, xa + tmo, lim, pl⟩) rfl rfl nws (by simp [Value.oneCell']) (by unfold maxLen; omega) (by omega) (by simp; omega) ?_; intro v' w3 hown' hgrow' _; obtain ⟨g', cap', rfl⟩ := ownsRow_succ hown'; obtain ⟨hv1, hv2, hr2, -, hb2⟩ := Boxed.appended (t := 90) c9 (by decide) ho2 z2 (by omega) hown' hgrow'; have k3 := runs_k3 (B := w.heap.size + 1 + 1) (n := w.heap.size) ho2 (rnO ⟨xa, id, xa + tmo, lim, pl⟩) hgrow' hv1 (by omega) (.slice (some ⟨g', 0, none⟩) (pre.length + 1) cap'); have hc1 := hv1.cell; have hf1 := hv1.frozen; have hc2 := hv2.cell; have q7 := blk_cell (k3.same _ _ c7 (by rintro ⟨h, _⟩; exact notBody (by omega) (by decide) h)); clear q9 qx qj hgrow' hown')
      all_goals
        have e4 := k3.same _ _ c4 (by rintro ⟨h, _⟩; exact notBody (by omega) (by decide) h)
        have e7 := k3.same _ _ c7 (by rintro ⟨h, _⟩; exact notBody (by omega) (by decide) h)
        have hr3 := hr2
        rw [← HP.out] at hr3
        refine ⟨ko.trans k3, ?_⟩
        have hr4 : (w3.setCell ⟨w.heap.size + 1 + 1, 0, none⟩ (.slice (some ⟨g', 0, none⟩) (pre.length + 1) cap')).ownsRow w.heap.size 93 5 (.slice (some ⟨g', 0, none⟩) (pre.length + 1) cap') (pre ++ [((xa, ⟨id, name, expr, pol, gr, lim, ret, tmo, dp, dn, dc, pau, ver, seen⟩) : Int × Jb)]).length (((pre ++ [((xa, ⟨id, name, expr, pol, gr, lim, ret, tmo, dp, dn, dc, pau, ver, seen⟩) : Int × Jb)]).map (mkRn js)).flatMap rnC) := by
          rw [List.length_append, List.map_append, List.flatMap_append]
          simpa using hr3
      · have hN3 : (pre.length : Int) + 1 = most := beq_iff_eq.1 (by assumption)
        exact ⟨⟨_, hv2, hr4, hB2.trans hb2, e4, e7, by simp; omega⟩, by omega⟩
      · have hN3 : ¬ (pre.length : Int) + 1 = most := fun h => by
          have h' : ((pre.length : Int) + 1 == most) = true := beq_iff_eq.2 h
          simp_all
        exact ⟨⟨_, hv2, hr4, hB2.trans hb2, e4, e7, by simp; omega⟩, by omega⟩
    case done =>
      rintro D xs W hD hS hN2 ⟨hI, hlt⟩ hK
      obtain ⟨p, c, Wf, hw, he⟩ := runs_end (fr := fr) (tt := tt) hI hS h1 hK (by omega)
      obtain ⟨v, c9, -⟩ := hI
      have q9 := blk_cell c9
      gi_wp2
      refine ⟨by simp, .inl ⟨_, _, rfl, run_takeDeferred hK, ?_⟩⟩
      refine ⟨_, results_tmp rfl _ _ _, p, c, ?_, hw⟩
      show Ending.returned v = _
      exact he v c9
    case stop =>
      rintro D xs W hD hS hN2 hI hK
      obtain ⟨p, c, Wf, hw, he⟩ := runs_end (fr := fr) (tt := tt) hI hS h1 hK (by omega)
      obtain ⟨v, c9, -⟩ := hI
      have q9 := blk_cell c9
      gi_wp2
      refine ⟨by simp, .inl ⟨_, _, rfl, run_takeDeferred hK, ?_⟩⟩
      refine ⟨_, results_tmp rfl _ _ _, p, c, ?_, hw⟩
      show Ending.returned v = _
      exact he v c9
end Go.Proofs.YtceddjpaddcjiaaGreatDoor

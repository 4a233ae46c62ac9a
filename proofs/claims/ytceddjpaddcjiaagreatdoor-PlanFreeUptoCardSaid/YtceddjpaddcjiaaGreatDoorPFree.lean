/- The walk of PlanFree. -/
import Derived.Test.YtceddjpaddcjiaaGreatDoorKnown2
import Derived.Test.YtceddjpaddcjiaaGreatDoorHeavy
import Derived.Test.YtceddjpaddcjiaaGreatDoorClone
namespace Go.Proofs.YtceddjpaddcjiaaGreatDoor
open Go.RowKit
def capJ (j : Jb) : Jb := { j with tmo := if 60 < j.tmo then 60 else j.tmo }
def capTo (js : List Jb) (j : Nat) : List Jb := (js.take j).map capJ ++ js.drop j
theorem capTo_len (js : List Jb) (j : Nat) (h : j ≤ js.length) : (capTo js j).length = js.length := by simp [capTo]; omega
theorem capTo_end (js : List Jb) : capTo js js.length = js.map capJ := by simp [capTo]
theorem capTo_succ (js : List Jb) (j : Nat) (h : j < js.length) : capTo js (j + 1) = (js.take j).map capJ ++ capJ js[j] :: js.drop (j + 1) := by
  unfold capTo
  rw [List.take_succ_eq_append_getElem h, List.map_append]
  simp
theorem capTo_at (js : List Jb) (j : Nat) (h : j < js.length) : capTo js j = (js.take j).map capJ ++ js[j] :: js.drop (j + 1) := by
  unfold capTo
  rw [List.drop_eq_getElem_cons h]
theorem flat_set (A B : List Jb) (q : Jb) (v : Int) : ((A ++ q :: B).flatMap jbC).set (A.length * 12 + 7) (.int .i64 v) = (A ++ { q with tmo := v } :: B).flatMap jbC := by
  rw [List.flatMap_append, List.flatMap_append, List.flatMap_cons, List.flatMap_cons, List.set_append, if_neg (by rw [flat_len jbC_len]; omega), flat_len jbC_len, show A.length * 12 + 7 - A.length * 12 = 7 by omega]
  rfl
theorem flat_get7 (A B : List Jb) (q : Jb) : ((A ++ q :: B).flatMap jbC)[A.length * 12 + 7]? = some (.int .i64 q.tmo) := by
  rw [List.flatMap_append, List.flatMap_cons, List.getElem?_append_right (by rw [flat_len jbC_len]; omega), flat_len jbC_len, show A.length * 12 + 7 - A.length * 12 = 7 by omega]
  rfl
theorem jobsOk_cap {w : World} {base : Nat} {p : Option Addr} {c : Nat} {js : List Jb} (hE : Env w) (ho : w.ownsRow base 37 12 (.slice p js.length c) js.length ((js.map capJ).flatMap jbC)) (hl : js.length ≤ 13) (hd : (js.map (·.id)).Nodup) (hk : ∀ j ∈ js, JobOk w w.heap.size j) :
    JobsOk w p (js.map capJ) := by
  obtain ⟨p', c', e, he⟩ := elems_own (C := jbC) (l := js.map capJ) jbC_len (by rw [List.length_map]; exact ho)
  injection e with e
  subst e
  refine ⟨hE, he, by simpa using hl, by rw [List.map_map]; exact hd, fun j hj => ?_⟩
  obtain ⟨q, hq, rfl⟩ := List.mem_map.1 hj
  exact hk q hq
theorem cap_tmo (js : List Jb) : ∀ j ∈ js.map capJ, j.tmo ≤ 60 := by
  intro j hj
  obtain ⟨q, _, rfl⟩ := List.mem_map.1 hj
  show (if 60 < q.tmo then (60 : Int) else q.tmo) ≤ 60
  split <;> omega
/-- What the walk asks of the arguments. -/
structure ArgOk (w : World) (jp : Option Addr) (js : List Jb) : Prop where
  env : Env w
  jobs : JobsAt w w.heap.size jp js
  len : js.length ≤ 2097152
  wf : ∀ j ∈ js, JobWf j
  deps : ∀ j ∈ js, DepsAt w j.dp j.dn ∧ depsBelow w.heap.size j.dp j.dn
theorem argOk_keep {w w' : World} {jp : Option Addr} {js : List Jb} (h : ArgOk w jp js) (hb : Below w.heap.size w w') : ArgOk w' jp js :=
  ⟨env_keep h.env hb, jobs_mono (jobs_keep h.jobs hb) hb.size, h.len, h.wf, fun j hj => ⟨deps_keep (h.deps j hj).1 (h.deps j hj).2 hb, deps_mono hb.size (h.deps j hj).2⟩⟩
theorem argOk_light {w : World} {jp : Option Addr} {js : List Jb} {most : Int} (h : ArgOk w jp js) (hl : Light js most) : JobsOk w jp js :=
  ⟨h.env, h.jobs, by have := hl.2.2.1; omega, hl.1, fun j hj => ⟨(h.deps j hj).1, (h.deps j hj).2, (hl.2.1 j hj).2⟩⟩
set_option maxHeartbeats 16000000 in
set_option maxRecDepth 100000 in
theorem planfree_any (jp : Option Addr) (js : List Jb) (jc : Nat) (fr tt : Int) (w : World) (h : ArgOk w jp js) : Calls Tryz.prog 3 #[.slice jp js.length jc, .int .i64 fr, .int .i64 tt] w (Good w) := by
  have H := Lib.hid h
  clear h
  go_enter Tryz.func3, Tryz.ntmps3
  go_wp2_with fail
  refine (known_any w H.out.env).mono ?_
  rintro e w1 ⟨rfl, hb⟩
  have B := hb
  have H1 := Lib.hid (argOk_keep H.out hb)
  clear hb
  go_wp2_with fail
  refine (heavy_any jp js jc 1 w1 H1.out.jobs H1.out.wf H1.out.len).mono ?_
  rintro e w2 ⟨b, rfl, hlight, hb⟩
  have B2 := vi B hb
  have H2 := Lib.hid (argOk_keep H1.out hb)
  clear hb H1 B
  cases b
  rotate_left
  · clear hlight
    go_wp2
    go_ret
    exact ⟨rfl, B2⟩
  have HL := Lib.hid (hlight rfl)
  clear hlight
  by_cases h0 : fr < 0
  · have h0' : decide (fr < 0) = true := by simpa using h0
    go_wp2
    go_ret
    exact ⟨rfl, B2⟩
  have h0' : decide (fr < 0) = false := by simpa using h0
  replace h0 : 0 ≤ fr := by omega
  by_cases h1 : tt ≤ fr
  · have h1' : decide (tt ≤ fr) = true := by simpa using h1
    go_wp2
    go_ret
    exact ⟨rfl, B2⟩
  have h1' : decide (tt ≤ fr) = false := by simpa using h1
  replace h1 : fr < tt := by omega
  by_cases h2 : 13569465600 ≤ tt
  · have h2' : decide (13569465600 ≤ tt) = true := by simpa using h2
    go_wp2
    go_ret
    exact ⟨rfl, B2⟩
  have h2' : decide (13569465600 ≤ tt) = false := by simpa using h2
  replace h2 : tt < 13569465600 := by omega
  have J2 := Lib.hid (argOk_light H2.out HL.out)
  have HD := Lib.hid HL.out.1
  have hl12 := HL.out.2.2.1
  clear HL
  have hpf := fun W (h : JobsOk W jp js) => pfirst_any jp js jc fr tt 61 W h (by decide)
  have hgp := fun W (h : JobsOk W jp js) => gap_any jp js jc fr tt 61 W h (by decide)
  have hpk := fun W (h : JobsOk W jp js) => peak_any jp js jc fr tt 61 W h (by decide)
  obtain ⟨g1, g2, g3, g4⟩ := free_gap js fr tt 61 h0 h1 h2
  obtain ⟨p1, p2, p3⟩ := free_peak js fr tt 61
  have hcl := free_clash (js.map capJ) fr tt 61 (by rw [List.map_map]; exact HD.out) (cap_tmo js)
  have HCL := Lib.hid hcl
  clear hcl
  generalize runsF js fr tt 61 = l at *
  generalize gapF fr tt l = gp at *
  generalize peakF l = pk at *
  obtain ⟨gb, ge⟩ := gp
  obtain ⟨pm, pa⟩ := pk
  simp only [List.length_map] at hpf hgp hpk g1 g2 g3 g4 p1 p2 p3
  have HPF := Lib.hid hpf
  have HGP := Lib.hid hgp
  have HPK := Lib.hid hpk
  have HG4 := Lib.hid g4
  have HP2 := Lib.hid p2
  have HP3 := Lib.hid p3
  clear hpf hgp hpk g4 p2 p3
  go_wp2_with fail
  refine (HPF.out w2 J2.out).mono ?_
  rintro e w3 ⟨p, c, rfl, hIt, hb⟩
  have HIt := Lib.hid hIt
  have J3 := Lib.hid (jobsOk_keep J2.out hb)
  have B3 := vi B2 hb
  clear hIt hb J2 B2 HPF
  by_cases hl60 : l.length ≤ 60
  rotate_left
  · replace hl60 : (60 : Int) < l.length := by omega
    go_wp2
    go_ret
    exact ⟨rfl, B3⟩
  have hl60' : decide ((60 : Int) < l.length) = false := by simp; omega
  go_wp2_with fail
  refine (HGP.out w3 J3.out).mono ?_
  rintro e w4 ⟨rfl, hb⟩
  have HIt := Lib.hid (elems_mono (elems_keep HIt.out hb) hb.size)
  have J4 := Lib.hid (jobsOk_keep J3.out hb)
  have B4 := vi B3 hb
  clear hb J3 B3 HGP
  have g1' : decide (gb < fr) = false := by simp; omega
  have g2' : decide (tt < ge) = false := by simp; omega
  have g3' : decide (ge < gb) = false := by simp; omega
  go_wp2_with fail
  go_loopg [62] 100 (fun g iv wr => ∃ (j : Nat), iv = .int .i64 j ∧ j ≤ l.length ∧ l.length - j ≤ g ∧ Below w4.heap.size w4 wr)
  case atStart => exact ⟨0, rfl, by omega, by omega, Below.refl _ _⟩
  case round =>
    obtain ⟨j, rfl, hj, hg, B5⟩ := hrel
    by_cases hlt : j < l.length
    · have hlt2 : j < (l.map itOf).length := by simpa using hlt
      obtain ⟨b, o, rfl, hbl, hc⟩ := (elems_keep HIt.out B5).resolve_left (elems_len hlt2)
      have c0 : wr.cell? ⟨b, o + j * 2, none⟩ = some (.int .i64 (l.map itOf)[j].1) := hc j hlt2 0 _ rfl
      have c1 := hc j hlt2 1 _ rfl
      have hx : (l.map itOf)[j].1 ≤ gb ∨ ge ≤ (l.map itOf)[j].1 := by
        have := HG4.out l[j] (List.getElem_mem hlt)
        simpa [itOf] using this
      clear hc
      generalize (l.map itOf)[j] = x at *
      have B6 := al B5 (itO x)
      rcases hx with hx | hx
      · have hx' : decide (gb < x.1) = false := by simp; omega
        go_wp2
        go_roundg (gk - 1)
        case measure => omega
        case rel => exact ⟨j + 1, by go_num, by omega, by omega, B6⟩
      · have hx' : decide (x.1 < ge) = false := by simp; omega
        by_cases hx2 : gb < x.1
        · have hx2' : decide (gb < x.1) = true := by simpa using hx2
          go_wp2
          go_roundg (gk - 1)
          case measure => omega
          case rel => exact ⟨j + 1, by go_num, by omega, by omega, B6⟩
        · have hx2' : decide (gb < x.1) = false := by simpa using hx2
          replace hx2 : x.1 ≤ gb := by omega
          go_wp2
          go_roundg (gk - 1)
          case measure => omega
          case rel => exact ⟨j + 1, by go_num, by omega, by omega, B6⟩
    · have hje : j = l.length := by omega
      subst hje
      have J5 := Lib.hid (jobsOk_keep J4.out B5)
      have B6 := vi B4 B5
      clear J4 B4 B5 HIt HG4
      go_wp2_with fail
      refine (HPK.out wr J5.out).mono ?_
      rintro e w6 ⟨rfl, hb⟩
      have J6 := Lib.hid (jobsOk_keep J5.out hb)
      have B7 := vi B6 hb
      clear hb J5 B6 HPK
      have q1 : decide ((l.length : Int) < pm) = false := by simp; omega
      have hcase : (decide (0 < pm) = true ∧ decide (0 < l.length) = true ∧ 0 < l.length ∧ decide (pa ≤ fr) = false ∧ decide (tt < pa) = false) ∨ (decide (0 < pm) = false ∧ decide (0 < l.length) = false ∧ l.length ≤ 0) := by
        by_cases hm : 0 < pm
        · have h3 := HP3.out hm
          have h4 := HP2.out.1 hm
          exact Or.inl ⟨by simpa using hm, decide_eq_true h4, h4, decide_eq_false (by omega), decide_eq_false (by omega)⟩
        · have h4 : ¬ 0 < l.length := fun h => hm (HP2.out.2 h)
          exact Or.inr ⟨by simpa using hm, decide_eq_false h4, by omega⟩
      clear HP2 HP3
      have hl2m : js.length ≤ 2097152 := by omega
      rcases hcase with ⟨q2, q3, q6, q4, q5⟩ | ⟨q2, q3, q6⟩
      all_goals
        go_wp2_with fail
        refine (clone_any jp js jc w6 J6.out.jobs hl2m).mono ?_
        rintro e w7 ⟨pw, cw, rfl, hO, hb⟩
        have HO := Lib.hid hO
        have z7 := hb.size
        have HB8 := Lib.hid hb
        have B8 := vi B7 hb
        clear hO hb
        go_wp2_with fail
        go_loopg [114] 20 (fun g iv wr => ∃ (j : Nat), iv = .int .i64 j ∧ j ≤ js.length ∧ js.length - j ≤ g ∧ Below w6.heap.size w6 wr ∧ wr.ownsRow w6.heap.size 37 12 (.slice pw js.length cw) js.length ((capTo js j).flatMap jbC))
        case atStart => exact ⟨0, rfl, by omega, by omega, HB8.out, by simpa [capTo] using HO.out⟩
        case round =>
          obtain ⟨j, rfl, hj, hg, B9, hO⟩ := hrel
          have HO9 := Lib.hid hO
          clear hO
          by_cases hlt : j < js.length
          · obtain ⟨gw, cw', e, hgb, hgl⟩ := HO9.out.form (by omega)
            injection e with e1 e2 e3
            subst e1
            have hA := capTo_at js j hlt
            have hS := capTo_succ js j hlt
            have hln : ((js.take j).map capJ).length = j := by simp; omega
            have hc7 := HO9.out.cellAt (j * 12 + 7) (by omega)
            rw [hA] at hc7
            have hf7 := flat_get7 ((js.take j).map capJ) (js.drop (j + 1)) js[j]
            rw [hln] at hf7
            rw [hf7] at hc7
            have hfz := HO9.out.frozenAt (j * 12 + 7)
            have hst := HO9.out.stored (j * 12 + 7) (.int .i64 60)
            rw [hA] at hst
            have hfs := flat_set ((js.take j).map capJ) (js.drop (j + 1)) js[j] 60
            rw [hln] at hfs
            rw [hfs] at hst
            have HST := Lib.hid hst
            have HS := Lib.hid hS
            have HAA := Lib.hid hA
            clear hA hS hln hf7 hst hfs e2 e3
            have z9 := B9.size
            by_cases h60 : 60 < js[j].tmo
            · have h60' : decide (60 < js[j].tmo) = true := by simpa using h60
              have HC := Lib.hid (show capTo js (j + 1) = (js.take j).map capJ ++ { js[j] with tmo := 60 } :: js.drop (j + 1) by rw [HS.out]; unfold capJ; rw [if_pos h60])
              go_wp2
              go_roundg (gk - 1)
              case measure => omega
              case rel => exact ⟨j + 1, by go_num, by omega, by omega, B9.setCell (p := ⟨gw, j * 12 + 7, none⟩) hgb _, by rw [HC.out]; exact HST.out.1⟩
            · have h60' : decide (60 < js[j].tmo) = false := by simpa using h60
              have HC := Lib.hid (show capTo js (j + 1) = capTo js j by rw [HS.out, HAA.out]; unfold capJ; rw [if_neg h60])
              go_wp2
              go_roundg (gk - 1)
              case measure => omega
              case rel => exact ⟨j + 1, by go_num, by omega, by omega, B9, by rw [HC.out]; exact HO9.out⟩
          · have hje : j = js.length := by omega
            subst hje
            have hO9 := HO9.out
            rw [capTo_end] at hO9
            have J9 := Lib.hid (jobsOk_cap (jobsOk_keep J6.out B9).env hO9 (jobsOk_keep J6.out B9).len HD.out (jobsOk_keep J6.out B9).ok)
            have hcla := clash_any pw (js.map capJ) cw fr tt 61 wr J9.out (by decide)
            rw [HCL.out, List.length_map] at hcla
            have HCLA := Lib.hid hcla
            have B10 := vi B7 B9
            clear hO9 hcla HO HO9
            go_wp2_with fail
            refine HCLA.out.mono ?_
            rintro e w10 ⟨p10, c10, rfl, -, hb⟩
            have B11 := vi B10 hb
            go_wp2
            go_ret
            exact ⟨rfl, B11⟩
end Go.Proofs.YtceddjpaddcjiaaGreatDoor

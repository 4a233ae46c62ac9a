/- What PlanFree asks, of a plan's runs, in plain words. -/
import Derived.Test.YtceddjpaddcjiaaGreatDoorPeak
import Derived.Test.YtceddjpaddcjiaaGreatDoorGap
import Derived.Test.YtceddjpaddcjiaaGreatDoorClash
namespace Go.Proofs.YtceddjpaddcjiaaGreatDoor
theorem runs_sorted (js : List Jb) (fr tt most : Int) : (runsF js fr tt most).Pairwise (fun a b => a.at' ≤ b.at') := by
  unfold runsF givesF
  split
  · exact List.Pairwise.nil
  split
  · exact (List.pairwise_map).2 (each_sorted tt _ _)
  · exact List.Pairwise.nil
theorem filterMap_ids (fr : Int) : ∀ js : List Jb, ((rowsF js fr).map (·.j.id)).Sublist (js.map (·.id))
  | [] => List.Sublist.slnil
  | j :: js => by
    have ih := filterMap_ids fr js
    unfold rowsF at ih ⊢
    rw [List.filterMap_cons]
    cases hr : rowO fr j with
    | none => simp only []; exact ih.cons _
    | some r =>
      simp only [List.map_cons]
      have : r.j.id = j.id := by
        unfold rowO at hr
        split at hr
        · cases hr
        · injection hr with hr; subst hr; rfl
      rw [this]
      exact ih.cons_cons _
theorem runs_apart (js : List Jb) (fr tt most : Int) (hd : (js.map (·.id)).Nodup) : (runsF js fr tt most).Pairwise (fun a b => a.id = b.id → a.at' + 60 ≤ b.at') := by
  unfold runsF givesF
  split
  · exact List.Pairwise.nil
  split
  · exact (List.pairwise_map).2 (each_apart tt _ _ (hd.sublist (filterMap_ids fr js)) (fun r hr ho => ((rowsF_mem hr).2.2.2 ho).2))
  · exact List.Pairwise.nil
theorem runs_job {js : List Jb} {fr tt most : Int} {x : Rn} (h : x ∈ runsF js fr tt most) : ∃ j ∈ js, mayJ j = 0 ∧ j.pau = false ∧ x.id = j.id ∧ x.unt = x.at' + j.tmo ∧ x.lim = j.lim := by
  unfold runsF at h
  split at h
  · cases h
  · obtain ⟨y, hy, rfl⟩ := List.mem_map.1 h
    obtain ⟨h1, h2, h3, _⟩ := gives_mem hy
    exact ⟨y.2, h1, h2, h3, rfl, rfl, rfl⟩
/-- The longest gap lies between neighbours. -/
theorem gap_go : ∀ (A : List Int) (p b e : Int) (seen : List Int), (p :: A).Pairwise (· ≤ ·) → b ≤ e → e ≤ p → (∀ x ∈ seen, x ≤ p) → (∀ x ∈ seen, x ≤ b ∨ e ≤ x) → p ∈ seen →
    ∀ r : Int × Int, gapGo p (b, e) A = r → (∃ q ∈ p :: A, b ≤ r.1 ∧ r.2 ≤ q) ∧ r.1 ≤ r.2 ∧ ∀ x ∈ seen ++ A, x ≤ r.1 ∨ r.2 ≤ x
  | [], p, b, e, seen, _, hbe, hep, _, hs2, _, r, hr => by
    have hr : (b, e) = r := hr
    subst hr
    exact ⟨⟨p, by simp, Int.le_refl _, hep⟩, hbe, by simpa using hs2⟩
  | y :: A, p, b, e, seen, hp, hbe, hep, hs1, hs2, hps, r, hr => by
    have hp' := List.pairwise_cons.1 hp
    have hpy : p ≤ y := hp'.1 y (by simp)
    rw [gapGo] at hr
    by_cases hc : e - b < y - p
    · rw [if_pos hc] at hr
      obtain ⟨⟨q, hq, h1, h2⟩, h3, h4⟩ := gap_go A y p y (seen ++ [y]) hp'.2 hpy (Int.le_refl _) (by
          intro x hx
          rcases List.mem_append.1 hx with hx | hx
          · have := hs1 x hx; omega
          · have : x = y := by simpa using hx
            omega) (by
          intro x hx
          rcases List.mem_append.1 hx with hx | hx
          · exact Or.inl (hs1 x hx)
          · have : x = y := by simpa using hx
            exact Or.inr (by omega)) (by simp) r hr
      refine ⟨⟨q, List.mem_cons_of_mem _ hq, ?_, h2⟩, h3, by simpa using h4⟩
      have : b ≤ p := by omega
      omega
    · rw [if_neg hc] at hr
      obtain ⟨⟨q, hq, h1, h2⟩, h3, h4⟩ := gap_go A y b e (seen ++ [y]) hp'.2 hbe (by omega) (by
          intro x hx
          rcases List.mem_append.1 hx with hx | hx
          · have := hs1 x hx; omega
          · have : x = y := by simpa using hx
            omega) (by
          intro x hx
          rcases List.mem_append.1 hx with hx | hx
          · exact hs2 x hx
          · have : x = y := by simpa using hx
            exact Or.inr (by omega)) (by simp) r hr
      exact ⟨⟨q, List.mem_cons_of_mem _ hq, h1, h2⟩, h3, by simpa using h4⟩
theorem free_gap (js : List Jb) (fr tt most : Int) (h0 : 0 ≤ fr) (h1 : fr < tt) (h2 : tt < 13569465600) :
    fr ≤ (gapF fr tt (runsF js fr tt most)).1 ∧ (gapF fr tt (runsF js fr tt most)).2 ≤ tt ∧ (gapF fr tt (runsF js fr tt most)).1 ≤ (gapF fr tt (runsF js fr tt most)).2 ∧
      ∀ x ∈ runsF js fr tt most, x.at' ≤ (gapF fr tt (runsF js fr tt most)).1 ∨ (gapF fr tt (runsF js fr tt most)).2 ≤ x.at' := by
  have hs := runs_sorted js fr tt most
  have hm := fun x (hx : x ∈ runsF js fr tt most) => runsF_mem hx
  generalize runsF js fr tt most = l at *
  unfold gapF
  rw [if_pos ⟨by simp [momentB]; omega, by simp [momentB]; omega, h1⟩]
  have hp : (fr :: (l.map (·.at') ++ [tt])).Pairwise (· ≤ ·) := by
    rw [List.pairwise_cons]
    refine ⟨fun x hx => ?_, List.pairwise_append.2 ⟨List.pairwise_map.2 hs, by simp, fun x hx y hy => ?_⟩⟩
    · rcases List.mem_append.1 hx with hx | hx
      · obtain ⟨y, hy, rfl⟩ := List.mem_map.1 hx
        have := hm y hy
        omega
      · have : x = tt := by simpa using hx
        omega
    · obtain ⟨z, hz, rfl⟩ := List.mem_map.1 hx
      have := hm z hz
      have : y = tt := by simpa using hy
      omega
  obtain ⟨⟨q, hq, a1, a2⟩, a3, a4⟩ := gap_go (l.map (·.at') ++ [tt]) fr fr fr [fr] hp (Int.le_refl _) (Int.le_refl _) (by simp) (by simp) (by simp) _ rfl
  have hqt : q ≤ tt := by
    rcases List.mem_cons.1 hq with rfl | hq
    · omega
    rcases List.mem_append.1 hq with hq | hq
    · obtain ⟨y, hy, rfl⟩ := List.mem_map.1 hq
      exact (hm y hy).2
    · have : q = tt := by simpa using hq
      omega
  have e : gapG (fr :: (l.map (·.at') ++ [tt])) 0 (fr, fr) = gapGo fr (fr, fr) (l.map (·.at') ++ [tt]) := rfl
  rw [e]
  refine ⟨a1, by omega, a3, fun x hx => a4 x.at' ?_⟩
  exact List.mem_append_right _ (List.mem_append_left _ (List.mem_map_of_mem hx))
theorem peak_fold (l : List Rn) (fr tt : Int) : ∀ (k : List Rn) (acc : Int × Int), (∀ x ∈ k, x ∈ l ∧ fr < x.at' ∧ x.at' ≤ tt ∧ x.at' < x.unt) → 0 ≤ acc.1 → acc.1 ≤ l.length → (0 < acc.1 → fr < acc.2 ∧ acc.2 ≤ tt) →
    acc.1 ≤ (k.foldl (peakStep l) acc).1 ∧ (k.foldl (peakStep l) acc).1 ≤ l.length ∧ (0 < (k.foldl (peakStep l) acc).1 → fr < (k.foldl (peakStep l) acc).2 ∧ (k.foldl (peakStep l) acc).2 ≤ tt) ∧ (k ≠ [] → 0 < (k.foldl (peakStep l) acc).1)
  | [], acc, _, h0, h1, h2 => ⟨Int.le_refl _, h1, h2, fun h => absurd rfl h⟩
  | x :: k, acc, hk, h0, h1, h2 => by
    obtain ⟨m1, m2, m3, m4⟩ := hk x (by simp)
    have hc := cnt_bd x.at' l
    have hc1 : 0 < cnt x.at' l := by
      unfold cnt
      have : x ∈ l.filter (runsAt x.at') := List.mem_filter.2 ⟨m1, by simp [runsAt, m4]⟩
      have := List.length_pos_of_mem this
      omega
    rw [List.foldl_cons]
    have hst : peakStep l acc x = if acc.1 < cnt x.at' l then (cnt x.at' l, x.at') else acc := rfl
    rw [hst]
    by_cases h : acc.1 < cnt x.at' l
    · rw [if_pos h]
      obtain ⟨a, b, c, d⟩ := peak_fold l fr tt k (cnt x.at' l, x.at') (fun y hy => hk y (List.mem_cons_of_mem _ hy)) hc.1 hc.2 (fun _ => ⟨m2, m3⟩)
      simp only at a
      exact ⟨by omega, b, c, fun _ => by omega⟩
    · rw [if_neg h]
      obtain ⟨a, b, c, d⟩ := peak_fold l fr tt k acc (fun y hy => hk y (List.mem_cons_of_mem _ hy)) h0 h1 h2
      exact ⟨a, b, c, fun _ => by omega⟩
theorem free_peak (js : List Jb) (fr tt most : Int) : (peakF (runsF js fr tt most)).1 ≤ (runsF js fr tt most).length ∧ (0 < (peakF (runsF js fr tt most)).1 ↔ 0 < (runsF js fr tt most).length) ∧
    (0 < (peakF (runsF js fr tt most)).1 → fr < (peakF (runsF js fr tt most)).2 ∧ (peakF (runsF js fr tt most)).2 ≤ tt) := by
  have hm := fun x (hx : x ∈ runsF js fr tt most) => runsF_mem hx
  have hj := fun x (hx : x ∈ runsF js fr tt most) => runs_job hx
  generalize runsF js fr tt most = l at *
  obtain ⟨a, b, c, d⟩ := peak_fold l fr tt l (0, 0) (fun x hx => ⟨hx, (hm x hx).1, (hm x hx).2, by
    obtain ⟨j, _, h2, _, _, h5, _⟩ := hj x hx
    have := mayJ_ok h2
    omega⟩) (Int.le_refl _) (by simp) (fun h => by simp at h)
  refine ⟨b, ⟨fun h => ?_, fun h => d (by intro e; rw [e] at h; simp at h)⟩, c⟩
  have : (peakF l).1 ≤ l.length := b
  omega
theorem clash_fold : ∀ (k : List Rn) (O : List (Int × Int)) (K : List Rn), (K ++ k).Pairwise (fun a b => a.id = b.id → a.at' + 60 ≤ b.at') → (∀ x ∈ K ++ k, x.unt ≤ x.at' + 60 ∧ 1 ≤ x.lim) → (k.foldl clStep (O, K)).1 = O
  | [], _, _, _, _ => rfl
  | x :: k, O, K, hp, hm => by
    have h0 : cntK x K = 0 := by
      unfold cntK
      rw [List.filter_eq_nil_iff.2]
      · rfl
      · intro y hy h
        simp only [clB, Bool.and_eq_true, beq_iff_eq, decide_eq_true_eq] at h
        have h1 := (List.pairwise_append.1 hp).2.2 y hy x (by simp) h.1.1
        have h2 := (hm y (List.mem_append_left _ hy)).1
        omega
    rw [List.foldl_cons, show clStep (O, K) x = (O, K ++ [x]) by
      unfold clStep
      rw [if_neg]
      have := (hm x (by simp)).2
      simp only [h0]; omega]
    exact clash_fold k O (K ++ [x]) (by simpa using hp) (by simpa using hm)
theorem free_clash (js : List Jb) (fr tt most : Int) (hd : (js.map (·.id)).Nodup) (ht : ∀ j ∈ js, j.tmo ≤ 60) : clashF (runsF js fr tt most) = [] := by
  unfold clashF
  refine clash_fold _ [] [] (runs_apart js fr tt most hd) (fun x hx => ?_)
  obtain ⟨j, h1, h2, _, _, h5, h6⟩ := runs_job (by simpa using hx)
  have := mayJ_ok h2
  have := ht j h1
  omega
end Go.Proofs.YtceddjpaddcjiaaGreatDoor

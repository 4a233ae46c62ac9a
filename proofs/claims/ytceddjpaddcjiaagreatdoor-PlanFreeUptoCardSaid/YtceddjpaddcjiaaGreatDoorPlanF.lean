/- What a plan's runs are, in plain words; that they rise, and those of one job by a minute at least; the longest gap; how many at once; what clashes. -/
import Derived.Test.YtceddjpaddcjiaaGreatDoorRow
namespace Go.Proofs.YtceddjpaddcjiaaGreatDoor
theorem hours_lo (b1 b0 : Int) : ∀ (k : Nat) (hour mi s : Int), 0 ≤ mi → hoursF k b1 b0 hour mi = some s → hour * 3600 + mi % 60 * 60 ≤ s ∧ s % 60 = 0 := by
  intro k
  induction k with
  | zero => intro hour mi s _ h; cases h
  | succ k ih =>
    intro hour mi s h0 h
    rw [hoursF] at h
    cases hf : firstB b1 hour with
    | none => rw [hf] at h; cases h
    | some hh =>
      rw [hf] at h
      obtain ⟨_, q⟩ := firstB_some hf
      simp only [] at h
      cases hg : firstB b0 ((if hour < hh then 0 else mi) % 60) with
      | some m =>
        rw [hg] at h
        obtain ⟨_, q2⟩ := firstB_some hg
        injection h with h
        by_cases hlt : hour < hh
        · rw [if_pos hlt] at q2; omega
        · rw [if_neg hlt] at q2; omega
      | none =>
        rw [hg] at h
        have := ih (hh + 1) 0 s (by omega) h
        omega
theorem from_lo (x : Ex) : ∀ (k : Nat) (day mi n : Int), 0 ≤ day → 0 ≤ mi → mi < 1440 → fromF k x day mi = some n → day * 86400 + mi * 60 ≤ n ∧ n % 60 = 0 := by
  intro k
  induction k with
  | zero => intro day mi n _ _ _ h; cases h
  | succ k ih =>
    intro day mi n h0 m0 m1 h
    rw [fromF] at h
    by_cases hd : 157054 ≤ day
    · rw [if_pos hd] at h; cases h
    rw [if_neg hd] at h
    obtain ⟨-, -, -, hl, -, -⟩ := of_ok day h0 (by omega)
    by_cases h3 : hasB x.b3 (ofM day) = false
    · rw [if_pos h3] at h
      have := ih _ _ _ (by omega) (by omega) (by omega) h
      omega
    rw [if_neg h3] at h
    by_cases h4 : dayB x day = false
    · rw [if_pos h4] at h
      have := ih _ _ _ (by omega) (by omega) (by omega) h
      omega
    rw [if_neg h4] at h
    cases hf : HF x.b1 x.b0 (mi / 60) mi with
    | some s =>
      rw [hf] at h
      have := hours_lo _ _ _ _ _ _ m0 hf
      injection h with h
      omega
    | none =>
      rw [hf] at h
      have := ih _ _ _ (by omega) (by omega) (by omega) h
      omega
theorem after_lo {x : Ex} {t n : Int} (h : afterF x t = (n, 0)) : t - t % 60 + 60 ≤ n ∧ n % 60 = 0 := by
  unfold afterF at h
  by_cases he : mayE x t = 0
  · rw [if_pos he] at h
    obtain ⟨_, t0, t1⟩ := mayE_ok he
    cases hg : GF x ((t - t % 60 + 60) / 86400) ((t - t % 60 + 60) % 86400 / 60) with
    | none => rw [hg] at h; cases h
    | some m =>
      rw [hg] at h
      have := from_lo x _ _ _ _ (by omega) (by omega) (by omega) hg
      injection h with h
      omega
  · rw [if_neg he] at h
    injection h with _ h
    exact absurd h he
def elig (tt : Int) (r : Rw) : Bool := !r.ov && decide (r.at' ≤ tt)
def better (L : List Rw) (b : Int) (r : Rw) : Bool := decide (b < 0) || (match L[b.toNat]? with | some q => decide (r.at' < q.at') | none => false)
/-- The place of the row that fires next among the first k; -1: none. -/
def bestF (tt : Int) (L : List Rw) : Nat → Int
  | 0 => -1
  | k + 1 => match L[k]? with
    | none => bestF tt L k
    | some r => if elig tt r = true ∧ better L (bestF tt L k) r = true then k else bestF tt L k
/-- The items of the rows, n at most, with their jobs. -/
def eachF : Nat → Int → List Rw → List (Int × Jb)
  | 0, _, _ => []
  | n + 1, tt, L => if bestF tt L L.length < 0 then [] else match L[(bestF tt L L.length).toNat]? with
    | none => []
    | some r => (r.at', r.j) :: eachF n tt (L.set (bestF tt L L.length).toNat (stepR r))
theorem best_spec (tt : Int) (L : List Rw) : ∀ k, k ≤ L.length → (bestF tt L k = -1 ∧ ∀ j (h : j < L.length), j < k → elig tt L[j] = false) ∨
    (∃ (i : Nat) (hi : i < L.length), bestF tt L k = i ∧ i < k ∧ elig tt L[i] = true ∧ ∀ j (h : j < L.length), j < k → elig tt L[j] = true → L[i].at' ≤ L[j].at' ∧ (j < i → L[i].at' < L[j].at')) := by
  intro k
  induction k with
  | zero => intro _; exact Or.inl ⟨rfl, fun j _ h => by omega⟩
  | succ k ih =>
    intro hk
    have hlt : k < L.length := by omega
    rw [bestF, List.getElem?_eq_getElem hlt]
    simp only []
    rcases ih (by omega) with ⟨h1, h2⟩ | ⟨i, hi, h1, h2, h3, h4⟩
    · rw [h1]
      by_cases he : elig tt L[k] = true
      · rw [if_pos ⟨he, by simp [better]⟩]
        refine Or.inr ⟨k, hlt, rfl, by omega, he, fun j h hj hje => ?_⟩
        by_cases e : j = k
        · subst e; exact ⟨by omega, by omega⟩
        · rw [h2 j h (by omega)] at hje; cases hje
      · rw [if_neg (fun h => he h.1)]
        refine Or.inl ⟨rfl, fun j h hj => ?_⟩
        by_cases e : j = k
        · subst e; simpa using he
        · exact h2 j h (by omega)
    · rw [h1]
      have hb : better L (i : Int) L[k] = decide (L[k].at' < L[i].at') := by
        unfold better
        rw [show ((i : Int).toNat) = i from rfl, List.getElem?_eq_getElem hi]
        simp
        omega
      by_cases he : elig tt L[k] = true ∧ better L (i : Int) L[k] = true
      · rw [if_pos he]
        obtain ⟨e1, e2⟩ := he
        rw [hb] at e2
        have e2 := of_decide_eq_true e2
        refine Or.inr ⟨k, hlt, rfl, by omega, e1, fun j h hj hje => ?_⟩
        by_cases e : j = k
        · subst e; exact ⟨by omega, by omega⟩
        · have := (h4 j h (by omega) hje).1
          exact ⟨by omega, fun _ => by omega⟩
      · rw [if_neg he]
        refine Or.inr ⟨i, hi, rfl, by omega, h3, fun j h hj hje => ?_⟩
        by_cases e : j = k
        · subst e
          have : ¬ (L[j].at' < L[i].at') := fun h' => he ⟨hje, by rw [hb]; exact decide_eq_true h'⟩
          exact ⟨by omega, by omega⟩
        · exact h4 j h (by omega) hje
theorem best_cases (tt : Int) (L : List Rw) : (bestF tt L L.length = -1 ∧ ∀ r ∈ L, elig tt r = false) ∨
    (∃ (i : Nat) (hi : i < L.length), bestF tt L L.length = i ∧ elig tt L[i] = true ∧ ∀ r ∈ L, elig tt r = true → L[i].at' ≤ r.at') := by
  rcases best_spec tt L L.length (Nat.le_refl _) with ⟨h1, h2⟩ | ⟨i, hi, h1, _, h3, h4⟩
  · refine Or.inl ⟨h1, fun r hr => ?_⟩
    obtain ⟨j, h, rfl⟩ := List.mem_iff_getElem.1 hr
    exact h2 j h h
  · refine Or.inr ⟨i, hi, h1, h3, fun r hr he => ?_⟩
    obtain ⟨j, h, rfl⟩ := List.mem_iff_getElem.1 hr
    exact (h4 j h h he).1
theorem each_none {n : Nat} {tt : Int} {L : List Rw} (h : bestF tt L L.length = -1) : eachF n tt L = [] := by
  cases n with
  | zero => rfl
  | succ n => rw [eachF, if_pos (by omega)]
theorem each_some {n : Nat} {tt : Int} {L : List Rw} {i : Nat} (hi : i < L.length) (h : bestF tt L L.length = i) :
    eachF (n + 1) tt L = (L[i].at', L[i].j) :: eachF n tt (L.set i (stepR L[i])) := by
  rw [eachF, if_neg (by omega), h, show ((i : Int).toNat) = i from rfl, List.getElem?_eq_getElem hi]
theorem step_lo {r : Rw} (h : (stepR r).ov = false) : r.at' - r.at' % 60 + 60 ≤ (stepR r).at' ∧ (stepR r).at' % 60 = 0 := by
  have h2 : (afterF r.x r.at').2 = 0 := by simpa [stepR] using h
  exact after_lo (x := r.x) (t := r.at') (n := (afterF r.x r.at').1) (by rw [← h2])
theorem mem_set {α : Type} {L : List α} {i : Nat} {a r : α} (h : r ∈ L.set i a) : r = a ∨ r ∈ L := by
  rcases List.mem_or_eq_of_mem_set h with h | h
  · exact Or.inr h
  · exact Or.inl h
theorem elig_iff {tt : Int} {r : Rw} : elig tt r = true ↔ r.ov = false ∧ r.at' ≤ tt := by simp [elig]
theorem each_mem (tt : Int) (p : Jb → Prop) (v : Int) : ∀ (n : Nat) (L : List Rw), (∀ r ∈ L, p r.j → r.ov = false → v ≤ r.at') → ∀ x ∈ eachF n tt L, p x.2 → v ≤ x.1 := by
  intro n
  induction n with
  | zero => intro L _ x hx; cases hx
  | succ n ih =>
    intro L hL x hx hp
    rcases best_cases tt L with ⟨h1, _⟩ | ⟨i, hi, h1, h3, _⟩
    · rw [each_none h1] at hx; cases hx
    · rw [each_some hi h1] at hx
      rcases List.mem_cons.1 hx with hx | hx
      · subst hx
        exact hL _ (List.getElem_mem hi) hp (elig_iff.1 h3).1
      · refine ih _ (fun r hr hpr ho => ?_) x hx hp
        rcases mem_set hr with rfl | hr
        · have := hL _ (List.getElem_mem hi) hpr (elig_iff.1 h3).1
          have := step_lo ho
          omega
        · exact hL r hr hpr ho
theorem each_le (tt : Int) : ∀ (n : Nat) (L : List Rw), ∀ x ∈ eachF n tt L, x.1 ≤ tt := by
  intro n
  induction n with
  | zero => intro L x hx; cases hx
  | succ n ih =>
    intro L x hx
    rcases best_cases tt L with ⟨h1, _⟩ | ⟨i, hi, h1, h3, _⟩
    · rw [each_none h1] at hx; cases hx
    · rw [each_some hi h1] at hx
      rcases List.mem_cons.1 hx with hx | hx
      · subst hx; exact (elig_iff.1 h3).2
      · exact ih _ x hx
theorem each_job (tt : Int) (p : Jb → Prop) : ∀ (n : Nat) (L : List Rw), (∀ r ∈ L, p r.j) → ∀ x ∈ eachF n tt L, p x.2 := by
  intro n
  induction n with
  | zero => intro L _ x hx; cases hx
  | succ n ih =>
    intro L hL x hx
    rcases best_cases tt L with ⟨h1, _⟩ | ⟨i, hi, h1, h3, _⟩
    · rw [each_none h1] at hx; cases hx
    · rw [each_some hi h1] at hx
      rcases List.mem_cons.1 hx with hx | hx
      · subst hx; exact hL _ (List.getElem_mem hi)
      · refine ih _ (fun r hr => ?_) x hx
        rcases mem_set hr with rfl | hr
        · show p L[i].j
          exact hL _ (List.getElem_mem hi)
        · exact hL r hr
theorem each_len (tt : Int) : ∀ (n : Nat) (L : List Rw), (eachF n tt L).length ≤ n := by
  intro n
  induction n with
  | zero => intro L; exact Nat.le_refl _
  | succ n ih =>
    intro L
    rcases best_cases tt L with ⟨h1, _⟩ | ⟨i, hi, h1, h3, _⟩
    · rw [each_none h1]; simp
    · rw [each_some hi h1, List.length_cons]
      have := ih (L.set i (stepR L[i]))
      omega
theorem each_sorted (tt : Int) : ∀ (n : Nat) (L : List Rw), (eachF n tt L).Pairwise (fun a b => a.1 ≤ b.1) := by
  intro n
  induction n with
  | zero => intro L; exact List.Pairwise.nil
  | succ n ih =>
    intro L
    rcases best_cases tt L with ⟨h1, _⟩ | ⟨i, hi, h1, h3, h4⟩
    · rw [each_none h1]; exact List.Pairwise.nil
    · rw [each_some hi h1]
      refine List.Pairwise.cons (fun x hx => ?_) (ih _)
      refine each_mem tt (fun _ => True) L[i].at' n _ (fun r hr _ ho => ?_) x hx trivial
      rcases mem_set hr with rfl | hr
      · have := step_lo ho; omega
      · by_cases ht : r.at' ≤ tt
        · exact h4 r hr (elig_iff.2 ⟨ho, ht⟩)
        · have := (elig_iff.1 h3).2; omega
theorem nodup_inj {α : Type} {l : List α} (h : l.Nodup) {i j : Nat} (hi : i < l.length) (hj : j < l.length) (e : l[i] = l[j]) : i = j := by
  have hp := List.pairwise_iff_getElem.1 h
  rcases Nat.lt_trichotomy i j with hlt | he | hlt
  · exact absurd e (hp i j hi hj hlt)
  · exact he
  · exact absurd e.symm (hp j i hj hi hlt)
theorem ids_set {L : List Rw} {i : Nat} (hi : i < L.length) : (L.set i (stepR L[i])).map (·.j.id) = L.map (·.j.id) := by
  rw [List.map_set, show (stepR L[i]).j.id = L[i].j.id from rfl]
  refine List.ext_getElem (by simp) fun k h1 h2 => ?_
  rw [List.getElem_set]
  split
  · subst_vars; simp
  · rfl
theorem each_apart (tt : Int) : ∀ (n : Nat) (L : List Rw), (L.map (·.j.id)).Nodup → (∀ r ∈ L, r.ov = false → r.at' % 60 = 0) → (eachF n tt L).Pairwise (fun a b => a.2.id = b.2.id → a.1 + 60 ≤ b.1) := by
  intro n
  induction n with
  | zero => intro L _ _; exact List.Pairwise.nil
  | succ n ih =>
    intro L hn h60
    rcases best_cases tt L with ⟨h1, _⟩ | ⟨i, hi, h1, h3, h4⟩
    · rw [each_none h1]; exact List.Pairwise.nil
    · rw [each_some hi h1]
      refine List.Pairwise.cons (fun x hx he => ?_) (ih _ (by rw [ids_set hi]; exact hn) (fun r hr ho => ?_))
      · have h0 := h60 _ (List.getElem_mem hi) (elig_iff.1 h3).1
        refine each_mem tt (fun j => L[i].j.id = j.id) (L[i].at' + 60) n _ (fun r hr hp ho => ?_) x hx he
        obtain ⟨k, hk, rfl⟩ := List.mem_iff_getElem.1 hr
        have hk' : k < L.length := by simpa using hk
        by_cases e : k = i
        · subst e
          rw [List.getElem_set_self] at ho ⊢
          have := step_lo ho
          omega
        · rw [List.getElem_set_ne (Ne.symm e)] at hp
          exfalso
          exact e (nodup_inj hn (i := k) (j := i) (by simpa using hk') (by simpa using hi) (by simpa using hp.symm))
      · rcases mem_set hr with rfl | hr
        · exact (step_lo ho).2
        · exact h60 r hr ho
end Go.Proofs.YtceddjpaddcjiaaGreatDoor

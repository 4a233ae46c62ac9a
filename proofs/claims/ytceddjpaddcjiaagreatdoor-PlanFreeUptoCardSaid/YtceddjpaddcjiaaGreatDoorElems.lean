/- Slices whose elements are known, one list of cells each. -/
import Derived.Test.YtceddjpaddcjiaaGreatDoorBase
import Derived.Deep.AppendLies
import Derived.Deep.MidRow
namespace Go.Proofs.YtceddjpaddcjiaaGreatDoor
open Go.RowKit
def ElemsAt {α : Type} (sz : Nat) (C : α → List Value) (w : World) (n : Nat) (p : Option Addr) (l : List α) : Prop :=
  l = [] ∨ ∃ b o, p = some ⟨b, o, none⟩ ∧ b < n ∧ ∀ i (h : i < l.length) k v, (C l[i])[k]? = some v → w.cell? ⟨b, o + i * sz + k, none⟩ = some v
theorem elems_keep {α : Type} {sz : Nat} {C : α → List Value} {w w' : World} {n : Nat} {p : Option Addr} {l : List α} (h : ElemsAt sz C w n p l) (hb : Below n w w') : ElemsAt sz C w' n p l := by
  rcases h with h | ⟨b, o, rfl, hl, h⟩
  · exact Or.inl h
  · exact Or.inr ⟨b, o, rfl, hl, fun i hi k v hv => (show w'.cell? ⟨b, o + i * sz + k, none⟩ = w.cell? ⟨b, o + i * sz + k, none⟩ by simp [World.cell?, hb.block b hl]).trans (h i hi k v hv)⟩
theorem elems_mono {α : Type} {sz : Nat} {C : α → List Value} {w : World} {n m : Nat} {p : Option Addr} {l : List α} (h : ElemsAt sz C w n p l) (hm : n ≤ m) : ElemsAt sz C w m p l := by
  rcases h with h | ⟨b, o, rfl, hl, h⟩
  · exact Or.inl h
  · exact Or.inr ⟨b, o, rfl, by omega, h⟩
theorem flat_len {α : Type} {sz : Nat} {C : α → List Value} (hC : ∀ x, (C x).length = sz) (l : List α) : (l.flatMap C).length = l.length * sz := by
  induction l with
  | nil => simp
  | cons x l ih => rw [List.flatMap_cons, List.length_append, ih, hC, List.length_cons, Nat.succ_mul]; omega
theorem flat_at {α : Type} {sz : Nat} {C : α → List Value} (hC : ∀ x, (C x).length = sz) : ∀ (l : List α) (i : Nat) (h : i < l.length) (k : Nat) (v : Value), (C l[i])[k]? = some v → (l.flatMap C)[i * sz + k]? = some v
  | x :: l, 0, _, k, v, hv => by
    have hk := (List.getElem?_eq_some_iff.1 hv).1
    have hv' : (C x)[k]? = some v := hv
    have hk' : k < (C x).length := hk
    rw [List.flatMap_cons, List.getElem?_append_left (by omega)]
    simpa using hv'
  | x :: l, i + 1, h, k, v, hv => by
    have ih := flat_at hC l i (by simpa using h) k v (by simpa using hv)
    rw [List.flatMap_cons, List.getElem?_append_right (by rw [hC, Nat.succ_mul]; omega), hC, show (i + 1) * sz + k - sz = i * sz + k by rw [Nat.succ_mul]; omega]
    exact ih
theorem elems_own {α : Type} {sz : Nat} {C : α → List Value} {w : World} {base : Nat} {e : TypeId} {v : Value} {l : List α} (hC : ∀ x, (C x).length = sz) (h : w.ownsRow base e sz v l.length (l.flatMap C)) :
    ∃ p c, v = .slice p l.length c ∧ ElemsAt sz C w w.heap.size p l := by
  obtain ⟨h1, ⟨hv, h0⟩ | ⟨g, cap, cur, hv, hb, hg, hcap, hmax, hcs, htake⟩⟩ := h
  · have hl : l = [] := List.length_eq_zero_iff.1 h0
    subst hl
    exact ⟨none, 0, hv, Or.inl rfl⟩
  · refine ⟨_, cap, hv, Or.inr ⟨g, 0, rfl, (Array.getElem?_eq_some_iff.1 hg).1, fun i hi k u hu => ?_⟩⟩
    have h2 := flat_at hC l i hi k u hu
    rw [← htake, List.getElem?_take] at h2
    split at h2
    · simp only [World.cell?, hg]
      rw [Nat.zero_add]
      simpa using h2
    · cases h2
/-- A slice's block, if it has one, lies at or beyond a height. -/
def Fresh (n : Nat) (p : Option Addr) : Prop := ∀ a, p = some a → n ≤ a.block
theorem own_fresh {w : World} {base : Nat} {e : TypeId} {sz n : Nat} {p : Option Addr} {m c : Nat} {xs : List Value} (h : w.ownsRow base e sz (.slice p m c) n xs) : Fresh base p := by
  obtain ⟨-, ⟨hv, -⟩ | ⟨g, cap, cur, hv, hb, -⟩⟩ := h
  · injection hv with hv
    subst hv
    intro a h; cases h
  · injection hv with hv
    subst hv
    intro a h
    injection h with h
    subst h
    exact hb
theorem elems_at {α : Type} {sz : Nat} {C : α → List Value} {w : World} {n b o : Nat} {l : List α} (h : ElemsAt sz C w n (some ⟨b, o, none⟩) l) (i : Nat) (hi : i < l.length) : w.rangeAt b (o + i * sz) (C l[i]) := by
  rcases h with h | ⟨b', o', e, _, h⟩
  · rw [h] at hi; simp at hi
  · injection e with e
    injection e with e1 e2
    subst e1 e2
    exact fun k v hv => h i hi k v hv
theorem elems_len {α : Type} {l : List α} {i : Nat} (h : i < l.length) : l ≠ [] := by
  intro e; rw [e] at h; simp at h
end Go.Proofs.YtceddjpaddcjiaaGreatDoor

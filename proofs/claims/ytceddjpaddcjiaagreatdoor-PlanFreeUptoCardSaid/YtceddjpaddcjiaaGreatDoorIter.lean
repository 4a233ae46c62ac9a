/- A range over a function whose iterator keeps blocks of its own that it writes between two rounds: what each side may turn is told by a predicate on blocks. -/
import Derived.Test.YtceddjpaddcjiaaGreatDoorBase
import Derived.RangeFuncNested
import Derived.RangeFuncBound
import Derived.RangeFuncCalls
import Derived.RangeFuncLeaves
import Derived.Maps.AppendAt
namespace Go.Proofs.YtceddjpaddcjiaaGreatDoor
open Go.RowKit
/-- Whatever M does not name lies as it lay. -/
structure Keeps (M : Nat → Obj → Prop) (W W' : World) : Prop where
  os : W'.os = W.os
  tape : W'.tape = W.tape
  output : W'.output = W.output
  size : W.heap.size ≤ W'.heap.size
  same : ∀ k o, W.heap[k]? = some o → ¬ M k o → W'.heap[k]? = some o
section
variable {M : Nat → Obj → Prop} {A B C : World}
theorem Keeps.refl (M : Nat → Obj → Prop) (A : World) : Keeps M A A := ⟨rfl, rfl, rfl, Nat.le_refl _, fun _ _ h _ => h⟩
theorem Keeps.trans (h : Keeps M A B) (k : Keeps M B C) : Keeps M A C :=
  ⟨k.os.trans h.os, k.tape.trans h.tape, k.output.trans h.output, Nat.le_trans h.size k.size, fun i o hi hm => k.same i o (h.same i o hi hm) hm⟩
theorem Keeps.alloc (h : Keeps M A B) (o : Obj) : Keeps M A (B.alloc o) :=
  h.trans ⟨rfl, rfl, rfl, by simp, fun k _ hk _ => (Below.heap_alloc B o k (Array.getElem?_eq_some_iff.1 hk).1).trans hk⟩
theorem Keeps.drew (h : Keeps M A B) : Keeps M A B.drew := ⟨h.os, h.tape, h.output, h.size, h.same⟩
theorem Keeps.below (h : Keeps M A B) (k : Below B.heap.size B C) : Keeps M A C :=
  h.trans ⟨k.os, k.tape, k.output, k.size, fun i _ hi _ => (k.block i (Array.getElem?_eq_some_iff.1 hi).1).trans hi⟩
theorem Keeps.turn {l : Nat} {o : Obj} (h : Keeps M A B) (hl : B.heap[l]? = some o) (hm : M l o) (o' : Obj) : Keeps M A (B.putObj l o') :=
  h.trans ⟨rfl, rfl, rfl, by simp, fun k x hk hx => by
    by_cases e : k = l
    · subst e; rw [hl] at hk; injection hk with hk; subst hk; exact absurd hm hx
    · exact (World.putObj_heap_other e).trans hk⟩
theorem Keeps.setCell {o : Obj} (h : Keeps M A B) {a : Addr} (hl : B.heap[a.block]? = some o) (hm : M a.block o) (u : Value) : Keeps M A (B.setCell a u) :=
  h.trans ⟨rfl, rfl, rfl, (KeepsWalks.setCell B a u).size, fun k x hk hx => by
    by_cases e : k = a.block
    · subst e; rw [hl] at hk; injection hk with hk; subst hk; exact absurd hm hx
    · exact (Below.heap_setCell B a u k e).trans hk⟩
theorem Keeps.grown {row : Option Nat} (h : Keeps M A B) (hg : B.grownBy C row) (hr : ∀ k o, row = some k → B.heap[k]? = some o → M k o) : Keeps M A C :=
  h.trans ⟨hg.os, hg.tape, hg.output, hg.size, fun k x hk hx => (hg.block k (Array.getElem?_eq_some_iff.1 hk).1 (fun e => hx (hr k x e.symm hk))).trans hk⟩
theorem Keeps.mono {M' : Nat → Obj → Prop} (h : Keeps M A B) (hm : ∀ k o, A.heap[k]? = some o → M k o → M' k o) : Keeps M' A B :=
  ⟨h.os, h.tape, h.output, h.size, fun k o hk hx => h.same k o hk (fun h' => hx (hm k o hk h'))⟩
theorem Keeps.toBelow {n : Nat} (h : Keeps M A B) (hn : n ≤ A.heap.size) (hm : ∀ k o, k < n → ¬ M k o) : Below n A B :=
  ⟨h.os, h.tape, h.output, h.size, fun k hk => by
    have h1 : A.heap[k]? = some A.heap[k] := Array.getElem?_eq_getElem (by omega)
    rw [h1]; exact h.same k _ h1 (hm k _ hk)⟩
end
/-- J does not mind what M names. -/
def Minds {α : Type} (M : Nat → Obj → Prop) (J : α → World → Prop) : Prop := ∀ s W W', J s W → Keeps M W W' → J s W'
variable {F : Fence} {n : Nat} {P : Program}
/-- The iterator's contract: Mi: what it may turn; Mb: what a round may. -/
def SeqM {α : Type} (F : Fence) (n : Nat) (P : Program) (g : Nat) (lb : Array Value) (encs : α → Array Value) (G : α → Prop) (Mi Mb : Nat → Obj → Prop) (N : Nat) (S : List α → Prop) (w : World) : Prop :=
  ∀ (l : Nat) (J Jx : List α → World → Prop) (W : World), Below w.heap.size w W → Minds Mi J → Minds Mi Jx →
    (∀ pre x W1, J pre W1 → G x → YieldAt F (n - 1) P l (encs x) W1 fun e W' =>
      (e = .returned (.bool true) ∧ J (pre ++ [x]) W' ∧ Keeps Mb W1 W' ∧ pre.length + 1 < N) ∨ (e = .returned (.bool false) ∧ Jx (pre ++ [x]) W' ∧ pre.length + 1 = N)) →
    J [] W →
    CallsIn F n P g (#[.func (.yield l) #[] #[]] ++ lb) W fun e W' => (∃ v, e = .returned v) ∧ ((∃ xs, xs.length < N ∧ S xs ∧ J xs W') ∨ (∃ xs, xs.length = N ∧ S xs ∧ Jx xs W'))
/-- THE STATEMENT, by the iterator's contract: id: the break's block. -/
theorem wpIn_rangeFunc_M {α : Type} {g : Operand} {ps : Array Tmp} {assign body : Code} {Q : Exit → Act → World → Prop} {a : Act} {w : World} (id : Nat)
    (hro : F.round = none) (h1 : 1 ≤ n) {gf : Nat} {lb : Array Value} (hg : a.eval g = .func (.func gf) #[] lb) (hFg : F.fn gf) (eg : ∀ args w, (callFunc gf args).run P w = .ok (.enter gf args) w)
    {encs : α → Array Value} {G : α → Prop} {Mi Mb : Nat → Obj → Prop} {S : List α → Prop} {N : Nat} (hseq : SeqM F (n - 1) P gf lb encs G Mi Mb N S w)
    (hMi : ∀ k o, o.isCells = false → ¬ Mi k o) (hps : ∀ x, (encs x).size = ps.size)
    (I Ix : List α → World → Prop) (hI : Minds (fun k o => w.heap.size ≤ k ∧ (Mi k o ∨ o.isCells = false)) I) (hIx : Minds (fun k o => w.heap.size ≤ k ∧ (Mi k o ∨ o.isCells = false)) Ix) (hMil : ∀ k o, Mi k o → w.heap.size ≤ k)
    (h0 : I [] w) (Ax : List α → α → Act → World → Prop) (hAx : ∀ pre x a', Minds (fun k o => w.heap.size ≤ k ∧ (Mi k o ∨ o.isCells = false)) (fun (_ : Unit) W => Ax pre x a' W))
    (hassign : ∀ (l : Nat) (pre : List α) (x : α) (W : World) (K : Act → World → Prop), I pre W → (∀ a' W', Keeps (fun k o => Mb k o ∧ o.isCells = true) W W' → Ax pre x a' W' → K a' W') →
      assign.wpIn (F.inRound l) (n - 1 - 1) P (Exit.then K (fun _ _ _ => False)) { tmps := (ps.zip (encs x)).foldl (fun t (p, v) => t.setIfInBounds p v) a.tmps, defers := [] } W)
    (hMb : ∀ k o, w.heap.size ≤ k → o.isCells = false → Mb k o)
    (hbody : ∀ (l : Nat) (pre : List α) (x : α) (a' : Act) (W : World), G x → Ax pre x a' W →
      body.wpIn (F.inRound l) (n - 1 - 1) P (fun e a' W' => match e with
        | .normal => Keeps (fun k o => Mb k o ∧ o.isCells = true) W W' ∧ I (pre ++ [x]) W' ∧ pre.length + 1 < N
        | .exit i => i = id ∧ Keeps (fun k o => Mb k o ∧ o.isCells = true) W W' ∧ Ix (pre ++ [x]) W' ∧ pre.length + 1 = N
        | _ => False) a' W)
    (hdone : ∀ (D : Nat) (xs : List α) (W : World), w.heap.size ≤ D → S xs → xs.length < N → I xs W → W.heap[D]? = some (.deferred (some [])) → Q .normal { a with defers := { target := .collected D, args := #[] } :: a.defers } W)
    (hstop : ∀ (D : Nat) (xs : List α) (W : World), w.heap.size ≤ D → S xs → xs.length = N → Ix xs W → W.heap[D]? = some (.deferred (some [])) → (Code.exit id).wpIn F n P Q { a with defers := { target := .collected D, args := #[] } :: a.defers } W) :
    (Code.rangeFunc g ps assign body).wpIn F n P Q a w := by
  refine wpIn_rangeFunc ?_
  intro fn hfn
  rw [hro]
  obtain ⟨rec, hrec⟩ : ∃ rec : LoopState → Option Code → Loop, rec = fun st pe => { state := st, pending := pe, fn, tmps := a.tmps, params := ps, assign, body, defers := w.heap.size } := ⟨_, rfl⟩
  obtain ⟨W1, hW1⟩ : ∃ W1, (w.alloc (.deferred (some []))).alloc (.loop (rec .ready none)) = W1 := ⟨_, rfl⟩
  have hL1 : W1.heap[w.heap.size + 1]? = some (.loop (rec .ready none)) := by
    rw [← hW1]; have := World.alloc_heap_new (w.alloc (.deferred (some []))) (.loop (rec .ready none)); rwa [World.size_alloc] at this
  have hD1 : W1.heap[w.heap.size]? = some (.deferred (some [])) := by
    rw [← hW1]; exact (Below.heap_alloc _ _ _ (by simp)).trans (World.alloc_heap_new w _)
  have hI1 : I [] W1 := hI _ _ _ h0 (by rw [← hW1]; exact ((Keeps.refl _ _).alloc _).alloc _)
  have hb1 : Below w.heap.size w W1 := by rw [← hW1]; exact ((Below.refl _ w).alloc (Nat.le_refl _) _).alloc (by simp) _
  refine ⟨w.heap.size + 1, [{ target := .collected w.heap.size, args := #[] }], W1, { target := .fn (.func gf) lb, args := #[.func (.yield (w.heap.size + 1)) #[] #[]] }, W1, gf,
    #[.func (.yield (w.heap.size + 1)) #[] #[]] ++ lb, W1, ?_, ?_, ?_, ?_, fun _ => h1, ?_⟩
  · rw [← hW1, hrec]; exact run_enterLoop_outer _ _ _ _ _
  · simp only [resolve, hg]
    simp [go_sem]
  · intro f' hf'; simp [Target.leads] at hf'; subst hf'; exact hFg
  · simp [invoke, go_sem, eg]
  · have up : ∀ {A B : World}, Keeps Mi A B → Keeps (fun k o => w.heap.size ≤ k ∧ (Mi k o ∨ o.isCells = false)) A B := fun h => h.mono (fun k o _ hm => ⟨hMil k o hm, Or.inl hm⟩)
    have rec_keep : ∀ {A B : World} {k : Nat} {o : Obj}, Keeps Mi A B → A.heap[k]? = some o → o.isCells = false → B.heap[k]? = some o := fun h hk ho => h.same _ _ hk (hMi _ _ ho)
    refine (hseq (w.heap.size + 1)
      (fun pre W => I pre W ∧ W.heap[w.heap.size + 1]? = some (.loop (rec .ready none)) ∧ W.heap[w.heap.size]? = some (.deferred (some [])))
      (fun pre W => Ix pre W ∧ W.heap[w.heap.size + 1]? = some (.loop (rec .done (some (.exit id)))) ∧ W.heap[w.heap.size]? = some (.deferred (some [])))
      W1 hb1
      (fun s A B hs hk => ⟨hI _ _ _ hs.1 (up hk), rec_keep hk hs.2.1 rfl, rec_keep hk hs.2.2 rfl⟩)
      (fun s A B hs hk => ⟨hIx _ _ _ hs.1 (up hk), rec_keep hk hs.2.1 rfl, rec_keep hk hs.2.2 rfl⟩)
      ?_ ⟨hI1, hL1, hD1⟩).mono ?_
    · rintro pre x W ⟨hi, hl, hd⟩ hG
      have hlt : w.heap.size + 1 < W.heap.size := (Array.getElem?_eq_some_iff.1 hl).1
      have hy := run_yield (P := P) (args := encs x) hl (by rw [hrec]; exact hps x)
      rw [hrec] at hy
      refine ⟨fn, _, assign, body, hy, roundIn_of_wpIn hfn (hassign _ pre x W _ hi ?_)⟩
      clear hy
      intro a' Wa hka hax
      have hl := hka.same _ _ hl (by rintro ⟨_, h⟩; cases h)
      have hd := hka.same _ _ hd (by rintro ⟨_, h⟩; cases h)
      have ka : Keeps Mb W Wa := hka.mono (fun _ _ _ h => h.1)
      refine ⟨_, run_beginRound hl (by rw [hrec]), ?_⟩
      clear hi hka
      have hlt : w.heap.size + 1 < Wa.heap.size := (Array.getElem?_eq_some_iff.1 hl).1
      have hl2 : (Wa.putObj (w.heap.size + 1) (.loop { rec .ready none with state := .busy })).heap[w.heap.size + 1]? = some (.loop { rec .ready none with state := .busy }) := World.putObj_heap_same hlt
      have hd2 : (Wa.putObj (w.heap.size + 1) (.loop { rec .ready none with state := .busy })).heap[w.heap.size]? = some (.deferred (some [])) := (World.putObj_heap_other (by omega)).trans hd
      have hi2 := hAx pre x a' () _ _ hax (Keeps.turn (Keeps.refl _ _) hl ⟨by omega, Or.inr rfl⟩ (.loop { rec .ready none with state := .busy }))
      have kb : Keeps Mb W (Wa.putObj (w.heap.size + 1) (.loop { rec .ready none with state := .busy })) := Keeps.turn ka hl (hMb _ _ (by omega) rfl) _
      generalize Wa.putObj (w.heap.size + 1) (.loop { rec .ready none with state := .busy }) = W2 at *
      refine wpIn_mono (hbody _ pre x a' _ hG hi2) ?_
      have fin : ∀ (jump : Option Code) (W3 : World), Keeps (fun k o => Mb k o ∧ o.isCells = true) W2 W3 →
          (Instr.endRound (w.heap.size + 1) jump).run P W3 = .ok (.bool jump.isNone) (W3.putObj (w.heap.size + 1) (.loop (rec (if jump.isNone then .ready else .done) jump))) ∧
          W3.heap[w.heap.size + 1]? = some (.loop { rec .ready none with state := .busy }) ∧
          (W3.putObj (w.heap.size + 1) (.loop (rec (if jump.isNone then .ready else .done) jump))).heap[w.heap.size + 1]? = some (.loop (rec (if jump.isNone then .ready else .done) jump)) ∧
          (W3.putObj (w.heap.size + 1) (.loop (rec (if jump.isNone then .ready else .done) jump))).heap[w.heap.size]? = some (.deferred (some [])) := fun jump W3 hk3 => by
        have hl3 := hk3.same _ _ hl2 (by rintro ⟨_, h⟩; cases h)
        have hd3 := hk3.same _ _ hd2 (by rintro ⟨_, h⟩; cases h)
        have := run_endRound (P := P) jump hl3
        rw [hrec] at this ⊢
        exact ⟨this, by rw [hrec] at hl3; exact hl3, World.putObj_heap_same (Array.getElem?_eq_some_iff.1 hl3).1, (World.putObj_heap_other (by omega)).trans hd3⟩
      rintro e a3 W3 hp
      cases e with
      | normal =>
        obtain ⟨hk3, hi3, hN⟩ := hp
        obtain ⟨hr, hl3, hl4, hd4⟩ := fin none W3 hk3
        exact ⟨_, _, hr, .inl ⟨rfl, ⟨hI _ _ _ hi3 (Keeps.turn (Keeps.refl _ _) hl3 ⟨by omega, Or.inr rfl⟩ _), hl4, hd4⟩,
          (kb.trans (hk3.mono (fun _ _ _ h => h.1))).turn hl3 (hMb _ _ (by omega) rfl) _, hN⟩⟩
      | exit i =>
        obtain ⟨rfl, hk3, hi3, hN⟩ := hp
        obtain ⟨hr, hl3, hl4, hd4⟩ := fin (some (.exit i)) W3 hk3
        exact ⟨_, _, hr, .inr ⟨rfl, ⟨hIx _ _ _ hi3 (Keeps.turn (Keeps.refl _ _) hl3 ⟨by omega, Or.inr rfl⟩ _), hl4, hd4⟩, hN⟩⟩
      | ret => exact hp.elim
      | goto t => exact hp.elim
      | panic ch => exact hp.elim
      | outgrown => exact hp.elim
    · rintro e W2 ⟨⟨v, rfl⟩, (⟨xs, hN, hS, hi, hl, hd⟩ | ⟨xs, hN, hS, hi, hl, hd⟩)⟩
      · exact ⟨none, _, by have := run_endLoop (P := P) hl (by rw [hrec]; simp); rw [hrec] at this; exact this, hdone _ xs _ (Nat.le_refl _) hS hN (hI _ _ _ hi (Keeps.turn (Keeps.refl _ _) hl ⟨by omega, Or.inr rfl⟩ _)) ((World.putObj_heap_other (by omega)).trans hd)⟩
      · exact ⟨some (.exit id), _, by have := run_endLoop (P := P) hl (by rw [hrec]; simp); rw [hrec] at this; exact this, hstop _ xs _ (Nat.le_refl _) hS hN (hIx _ _ _ hi (Keeps.turn (Keeps.refl _ _) hl ⟨by omega, Or.inr rfl⟩ _)) ((World.putObj_heap_other (by omega)).trans hd)⟩
end Go.Proofs.YtceddjpaddcjiaaGreatDoor

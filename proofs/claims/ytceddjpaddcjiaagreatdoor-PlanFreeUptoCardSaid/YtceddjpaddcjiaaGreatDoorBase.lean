/- Plain words that all walks of this seat use: worlds in which what lay before lies unturned; a region that draws its order, walked once. -/
import Derived.Test.YtceddjpaddcjiaaGreatDoorProg
import Derived.WalkKit
import Derived.Deep.QuietTactic
import Derived.BigQuiet
import Derived.Handy
import Derived.WalkSpells
import Derived.Lib.Hide
namespace Go.Proofs.YtceddjpaddcjiaaGreatDoor
open Go.RowKit
/-- A world in which all that lay in w lies as it lay. -/
structure Later (w : World) where
  u : World
  below : Below w.heap.size w u
instance (w : World) : Inhabited (Later w) := ⟨⟨w, Below.refl _ _⟩⟩
theorem via {B : Nat} {w W1 w2 : World} (h : Below B w W1) (hB : B ≤ W1.heap.size) (k : Below W1.heap.size W1 w2) : Below B w w2 :=
  h.trans (k.mono hB)
theorem Later.cellp {w : World} {p : Addr} {v : Value} (h : w.cell? p = some v) (u : Later w) : u.u.cell? p = some v :=
  (u.below.cell (World.block_lt_of_cell? w p h)).trans h
theorem later_size {w : World} (u : Later w) : w.heap.size ≤ u.u.heap.size := u.below.size
theorem region_later {P : Program} {id : Nat} {Q : Exit → Act → World → Prop} {a : Act} {w : World} {l : List Oper} (hm : P.follows .mixedOrders = true) (hB : Region.lexB .any l.toArray = true)
    (h : wpQuiet P l.toArray (fun w' => ∃ u : Later w, w' = u.u) (fun a' => ∀ w', (∃ u : Later w, w' = u.u) → Q .normal a' w') l a) : (Code.region id l.toArray true).wp P Q a w :=
  wp_region_quiet (C := fun w' => ∃ u : Later w, w' = u.u) hm hB ⟨⟨w.drew, (Below.refl _ _).drew⟩, rfl⟩ (by simpa using h)
/-- A callee's contract, met in a later world. -/
theorem later_call {P : Program} {f : FuncId} {args : Array Value} {w : World} {u : Later w} {v : Value}
    (h : Calls P f args u.u fun e w' => e = .returned v ∧ Below u.u.heap.size u.u w') : Calls P f args u.u fun e w'' => e = .returned v ∧ ∃ u' : Later w, w'' = u'.u :=
  h.mono fun _ w2 ⟨he, hb⟩ => ⟨he, ⟨w2, via u.below u.below.size hb⟩, rfl⟩
theorem bcell {W w1 : World} (hb : Below W.heap.size W w1) : (∀ b o, b < W.heap.size → w1.cell? ⟨b, o, none⟩ = W.cell? ⟨b, o, none⟩) ∧ (∀ b o, b < W.heap.size → w1.frozen? ⟨b, o, none⟩ = W.frozen? ⟨b, o, none⟩) :=
  ⟨fun b o h => hb.cell (p := ⟨b, o, none⟩) h, fun b o h => hb.frozen (p := ⟨b, o, none⟩) h⟩
theorem vi {w W1 w2 : World} (h : Below w.heap.size w W1) (k : Below W1.heap.size W1 w2) : Below w.heap.size w w2 := via h h.size k
theorem al {w W : World} (h : Below w.heap.size w W) (o : Obj) : Below w.heap.size w (W.alloc o) := h.alloc h.size o
theorem a0 (w : World) (o : Obj) : Below w.heap.size w (w.alloc o) := al (Below.refl _ _) o
theorem blk_new (w : World) (o : Obj) : (w.alloc o).heap[w.heap.size]? = some o := by
  show (w.heap.push o)[w.heap.size]? = some o
  simp
/-- A block that lay lies in every later world. -/
theorem blk_below {w u : World} {B k : Nat} {o : Obj} (h : w.heap[k]? = some o) (hb : Below B w u) (hk : k < B) : u.heap[k]? = some o := (hb.block k hk).trans h
theorem blk_lt {w : World} {k : Nat} {o : Obj} (h : w.heap[k]? = some o) : k < w.heap.size := (Array.getElem?_eq_some_iff.1 h).1
theorem blk_keep {w u : World} {k : Nat} {o : Obj} (h : w.heap[k]? = some o) (hb : Below w.heap.size w u) : u.heap[k]? = some o := blk_below h hb (blk_lt h)
theorem blk_alloc {w : World} {k : Nat} {o o' : Obj} (h : w.heap[k]? = some o) : (w.alloc o').heap[k]? = some o := (Below.heap_alloc w o' k (blk_lt h)).trans h
theorem blk_cell {w : World} {k : Nat} {cs : Array Value} {t : TypeId} {fr : Nat × Nat} (h : w.heap[k]? = some (.cells cs t fr)) (o : Nat) : w.cell? ⟨k, o, none⟩ = cs[o]? := by simp [World.cell?, h]
theorem blk_free {w : World} {k : Nat} {cs : Array Value} {t : TypeId} (h : w.heap[k]? = some (.cells cs t (0, 0))) (o : Nat) : w.frozen? ⟨k, o, none⟩ = false := by simp [World.frozen?, h]
theorem later_blk {w : World} {k : Nat} {cs : Array Value} {t : TypeId} {fr : Nat × Nat} (h : w.heap[k]? = some (.cells cs t fr)) (u : Later w) (o : Nat) : u.u.cell? ⟨k, o, none⟩ = cs[o]? := blk_cell (blk_keep h u.below) o
theorem drewN_keep (w : World) : ∀ n, Below w.heap.size w (w.drewN n)
  | 0 => Below.refl _ _
  | n + 1 => (drewN_keep w n).drew
end Go.Proofs.YtceddjpaddcjiaaGreatDoor

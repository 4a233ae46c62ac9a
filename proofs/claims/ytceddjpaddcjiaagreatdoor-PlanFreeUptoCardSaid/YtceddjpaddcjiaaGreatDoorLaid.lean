/- The listed variables: what the list gives; a world that holds them, for the witness. -/
import Derived.Test.YtceddjpaddcjiaaGreatDoorRows
import Derived.Test.YtceddjpaddcjiaaGreatDoorNum
import Derived.Lib.LaidTab
import Derived.Lib.LaidIn
import Derived.Lib.LaidU8T
import Derived.PinnedBridge
import Derived.Stop.LaidErr
import Derived.ProofKit
namespace Go.Proofs.YtceddjpaddcjiaaGreatDoor
open Go.ChangeShapes Go.WideShapes Go.ChangeAt Go.RowKit Go.Lib Go.Shelf
abbrev theLaid : List (String × DataW Unit) := Rows.planFreeRow.laid
def u8Ren : Go.Shelf.Ren := ⟨fun n => n, fun | 5 => 5 | 119 => 251 | 138 => 253 | 139 => 254 | n => n, fun | 3 => 2 | 4 => 3 | n => n⟩
theorem u8Types : U8Types Tryz.prog u8Ren := ⟨by kernel_rfl, by kernel_rfl, by kernel_rfl, by kernel_rfl⟩
theorem u8Extra : U8Extra Tryz.prog u8Ren := ⟨by kernel_rfl, by kernel_rfl, by kernel_rfl, by kernel_rfl, by kernel_rfl, by kernel_rfl, by kernel_rfl⟩
theorem db64_eq : Rows.laid_math_bits_deBruijn64tab (H := Unit) = Lib.tabData .u8 (Lib.deBruijn64tab.map Int.ofNat) := by kernel_rfl
theorem accept_eq : Rows.laid_unicode_utf8_acceptRanges (H := Unit) = acceptData := by kernel_rfl
theorem first_eq : Rows.laid_unicode_utf8_first = firstData := Pinned.utf8First_eq
/-- What the list gives. -/
theorem env_of_laid {W : World} (h : laidMet Tryz.prog theLaid W) (hs : W.ShapedOpen Tryz.prog) : Env W := by
  refine ⟨?_, ?_, ?_⟩
  · have h1 : laidMet Tryz.prog (("math/bits.deBruijn64tab", Lib.tabData .u8 (Lib.deBruijn64tab.map Int.ofNat)) :: theLaid.drop 2) W := by rw [← db64_eq]; exact h.tail
    have ht := Lib.tabIs_of_head (g := 0) (by kernel_rfl) (by kernel_rfl) Tryz.underlying204 Tryz.underlying5 (by kernel_rfl) (by kernel_rfl) h1
    intro j hj
    have := ht.cell (g := 0) (by kernel_rfl) j (by simpa using hj)
    rw [this]
    simp [List.getD_eq_getElem?_getD, hj]
  · exact Go.Proofs.cell_of_shapedOpen_int (zero := #[.int .i64 0]) (t := 3) hs (of_decide_eq_true (by kernel_rfl)) (by kernel_rfl) rfl (by kernel_rfl) (by kernel_rfl) Tryz.underlying3
  · have ha : VarReads Tryz.prog W "unicode/utf8.acceptRanges" acceptData := by
      rw [← accept_eq]; exact Lib.laidMet.reads h (.tail _ (.tail _ (.tail _ (.head _))))
    have hf : VarReads Tryz.prog W "unicode/utf8.first" firstData := by
      rw [← first_eq]; exact Lib.laidMet.reads h (.tail _ (.tail _ (.tail _ (.tail _ (.tail _ (.tail _ (.head _)))))))
    exact utf8Tabs_of_readsT (ρ := u8Ren) u8Types u8Extra hf ha
def rangeText : ByteArray := ⟨#[118, 97, 108, 117, 101, 32, 111, 117, 116, 32, 111, 102, 32, 114, 97, 110, 103, 101]⟩
def syntaxText : ByteArray := ⟨#[105, 110, 118, 97, 108, 105, 100, 32, 115, 121, 110, 116, 97, 120]⟩
def intsOf : DataW Unit → Array Value
  | .agg l => (l.map fun | .lit (.int k n) => Value.int k n | .agg [.lit (.int k n), .lit (.int _ _)] => Value.int k n | _ => undef).toArray
  | _ => #[]
def pairsOf : DataW Unit → Array Value
  | .agg l => (l.flatMap fun | .agg [.lit (.int k n), .lit (.int k' n')] => [Value.int k n, Value.int k' n'] | _ => []).toArray
  | _ => #[]
/-- THE WITNESS: the settled world with the two errors' structs, the listed variables holding what their initialisers lay. -/
noncomputable def laidWorld (os : Os) : World :=
  let N := (World.settled Tryz.prog os).heap.size
  let w0 := World.holding Tryz.prog os ⟨#[.cells #[.string rangeText] 282, .cells #[.string syntaxText] 282], #[], []⟩
  let put (h : Array Obj) (g : Nat) (cs : Array Value) : Array Obj := h.modify g fun
    | .cells _ t frozen => .cells cs t frozen
    | o => o
  let h1 := put w0.heap 7 (intsOf Rows.laid_math_bits_deBruijn32tab)
  let h2 := put h1 0 (intsOf Rows.laid_math_bits_deBruijn64tab)
  let h3 := put h2 6 (intsOf Rows.laid_internal_strconv_uint64pow10)
  let h4 := put h3 3 (pairsOf Rows.laid_unicode_utf8_acceptRanges)
  let h5 := put h4 5 #[.iface 280 (.pointer (some ⟨N, 0, none⟩))]
  let h6 := put h5 4 #[.iface 280 (.pointer (some ⟨N + 1, 0, none⟩))]
  let h7 := put h6 2 (intsOf Rows.laid_unicode_utf8_first)
  { w0 with heap := h7 }
noncomputable abbrev N0 : Nat := (World.settled Tryz.prog default).heap.size
set_option maxRecDepth 1000000 in
theorem laid_in (os : Os) (args : Array Value) : LaidIn Tryz.prog ((laidWorld os).forCall (fun _ _ => 0) ⟨#[], args, []⟩).memory theLaid [7, 0, 6, 3, 5, 4, 2, N0, N0 + 1] :=
  LaidIn.of_run _ 8 (by kernel_rfl) (by kernel_rfl) (by kernel_rfl) (by kernel_rfl)
theorem laid_met (os : Os) (args : Array Value) : laidMet Tryz.prog theLaid ((laidWorld os).forCall (fun _ _ => 0) ⟨#[], args, []⟩).memory := (laid_in os args).met
end Go.Proofs.YtceddjpaddcjiaaGreatDoor

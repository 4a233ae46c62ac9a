/-
  DERIVED. GIVEN WITH THE SEED: THE CARDS: each row of YtceddjpaddcjiaaGreatDoorRows.lean that lists a variable, with what it lists TIED to the program's text (the seventh form; the later family's looks); each row that meets fmt, with fmt's text TOLD by the authors' own Lean function (tested against real Go, not proved from fmt's source: count such statements apart). THE CARD IS WHAT COUNTS. Prove the row's statement (the work); the ties are given (YtceddjpaddcjiaaGreatDoorTie.lean); close each card by the builder's one call (the guide's Derived/Test/ToyasCard.lean, 'card_holds'). Laid BY PROGRAM, IN A SANDBOX (cutbox-door.mjs). By AI agents, Wed Nov 11 2026. No macro, syntax, notation, axiom, sorry.
-/
import Derived.Test.YtceddjpaddcjiaaGreatDoorRows
import GoSem.ClaimSeven
namespace Go.Proofs.YtceddjpaddcjiaaGreatDoor
namespace Rows

/-- THE TIED CARD OF 'ringerlaw37.PlanFree'. -/
def planFreeCard : Claim7 := { stood := { row := planFreeRow, standIns := [], harness := (true, "207ee4c12c79fec8f2eba54a2bdd966489a3c76ccc093977773e20d5406f36dd"), looks := true }, kinds := [], alts := [], laidByText := true, laidKinds := [.data, .data, .data, .data, .sentinel, .sentinel, .pinned], laidTests := true, laidLooks := .later }
def PlanFreeCardSaid : Prop := Claim7.holds Tryz.pinned (.plain (OpenSpec.ofChange planFreeSpec)) planFreeCard

/-- THE TIED CARD OF 'ringerlaw37.PlanMore'. -/
def planMoreCard : Claim7 := { stood := { row := planMoreRow, standIns := [], harness := (true, "207ee4c12c79fec8f2eba54a2bdd966489a3c76ccc093977773e20d5406f36dd"), looks := true }, kinds := [], alts := [], laidByText := true, laidKinds := [.data, .data, .data, .data, .sentinel, .sentinel, .pinned], laidTests := true, laidLooks := .later }
def PlanMoreCardSaid : Prop := Claim7.holds Tryz.pinned (.plain (OpenSpec.ofChange planMoreSpec)) planMoreCard

/-- THE TIED CARD OF 'ringerlaw37.PlanCut'. -/
def planCutCard : Claim7 := { stood := { row := planCutRow, standIns := [], harness := (true, "207ee4c12c79fec8f2eba54a2bdd966489a3c76ccc093977773e20d5406f36dd"), looks := true }, kinds := [], alts := [], laidByText := true, laidKinds := [.data, .data, .data, .data, .sentinel, .sentinel, .pinned], laidTests := true, laidLooks := .later }
def PlanCutCardSaid : Prop := Claim7.holds Tryz.pinned (.plain (OpenSpec.ofChange planCutSpec)) planCutCard

/-- THE TIED CARD OF 'ringerlaw15.TablePlays'. -/
def tablePlaysCard : Claim7 := { stood := { row := tablePlaysRow, standIns := [], harness := (true, "207ee4c12c79fec8f2eba54a2bdd966489a3c76ccc093977773e20d5406f36dd"), looks := true }, kinds := [], alts := [], laidByText := true, laidKinds := [.data, .data, .data, .data, .sentinel, .sentinel, .pinned], laidTests := true, laidLooks := .later }
def TablePlaysCardSaid : Prop := Claim7.holds Tryz.pinned (.plain (OpenSpec.ofChange tablePlaysSpec)) tablePlaysCard

/-- THE TIED CARD OF 'ringerlaw15.TableKeeps'. -/
def tableKeepsCard : Claim7 := { stood := { row := tableKeepsRow, standIns := [], harness := (true, "207ee4c12c79fec8f2eba54a2bdd966489a3c76ccc093977773e20d5406f36dd"), looks := true }, kinds := [], alts := [], laidByText := true, laidKinds := [.data, .data, .data, .data, .sentinel, .sentinel, .pinned], laidTests := true, laidLooks := .later }
def TableKeepsCardSaid : Prop := Claim7.holds Tryz.pinned (.plain (OpenSpec.ofChange tableKeepsSpec)) tableKeepsCard

/-- THE SECOND FORM's CARD OF 'ringerlaw37.PlanFree'. -/
def planFreeUptoCard : Claim7 := { stood := { row := planFreeUptoRow, standIns := [], harness := (true, "207ee4c12c79fec8f2eba54a2bdd966489a3c76ccc093977773e20d5406f36dd"), looks := true }, kinds := [], alts := [], laidByText := true, laidKinds := [.data, .data, .data, .data, .sentinel, .sentinel, .pinned], laidTests := true, laidLooks := .later }
def PlanFreeUptoCardSaid : Prop := Claim7.holds Tryz.pinned (.plain (OpenSpec.upto planFreeSpec)) planFreeUptoCard

/-- THE SECOND FORM's CARD OF 'ringerlaw37.PlanMore'. -/
def planMoreUptoCard : Claim7 := { stood := { row := planMoreUptoRow, standIns := [], harness := (true, "207ee4c12c79fec8f2eba54a2bdd966489a3c76ccc093977773e20d5406f36dd"), looks := true }, kinds := [], alts := [], laidByText := true, laidKinds := [.data, .data, .data, .data, .sentinel, .sentinel, .pinned], laidTests := true, laidLooks := .later }
def PlanMoreUptoCardSaid : Prop := Claim7.holds Tryz.pinned (.plain (OpenSpec.upto planMoreSpec)) planMoreUptoCard

/-- THE SECOND FORM's CARD OF 'ringerlaw37.PlanCut'. -/
def planCutUptoCard : Claim7 := { stood := { row := planCutUptoRow, standIns := [], harness := (true, "207ee4c12c79fec8f2eba54a2bdd966489a3c76ccc093977773e20d5406f36dd"), looks := true }, kinds := [], alts := [], laidByText := true, laidKinds := [.data, .data, .data, .data, .sentinel, .sentinel, .pinned], laidTests := true, laidLooks := .later }
def PlanCutUptoCardSaid : Prop := Claim7.holds Tryz.pinned (.plain (OpenSpec.upto planCutSpec)) planCutUptoCard

/-- THE SECOND FORM's CARD OF 'ringerlaw15.TablePlays'. -/
def tablePlaysUptoCard : Claim7 := { stood := { row := tablePlaysUptoRow, standIns := [], harness := (true, "207ee4c12c79fec8f2eba54a2bdd966489a3c76ccc093977773e20d5406f36dd"), looks := true }, kinds := [], alts := [], laidByText := true, laidKinds := [.data, .data, .data, .data, .sentinel, .sentinel, .pinned], laidTests := true, laidLooks := .later }
def TablePlaysUptoCardSaid : Prop := Claim7.holds Tryz.pinned (.plain (OpenSpec.upto tablePlaysSpec)) tablePlaysUptoCard

/-- THE SECOND FORM's CARD OF 'ringerlaw15.TableKeeps'. -/
def tableKeepsUptoCard : Claim7 := { stood := { row := tableKeepsUptoRow, standIns := [], harness := (true, "207ee4c12c79fec8f2eba54a2bdd966489a3c76ccc093977773e20d5406f36dd"), looks := true }, kinds := [], alts := [], laidByText := true, laidKinds := [.data, .data, .data, .data, .sentinel, .sentinel, .pinned], laidTests := true, laidLooks := .later }
def TableKeepsUptoCardSaid : Prop := Claim7.holds Tryz.pinned (.plain (OpenSpec.upto tableKeepsSpec)) tableKeepsUptoCard
end Rows
end Go.Proofs.YtceddjpaddcjiaaGreatDoor

/-
  DERIVED. GIVEN WITH THE SEED: THE CARDS: each row of YtfeaificmendeaaGreatDoorRows.lean that lists a variable, with what it lists TIED to the program's text (the seventh form; the later family's looks); each row that meets fmt, with fmt's text TOLD by the authors' own Lean function (tested against real Go, not proved from fmt's source: count such statements apart). THE CARD IS WHAT COUNTS. Prove the row's statement (the work); the ties are given (YtfeaificmendeaaGreatDoorTie.lean); close each card by the builder's one call (the guide's Derived/Test/ToyasCard.lean, 'card_holds'). Laid BY PROGRAM, IN A SANDBOX (cutbox-door.mjs). By AI agents, Wed Nov 11 2026. No macro, syntax, notation, axiom, sorry.
-/
import Derived.Test.YtfeaificmendeaaGreatDoorRows
import GoSem.ClaimSeven
namespace Go.Proofs.YtfeaificmendeaaGreatDoor
namespace Rows

/-- THE TIED CARD OF 'laws.FnShown'. -/
def fnShownCard : Claim7 := { stood := { row := fnShownRow, standIns := [], harness := (true, "25c1104050fa551353e2d64e248b62e3f1d1adba34f85b5520c046957cfc26aa"), looks := true }, kinds := [], alts := [], laidByText := true, laidKinds := [.data, .data, .data, .sentinel, .sentinel], laidTests := true, laidLooks := .later }
def FnShownCardSaid : Prop := Claim7.holds Tryz.pinned (.plain (OpenSpec.ofChange fnShownSpec)) fnShownCard

/-- THE TIED CARD OF 'laws.FnExactRise'. -/
def fnExactRiseCard : Claim7 := { stood := { row := fnExactRiseRow, standIns := [], harness := (true, "25c1104050fa551353e2d64e248b62e3f1d1adba34f85b5520c046957cfc26aa"), looks := true }, kinds := [], alts := [], laidByText := true, laidKinds := [.data, .pinned], laidTests := true, laidLooks := .later }
def FnExactRiseCardSaid : Prop := Claim7.holds Tryz.pinned (.plain (OpenSpec.ofChange fnExactRiseSpec)) fnExactRiseCard

/-- THE SECOND FORM's CARD OF 'laws.FnShown'. -/
def fnShownUptoCard : Claim7 := { stood := { row := fnShownUptoRow, standIns := [], harness := (true, "25c1104050fa551353e2d64e248b62e3f1d1adba34f85b5520c046957cfc26aa"), looks := true }, kinds := [], alts := [], laidByText := true, laidKinds := [.data, .data, .data, .sentinel, .sentinel], laidTests := true, laidLooks := .later }
def FnShownUptoCardSaid : Prop := Claim7.holds Tryz.pinned (.plain (OpenSpec.upto fnShownSpec)) fnShownUptoCard

/-- THE SECOND FORM's CARD OF 'laws.FnExactRise'. -/
def fnExactRiseUptoCard : Claim7 := { stood := { row := fnExactRiseUptoRow, standIns := [], harness := (true, "25c1104050fa551353e2d64e248b62e3f1d1adba34f85b5520c046957cfc26aa"), looks := true }, kinds := [], alts := [], laidByText := true, laidKinds := [.data, .pinned], laidTests := true, laidLooks := .later }
def FnExactRiseUptoCardSaid : Prop := Claim7.holds Tryz.pinned (.plain (OpenSpec.upto fnExactRiseSpec)) fnExactRiseUptoCard
end Rows
end Go.Proofs.YtfeaificmendeaaGreatDoor

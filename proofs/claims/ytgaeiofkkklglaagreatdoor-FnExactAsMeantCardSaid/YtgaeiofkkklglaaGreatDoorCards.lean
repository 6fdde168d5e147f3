/-
  DERIVED. GIVEN WITH THE SEED: THE CARDS: each row of YtgaeiofkkklglaaGreatDoorRows.lean that lists a variable, with what it lists TIED to the program's text (the seventh form; the later family's looks); each row that meets fmt, with fmt's text TOLD by the authors' own Lean function (tested against real Go, not proved from fmt's source: count such statements apart). THE CARD IS WHAT COUNTS. Prove the row's statement (the work); the ties are given (YtgaeiofkkklglaaGreatDoorTie.lean); close each card by the builder's one call (the guide's Derived/Test/ToyasCard.lean, 'card_holds'). Laid BY PROGRAM, IN A SANDBOX (cutbox-door.mjs). By AI agents, Wed Nov 11 2026. No macro, syntax, notation, axiom, sorry.
-/
import Derived.Test.YtgaeiofkkklglaaGreatDoorRows
import GoSem.ClaimSeven
namespace Go.Proofs.YtgaeiofkkklglaaGreatDoor
namespace Rows

/-- THE TIED CARD OF 'laws.FnExactLeftIn'. -/
def fnExactLeftInCard : Claim7 := { stood := { row := fnExactLeftInRow, standIns := [], harness := (true, "63af3f7198f219cc80c1cdcce573a26e04a5d6fe28d225d09ad1fb7de654dee3"), looks := false }, kinds := [], alts := [], laidByText := true, laidKinds := [.data, .pinned], laidTests := true, laidLooks := .later }
def FnExactLeftInCardSaid : Prop := Claim7.holds Tryz.pinned (.plain (OpenSpec.ofChange fnExactLeftInSpec)) fnExactLeftInCard

/-- THE TIED CARD OF 'laws.FnExactSettled'. -/
def fnExactSettledCard : Claim7 := { stood := { row := fnExactSettledRow, standIns := [], harness := (true, "63af3f7198f219cc80c1cdcce573a26e04a5d6fe28d225d09ad1fb7de654dee3"), looks := false }, kinds := [], alts := [], laidByText := true, laidKinds := [.data, .pinned], laidTests := true, laidLooks := .later }
def FnExactSettledCardSaid : Prop := Claim7.holds Tryz.pinned (.plain (OpenSpec.ofChange fnExactSettledSpec)) fnExactSettledCard

/-- THE TIED CARD OF 'laws.FnExactAsMeant'. -/
def fnExactAsMeantCard : Claim7 := { stood := { row := fnExactAsMeantRow, standIns := [], harness := (true, "63af3f7198f219cc80c1cdcce573a26e04a5d6fe28d225d09ad1fb7de654dee3"), looks := false }, kinds := [], alts := [], laidByText := true, laidKinds := [.data, .pinned], laidTests := true, laidLooks := .later }
def FnExactAsMeantCardSaid : Prop := Claim7.holds Tryz.pinned (.plain (OpenSpec.ofChange fnExactAsMeantSpec)) fnExactAsMeantCard

/-- THE SECOND FORM's CARD OF 'laws.FnExactLeftIn'. -/
def fnExactLeftInUptoCard : Claim7 := { stood := { row := fnExactLeftInUptoRow, standIns := [], harness := (true, "63af3f7198f219cc80c1cdcce573a26e04a5d6fe28d225d09ad1fb7de654dee3"), looks := false }, kinds := [], alts := [], laidByText := true, laidKinds := [.data, .pinned], laidTests := true, laidLooks := .later }
def FnExactLeftInUptoCardSaid : Prop := Claim7.holds Tryz.pinned (.plain (OpenSpec.upto fnExactLeftInSpec)) fnExactLeftInUptoCard

/-- THE SECOND FORM's CARD OF 'laws.FnExactSettled'. -/
def fnExactSettledUptoCard : Claim7 := { stood := { row := fnExactSettledUptoRow, standIns := [], harness := (true, "63af3f7198f219cc80c1cdcce573a26e04a5d6fe28d225d09ad1fb7de654dee3"), looks := false }, kinds := [], alts := [], laidByText := true, laidKinds := [.data, .pinned], laidTests := true, laidLooks := .later }
def FnExactSettledUptoCardSaid : Prop := Claim7.holds Tryz.pinned (.plain (OpenSpec.upto fnExactSettledSpec)) fnExactSettledUptoCard

/-- THE SECOND FORM's CARD OF 'laws.FnExactAsMeant'. -/
def fnExactAsMeantUptoCard : Claim7 := { stood := { row := fnExactAsMeantUptoRow, standIns := [], harness := (true, "63af3f7198f219cc80c1cdcce573a26e04a5d6fe28d225d09ad1fb7de654dee3"), looks := false }, kinds := [], alts := [], laidByText := true, laidKinds := [.data, .pinned], laidTests := true, laidLooks := .later }
def FnExactAsMeantUptoCardSaid : Prop := Claim7.holds Tryz.pinned (.plain (OpenSpec.upto fnExactAsMeantSpec)) fnExactAsMeantUptoCard
end Rows
end Go.Proofs.YtgaeiofkkklglaaGreatDoor

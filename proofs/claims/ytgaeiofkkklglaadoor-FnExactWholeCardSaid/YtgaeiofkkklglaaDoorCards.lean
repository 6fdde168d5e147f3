/-
  DERIVED. GIVEN WITH THE SEED: THE CARDS: each row of YtgaeiofkkklglaaDoorRows.lean that lists a variable, with what it lists TIED to the program's text (the seventh form; the later family's looks); each row that meets fmt, with fmt's text TOLD by the authors' own Lean function (tested against real Go, not proved from fmt's source: count such statements apart). THE CARD IS WHAT COUNTS. Prove the row's statement (the work); the ties are given (YtgaeiofkkklglaaDoorTie.lean); close each card by the builder's one call (the guide's Derived/Test/ToyasCard.lean, 'card_holds'). Laid BY PROGRAM, IN A SANDBOX (cutbox-door.mjs). By AI agents, Wed Nov 11 2026. No macro, syntax, notation, axiom, sorry.
-/
import Derived.Test.YtgaeiofkkklglaaDoorRows
import GoSem.ClaimSeven
namespace Go.Proofs.YtgaeiofkkklglaaDoor
namespace Rows

/-- THE TIED CARD OF 'laws.FnExactWhyAside'. -/
def fnExactWhyAsideCard : Claim7 := { stood := { row := fnExactWhyAsideRow, standIns := [], harness := (true, "bffb80dba56e26e05e1f0d7e0bbf8aa717186423845102f657b7457545f987c9"), looks := false }, kinds := [], alts := [], laidByText := true, laidKinds := [.data, .pinned], laidTests := true, laidLooks := .later }
def FnExactWhyAsideCardSaid : Prop := Claim7.holds Tryd.pinned (.plain (OpenSpec.ofChange fnExactWhyAsideSpec)) fnExactWhyAsideCard

/-- THE TIED CARD OF 'laws.FnExactWhole'. -/
def fnExactWholeCard : Claim7 := { stood := { row := fnExactWholeRow, standIns := [], harness := (true, "bffb80dba56e26e05e1f0d7e0bbf8aa717186423845102f657b7457545f987c9"), looks := false }, kinds := [], alts := [], laidByText := true, laidKinds := [.data, .pinned], laidTests := true, laidLooks := .later }
def FnExactWholeCardSaid : Prop := Claim7.holds Tryd.pinned (.plain (OpenSpec.ofChange fnExactWholeSpec)) fnExactWholeCard

/-- THE SECOND FORM's CARD OF 'laws.FnExactWhyAside'. -/
def fnExactWhyAsideUptoCard : Claim7 := { stood := { row := fnExactWhyAsideUptoRow, standIns := [], harness := (true, "bffb80dba56e26e05e1f0d7e0bbf8aa717186423845102f657b7457545f987c9"), looks := false }, kinds := [], alts := [], laidByText := true, laidKinds := [.data, .pinned], laidTests := true, laidLooks := .later }
def FnExactWhyAsideUptoCardSaid : Prop := Claim7.holds Tryd.pinned (.plain (OpenSpec.upto fnExactWhyAsideSpec)) fnExactWhyAsideUptoCard

/-- THE SECOND FORM's CARD OF 'laws.FnExactWhole'. -/
def fnExactWholeUptoCard : Claim7 := { stood := { row := fnExactWholeUptoRow, standIns := [], harness := (true, "bffb80dba56e26e05e1f0d7e0bbf8aa717186423845102f657b7457545f987c9"), looks := false }, kinds := [], alts := [], laidByText := true, laidKinds := [.data, .pinned], laidTests := true, laidLooks := .later }
def FnExactWholeUptoCardSaid : Prop := Claim7.holds Tryd.pinned (.plain (OpenSpec.upto fnExactWholeSpec)) fnExactWholeUptoCard
end Rows
end Go.Proofs.YtgaeiofkkklglaaDoor

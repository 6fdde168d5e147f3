/-
  DERIVED. GIVEN WITH THE SEED: THE CARDS: each row of YtpbfjemedfnkeaaDoorRows.lean that lists a variable, with what it lists TIED to the program's text (the seventh form; the later family's looks); each row that meets fmt, with fmt's text TOLD by the authors' own Lean function (tested against real Go, not proved from fmt's source: count such statements apart). THE CARD IS WHAT COUNTS. Prove the row's statement (the work); the ties are given (YtpbfjemedfnkeaaDoorTie.lean); close each card by the builder's one call (the guide's Derived/Test/ToyasCard.lean, 'card_holds'). Laid BY PROGRAM, IN A SANDBOX (cutbox-door.mjs). By AI agents, Wed Nov 11 2026. No macro, syntax, notation, axiom, sorry.
-/
import Derived.Test.YtpbfjemedfnkeaaDoorRows
import GoSem.ClaimSeven
namespace Go.Proofs.YtpbfjemedfnkeaaDoor
namespace Rows

/-- THE TIED CARD OF 'laws.FnExactNumText'. -/
def fnExactNumTextCard : Claim7 := { stood := { row := fnExactNumTextRow, standIns := [], harness := (true, "e1cd07b585299c4ecbce8187b10116c33c98b744770c2f09cbae68f65388371d"), looks := true }, kinds := [], alts := [], laidByText := true, laidKinds := [.data, .data, .data], laidTests := true, laidLooks := .later }
def FnExactNumTextCardSaid : Prop := Claim7.holds Tryd.pinned (.plain (OpenSpec.ofChange fnExactNumTextSpec)) fnExactNumTextCard

/-- THE TIED CARD OF 'laws.FnExactParseNum'. -/
def fnExactParseNumCard : Claim7 := { stood := { row := fnExactParseNumRow, standIns := [], harness := (true, "e1cd07b585299c4ecbce8187b10116c33c98b744770c2f09cbae68f65388371d"), looks := true }, kinds := [], alts := [], laidByText := true, laidKinds := [.data, .data, .data, .sentinel, .sentinel], laidTests := true, laidLooks := .later }
def FnExactParseNumCardSaid : Prop := Claim7.holds Tryd.pinned (.plain (OpenSpec.ofChange fnExactParseNumSpec)) fnExactParseNumCard

/-- THE TIED CARD OF 'laws.FnExactWhyAside'. -/
def fnExactWhyAsideCard : Claim7 := { stood := { row := fnExactWhyAsideRow, standIns := [], harness := (true, "e1cd07b585299c4ecbce8187b10116c33c98b744770c2f09cbae68f65388371d"), looks := true }, kinds := [], alts := [], laidByText := true, laidKinds := [.data, .pinned], laidTests := true, laidLooks := .later }
def FnExactWhyAsideCardSaid : Prop := Claim7.holds Tryd.pinned (.plain (OpenSpec.ofChange fnExactWhyAsideSpec)) fnExactWhyAsideCard

/-- THE TIED CARD OF 'laws.FnExactWhole'. -/
def fnExactWholeCard : Claim7 := { stood := { row := fnExactWholeRow, standIns := [], harness := (true, "e1cd07b585299c4ecbce8187b10116c33c98b744770c2f09cbae68f65388371d"), looks := true }, kinds := [], alts := [], laidByText := true, laidKinds := [.data, .pinned], laidTests := true, laidLooks := .later }
def FnExactWholeCardSaid : Prop := Claim7.holds Tryd.pinned (.plain (OpenSpec.ofChange fnExactWholeSpec)) fnExactWholeCard

/-- THE SECOND FORM's CARD OF 'laws.FnExactNumText'. -/
def fnExactNumTextUptoCard : Claim7 := { stood := { row := fnExactNumTextUptoRow, standIns := [], harness := (true, "e1cd07b585299c4ecbce8187b10116c33c98b744770c2f09cbae68f65388371d"), looks := true }, kinds := [], alts := [], laidByText := true, laidKinds := [.data, .data, .data], laidTests := true, laidLooks := .later }
def FnExactNumTextUptoCardSaid : Prop := Claim7.holds Tryd.pinned (.plain (OpenSpec.upto fnExactNumTextSpec)) fnExactNumTextUptoCard

/-- THE SECOND FORM's CARD OF 'laws.FnExactParseNum'. -/
def fnExactParseNumUptoCard : Claim7 := { stood := { row := fnExactParseNumUptoRow, standIns := [], harness := (true, "e1cd07b585299c4ecbce8187b10116c33c98b744770c2f09cbae68f65388371d"), looks := true }, kinds := [], alts := [], laidByText := true, laidKinds := [.data, .data, .data, .sentinel, .sentinel], laidTests := true, laidLooks := .later }
def FnExactParseNumUptoCardSaid : Prop := Claim7.holds Tryd.pinned (.plain (OpenSpec.upto fnExactParseNumSpec)) fnExactParseNumUptoCard

/-- THE SECOND FORM's CARD OF 'laws.FnExactWhyAside'. -/
def fnExactWhyAsideUptoCard : Claim7 := { stood := { row := fnExactWhyAsideUptoRow, standIns := [], harness := (true, "e1cd07b585299c4ecbce8187b10116c33c98b744770c2f09cbae68f65388371d"), looks := true }, kinds := [], alts := [], laidByText := true, laidKinds := [.data, .pinned], laidTests := true, laidLooks := .later }
def FnExactWhyAsideUptoCardSaid : Prop := Claim7.holds Tryd.pinned (.plain (OpenSpec.upto fnExactWhyAsideSpec)) fnExactWhyAsideUptoCard

/-- THE SECOND FORM's CARD OF 'laws.FnExactWhole'. -/
def fnExactWholeUptoCard : Claim7 := { stood := { row := fnExactWholeUptoRow, standIns := [], harness := (true, "e1cd07b585299c4ecbce8187b10116c33c98b744770c2f09cbae68f65388371d"), looks := true }, kinds := [], alts := [], laidByText := true, laidKinds := [.data, .pinned], laidTests := true, laidLooks := .later }
def FnExactWholeUptoCardSaid : Prop := Claim7.holds Tryd.pinned (.plain (OpenSpec.upto fnExactWholeSpec)) fnExactWholeUptoCard
end Rows
end Go.Proofs.YtpbfjemedfnkeaaDoor

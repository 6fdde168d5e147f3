/-
  DERIVED. GIVEN WITH THE SEED: THE CARDS: each row of YtolgphpkjmdlgaaGreatDoorRows.lean that lists a variable, with what it lists TIED to the program's text (the seventh form; the later family's looks); each row that meets fmt, with fmt's text TOLD by the authors' own Lean function (tested against real Go, not proved from fmt's source: count such statements apart). THE CARD IS WHAT COUNTS. Prove the row's statement (the work); the ties are given (YtolgphpkjmdlgaaGreatDoorTie.lean); close each card by the builder's one call (the guide's Derived/Test/ToyasCard.lean, 'card_holds'). Laid BY PROGRAM, IN A SANDBOX (cutbox-door.mjs). By AI agents, Wed Nov 11 2026. No macro, syntax, notation, axiom, sorry.
-/
import Derived.Test.YtolgphpkjmdlgaaGreatDoorRows
import GoSem.ClaimSeven
namespace Go.Proofs.YtolgphpkjmdlgaaGreatDoor
namespace Rows

/-- THE TIED CARD OF 'laws.FnTallies'. -/
def fnTalliesCard : Claim7 := { stood := { row := fnTalliesRow, standIns := [], harness := (true, "cc9f84697b3977d366874f886b80cf38364fb77b3f7b15c16f1c0e2535542f98"), looks := false }, kinds := [], alts := [], laidByText := true, laidKinds := [.data, .pinned], laidTests := true, laidLooks := .later }
def FnTalliesCardSaid : Prop := Claim7.holds Tryz.pinned (.plain (OpenSpec.ofChange fnTalliesSpec)) fnTalliesCard

/-- THE SECOND FORM's CARD OF 'laws.FnTallies'. -/
def fnTalliesUptoCard : Claim7 := { stood := { row := fnTalliesUptoRow, standIns := [], harness := (true, "cc9f84697b3977d366874f886b80cf38364fb77b3f7b15c16f1c0e2535542f98"), looks := false }, kinds := [], alts := [], laidByText := true, laidKinds := [.data, .pinned], laidTests := true, laidLooks := .later }
def FnTalliesUptoCardSaid : Prop := Claim7.holds Tryz.pinned (.plain (OpenSpec.upto fnTalliesSpec)) fnTalliesUptoCard
end Rows
end Go.Proofs.YtolgphpkjmdlgaaGreatDoor

/-
  No cell of these rows narrows 'for every input' (looked for: loops, veiled, ifaces, maps, wideKeys, modest, calm, conditions, laid).
  DERIVED. THE GIVEN ROWS OF THIS SEAT. 7 by the template 'for every input the law returns true; each argument reads behind the call as it read before'; 0 by the template 'total and deterministic' (their statements: YtpbfjemedfnkeaaTotals.lean).
  GIVEN WITH THE SEED: the statements are not yours to turn. If you find one false, say at which input.
  Laid BY PROGRAM, IN A SANDBOX (cutbox-rows.mjs): the forced cells as the released guide's own fill.sh prints them over the translation 71d482b3e0ef182e… (all of the seat's roots in one cut). By AI agents, Wed Nov 11 2026. No macro, syntax, notation, axiom, sorry.
-/
import Derived.Test.YtpbfjemedfnkeaaChecked
import GoSem.Claim
import GoSem.ClaimJoined
import GoSem.ClaimMapViews
import Derived.JoinedTies
import Derived.KernelRfl
namespace Go.Proofs.Ytpbfjemedfnkeaa
/- THE CELL 'sum', in the pinned program and in every row, IS THE sha256 OF THE DUMP (.gsa) THAT YtpbfjemedfnkeaaProg.lean LOADS. Nothing in Lean hashes anything: it is a label: what it is worth is what the hold of that sum in a sandbox is worth. -/
noncomputable def Try.pinned : Pinned := { name := "ytpbfjemedfnkeaa", sum := "71d482b3e0ef182e799b02d107947fb17f7f3dd67c1fad4be6b62049230d22a5", checked := Try.checked }
namespace Rows
def none {H : Type} : Left H := { results := [], args := [] }

/-- 'laws.FnExactRowLine': WHATEVER THE INPUT: true; the input reads as it did. -/
def fnExactRowLineSpec : ChangeSpec := { name := "fnExactRowLine", fn := fun _ => fun
  | [d] => { results := [.lit (.bool true)], args := [d] }
  | _ => none }
def fnExactRowLineRow : OpenClaim := { program := "ytpbfjemedfnkeaa", sum := "71d482b3e0ef182e799b02d107947fb17f7f3dd67c1fad4be6b62049230d22a5", func := "loop.example/g00475/laws.FnExactRowLine", spec := "fnExactRowLine", inPlace := ["internal/abi.NoEscape", "internal/bytealg.MakeNoZero"], apart := false }
def FnExactRowLineSaid : Prop := fnExactRowLineRow.holds Try.pinned (OpenSpec.ofChange fnExactRowLineSpec)

/-- ITS FALSE NEIGHBOUR: 'it returns false'. Refute it at one input. -/
def fnExactRowLineWrong : ChangeSpec := { name := "fnExactRowLine", fn := fun _ => fun
  | [d] => { results := [.lit (.bool false)], args := [d] }
  | _ => none }
def FnExactRowLineWrongFalsely : Prop := fnExactRowLineRow.holds Try.pinned (OpenSpec.ofChange fnExactRowLineWrong)

/-- 'laws.FnExactMeantOf': WHATEVER THE INPUT: true; the input reads as it did. -/
def fnExactMeantOfSpec : ChangeSpec := { name := "fnExactMeantOf", fn := fun _ => fun
  | [d] => { results := [.lit (.bool true)], args := [d] }
  | _ => none }
def fnExactMeantOfRow : OpenClaim := { program := "ytpbfjemedfnkeaa", sum := "71d482b3e0ef182e799b02d107947fb17f7f3dd67c1fad4be6b62049230d22a5", func := "loop.example/g00475/laws.FnExactMeantOf", spec := "fnExactMeantOf", inPlace := ["slices.overlaps[loop.example/g00475/impl.Meant]"], unfollowed := true, recurses := true, apart := false }
def FnExactMeantOfSaid : Prop := fnExactMeantOfRow.holds Try.pinned (OpenSpec.ofChange fnExactMeantOfSpec)

/-- ITS FALSE NEIGHBOUR: 'it returns false'. Refute it at one input. -/
def fnExactMeantOfWrong : ChangeSpec := { name := "fnExactMeantOf", fn := fun _ => fun
  | [d] => { results := [.lit (.bool false)], args := [d] }
  | _ => none }
def FnExactMeantOfWrongFalsely : Prop := fnExactMeantOfRow.holds Try.pinned (OpenSpec.ofChange fnExactMeantOfWrong)

/-- 'laws.FnExactStepsLeft': WHATEVER THE INPUT: true; the input reads as it did. -/
def fnExactStepsLeftSpec : ChangeSpec := { name := "fnExactStepsLeft", fn := fun _ => fun
  | [d1, d2] => { results := [.lit (.bool true)], args := [d1, d2] }
  | _ => none }
def fnExactStepsLeftRow : OpenClaim := { program := "ytpbfjemedfnkeaa", sum := "71d482b3e0ef182e799b02d107947fb17f7f3dd67c1fad4be6b62049230d22a5", func := "loop.example/g00475/laws.FnExactStepsLeft", spec := "fnExactStepsLeft", apart := false }
def FnExactStepsLeftSaid : Prop := fnExactStepsLeftRow.holds Try.pinned (OpenSpec.ofChange fnExactStepsLeftSpec)

/-- ITS FALSE NEIGHBOUR: 'it returns false'. Refute it at one input. -/
def fnExactStepsLeftWrong : ChangeSpec := { name := "fnExactStepsLeft", fn := fun _ => fun
  | [d1, d2] => { results := [.lit (.bool false)], args := [d1, d2] }
  | _ => none }
def FnExactStepsLeftWrongFalsely : Prop := fnExactStepsLeftRow.holds Try.pinned (OpenSpec.ofChange fnExactStepsLeftWrong)

/-- 'laws.FnExactTallyOf': WHATEVER THE INPUT: true; the input reads as it did. -/
def fnExactTallyOfSpec : ChangeSpec := { name := "fnExactTallyOf", fn := fun _ => fun
  | [d] => { results := [.lit (.bool true)], args := [d] }
  | _ => none }
def fnExactTallyOfRow : OpenClaim := { program := "ytpbfjemedfnkeaa", sum := "71d482b3e0ef182e799b02d107947fb17f7f3dd67c1fad4be6b62049230d22a5", func := "loop.example/g00475/laws.FnExactTallyOf", spec := "fnExactTallyOf", apart := false }
def FnExactTallyOfSaid : Prop := fnExactTallyOfRow.holds Try.pinned (OpenSpec.ofChange fnExactTallyOfSpec)

/-- ITS FALSE NEIGHBOUR: 'it returns false'. Refute it at one input. -/
def fnExactTallyOfWrong : ChangeSpec := { name := "fnExactTallyOf", fn := fun _ => fun
  | [d] => { results := [.lit (.bool false)], args := [d] }
  | _ => none }
def FnExactTallyOfWrongFalsely : Prop := fnExactTallyOfRow.holds Try.pinned (OpenSpec.ofChange fnExactTallyOfWrong)

/-- 'laws.FnExactAsideOf': WHATEVER THE INPUT: true; the input reads as it did. -/
def fnExactAsideOfSpec : ChangeSpec := { name := "fnExactAsideOf", fn := fun _ => fun
  | [d] => { results := [.lit (.bool true)], args := [d] }
  | _ => none }
def fnExactAsideOfRow : OpenClaim := { program := "ytpbfjemedfnkeaa", sum := "71d482b3e0ef182e799b02d107947fb17f7f3dd67c1fad4be6b62049230d22a5", func := "loop.example/g00475/laws.FnExactAsideOf", spec := "fnExactAsideOf", apart := false }
def FnExactAsideOfSaid : Prop := fnExactAsideOfRow.holds Try.pinned (OpenSpec.ofChange fnExactAsideOfSpec)

/-- ITS FALSE NEIGHBOUR: 'it returns false'. Refute it at one input. -/
def fnExactAsideOfWrong : ChangeSpec := { name := "fnExactAsideOf", fn := fun _ => fun
  | [d] => { results := [.lit (.bool false)], args := [d] }
  | _ => none }
def FnExactAsideOfWrongFalsely : Prop := fnExactAsideOfRow.holds Try.pinned (OpenSpec.ofChange fnExactAsideOfWrong)

/-- 'laws.FnExactBound': WHATEVER THE INPUT: true; the input reads as it did. -/
def fnExactBoundSpec : ChangeSpec := { name := "fnExactBound", fn := fun _ => fun
  | [d] => { results := [.lit (.bool true)], args := [d] }
  | _ => none }
def fnExactBoundRow : OpenClaim := { program := "ytpbfjemedfnkeaa", sum := "71d482b3e0ef182e799b02d107947fb17f7f3dd67c1fad4be6b62049230d22a5", func := "loop.example/g00475/laws.FnExactBound", spec := "fnExactBound", apart := false }
def FnExactBoundSaid : Prop := fnExactBoundRow.holds Try.pinned (OpenSpec.ofChange fnExactBoundSpec)

/-- ITS FALSE NEIGHBOUR: 'it returns false'. Refute it at one input. -/
def fnExactBoundWrong : ChangeSpec := { name := "fnExactBound", fn := fun _ => fun
  | [d] => { results := [.lit (.bool false)], args := [d] }
  | _ => none }
def FnExactBoundWrongFalsely : Prop := fnExactBoundRow.holds Try.pinned (OpenSpec.ofChange fnExactBoundWrong)

/-- 'laws.FnExactShare': WHATEVER THE INPUT: true; the input reads as it did. -/
def fnExactShareSpec : ChangeSpec := { name := "fnExactShare", fn := fun _ => fun
  | [d] => { results := [.lit (.bool true)], args := [d] }
  | _ => none }
def fnExactShareRow : OpenClaim := { program := "ytpbfjemedfnkeaa", sum := "71d482b3e0ef182e799b02d107947fb17f7f3dd67c1fad4be6b62049230d22a5", func := "loop.example/g00475/laws.FnExactShare", spec := "fnExactShare", apart := false }
def FnExactShareSaid : Prop := fnExactShareRow.holds Try.pinned (OpenSpec.ofChange fnExactShareSpec)

/-- ITS FALSE NEIGHBOUR: 'it returns false'. Refute it at one input. -/
def fnExactShareWrong : ChangeSpec := { name := "fnExactShare", fn := fun _ => fun
  | [d] => { results := [.lit (.bool false)], args := [d] }
  | _ => none }
def FnExactShareWrongFalsely : Prop := fnExactShareRow.holds Try.pinned (OpenSpec.ofChange fnExactShareWrong)

/- THE SECOND FORM. 'bulk': how many values and letters a reading holds, each counted each time it is reached (what is shared counts as often as it is met; a slice's spare places count too). A statement '..UptoSaid' is the law's where the arguments, and the package variables that the reading takes, are together of bulk at most 1048576: NARROWER than '..Said'. Prove '..Said' where nothing that the law and all that it calls make is longer than what came in: it says more and counts as full. Else prove '..UptoSaid'. A law counts once. -/
mutual
def uptoBulk {H : Type} : DataW H → Nat
  | .lit (.string bytes) => bytes.length + 1
  | .lit _ => 1
  | .nil => 1
  | .ptr d => uptoBulk d + 1
  | .slice elems spare => uptoBulkAll elems + uptoBulkAll spare + 1
  | .agg parts => uptoBulkAll parts + 1
  | .iface _ d => uptoBulk d + 1
  | .map entries => uptoBulkEntries entries + 1
  | .held _ => 1
def uptoBulkAll {H : Type} : List (DataW H) → Nat
  | [] => 0
  | d :: r => uptoBulk d + uptoBulkAll r
def uptoBulkEntries {H : Type} : List (Lit × DataW H) → Nat
  | [] => 0
  | x :: r => uptoBulkEntry x + uptoBulkEntries r
def uptoBulkEntry {H : Type} : Lit × DataW H → Nat
  | (.string bytes, d) => bytes.length + uptoBulk d + 1
  | (_, d) => uptoBulk d + 1
 end
def uptoSmall : (H : Type) → List (DataW H) → Bool := fun _ ds => decide (uptoBulkAll ds ≤ 1048576)
def OpenSpec.upto (s : _root_.Go.ChangeSpec) : _root_.Go.OpenSpec := { _root_.Go.OpenSpec.ofChange s with cond := some uptoSmall }

/-- 'laws.FnExactRowLine', WHERE WHAT IT READS IS OF BULK AT MOST 1048576: true; the input reads as it did. -/
def fnExactRowLineUptoRow : OpenClaim := { program := "ytpbfjemedfnkeaa", sum := "71d482b3e0ef182e799b02d107947fb17f7f3dd67c1fad4be6b62049230d22a5", func := "loop.example/g00475/laws.FnExactRowLine", spec := "fnExactRowLine", inPlace := ["internal/abi.NoEscape", "internal/bytealg.MakeNoZero"], apart := false, narrowed := true }
def FnExactRowLineUptoSaid : Prop := fnExactRowLineUptoRow.holds Try.pinned (OpenSpec.upto fnExactRowLineSpec)

/-- 'laws.FnExactMeantOf', WHERE WHAT IT READS IS OF BULK AT MOST 1048576: true; the input reads as it did. -/
def fnExactMeantOfUptoRow : OpenClaim := { program := "ytpbfjemedfnkeaa", sum := "71d482b3e0ef182e799b02d107947fb17f7f3dd67c1fad4be6b62049230d22a5", func := "loop.example/g00475/laws.FnExactMeantOf", spec := "fnExactMeantOf", inPlace := ["slices.overlaps[loop.example/g00475/impl.Meant]"], unfollowed := true, recurses := true, apart := false, narrowed := true }
def FnExactMeantOfUptoSaid : Prop := fnExactMeantOfUptoRow.holds Try.pinned (OpenSpec.upto fnExactMeantOfSpec)

/-- 'laws.FnExactStepsLeft', WHERE WHAT IT READS IS OF BULK AT MOST 1048576: true; the input reads as it did. -/
def fnExactStepsLeftUptoRow : OpenClaim := { program := "ytpbfjemedfnkeaa", sum := "71d482b3e0ef182e799b02d107947fb17f7f3dd67c1fad4be6b62049230d22a5", func := "loop.example/g00475/laws.FnExactStepsLeft", spec := "fnExactStepsLeft", apart := false, narrowed := true }
def FnExactStepsLeftUptoSaid : Prop := fnExactStepsLeftUptoRow.holds Try.pinned (OpenSpec.upto fnExactStepsLeftSpec)

/-- 'laws.FnExactTallyOf', WHERE WHAT IT READS IS OF BULK AT MOST 1048576: true; the input reads as it did. -/
def fnExactTallyOfUptoRow : OpenClaim := { program := "ytpbfjemedfnkeaa", sum := "71d482b3e0ef182e799b02d107947fb17f7f3dd67c1fad4be6b62049230d22a5", func := "loop.example/g00475/laws.FnExactTallyOf", spec := "fnExactTallyOf", apart := false, narrowed := true }
def FnExactTallyOfUptoSaid : Prop := fnExactTallyOfUptoRow.holds Try.pinned (OpenSpec.upto fnExactTallyOfSpec)

/-- 'laws.FnExactAsideOf', WHERE WHAT IT READS IS OF BULK AT MOST 1048576: true; the input reads as it did. -/
def fnExactAsideOfUptoRow : OpenClaim := { program := "ytpbfjemedfnkeaa", sum := "71d482b3e0ef182e799b02d107947fb17f7f3dd67c1fad4be6b62049230d22a5", func := "loop.example/g00475/laws.FnExactAsideOf", spec := "fnExactAsideOf", apart := false, narrowed := true }
def FnExactAsideOfUptoSaid : Prop := fnExactAsideOfUptoRow.holds Try.pinned (OpenSpec.upto fnExactAsideOfSpec)

/-- 'laws.FnExactBound', WHERE WHAT IT READS IS OF BULK AT MOST 1048576: true; the input reads as it did. -/
def fnExactBoundUptoRow : OpenClaim := { program := "ytpbfjemedfnkeaa", sum := "71d482b3e0ef182e799b02d107947fb17f7f3dd67c1fad4be6b62049230d22a5", func := "loop.example/g00475/laws.FnExactBound", spec := "fnExactBound", apart := false, narrowed := true }
def FnExactBoundUptoSaid : Prop := fnExactBoundUptoRow.holds Try.pinned (OpenSpec.upto fnExactBoundSpec)

/-- 'laws.FnExactShare', WHERE WHAT IT READS IS OF BULK AT MOST 1048576: true; the input reads as it did. -/
def fnExactShareUptoRow : OpenClaim := { program := "ytpbfjemedfnkeaa", sum := "71d482b3e0ef182e799b02d107947fb17f7f3dd67c1fad4be6b62049230d22a5", func := "loop.example/g00475/laws.FnExactShare", spec := "fnExactShare", apart := false, narrowed := true }
def FnExactShareUptoSaid : Prop := fnExactShareUptoRow.holds Try.pinned (OpenSpec.upto fnExactShareSpec)

end Rows
end Go.Proofs.Ytpbfjemedfnkeaa

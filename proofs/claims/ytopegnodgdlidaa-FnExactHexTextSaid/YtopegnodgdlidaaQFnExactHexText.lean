import Derived.Test.YtopegnodgdlidaaPFnExactHexText0
import Derived.Test.YtopegnodgdlidaaM1
/-! Laws of sizes, copies and comparisons. -/
namespace Go.Sym
open Go
set_option maxRecDepth 100000
set_option linter.unusedVariables false
/- toByteS -/
theorem T12 (n : Nat) (hn : 1048577 ≤ n) (x0 : List (UInt8)) (hz : List.length x0 ≤ 1048576) : f12 n x0 = some (x0, ()) := by
  exact to_slice (L := f12L0 n) (F := fun x k => k x) (b := 1) hn (by decide) hz (fun _ _ _ => rfl) (fun m i out => rfl)
/- eqByteS -/
theorem Q14 (n : Nat) (hn : 1048577 ≤ n) (x0 : List (UInt8)) (hz : List.length x0 ≤ 1048576) : f14 n x0 x0 = some (true, ()) := by
  exact eq_slice (L := f14L0 n) (E := fun x y k => if ((↑x.toNat : Int) != (↑y.toNat : Int)) = true then some (false, ()) else k) hn hz (fun x _ k => by simp) (fun m i => rfl)
end Go.Sym

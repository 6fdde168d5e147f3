import Derived.Test.YtopegnodgdlidaaPFnExactParseHex0
import Derived.Test.YtopegnodgdlidaaM2
/-! Laws of sizes, copies and comparisons. -/
namespace Go.Sym
open Go
set_option maxRecDepth 100000
set_option linter.unusedVariables false
/- eqByteS -/
theorem Q14 (n : Nat) (hn : 1048577 ≤ n) (x0 : List (UInt8)) (hz : List.length x0 ≤ 1048576) : f14 n x0 x0 = some (true, ()) := by
  exact eq_slice (L := f14L0 n) (E := fun x y k => if ((↑x.toNat : Int) != (↑y.toNat : Int)) = true then some (false, ()) else k) hn hz (fun x _ k => by simp) (fun m i => rfl)
end Go.Sym

import Derived.Test.YtfeaificmendeaaGreatDoorPFnShown0
import Derived.Test.YtfeaificmendeaaGreatDoorBase8
/-! Laws of sizes, copies and comparisons. -/
namespace Go.Sym
open Go
set_option maxRecDepth 100000
set_option linter.unusedVariables false
end Go.Sym

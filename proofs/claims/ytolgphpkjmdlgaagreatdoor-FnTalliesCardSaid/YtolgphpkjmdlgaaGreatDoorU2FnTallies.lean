import Derived.Test.YtolgphpkjmdlgaaGreatDoorBase8
namespace Go.Sym
open Go
set_option maxRecDepth 100000
set_option linter.unusedVariables false
end Go.Sym

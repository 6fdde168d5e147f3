import GoSem.Core.World
/-! What a world's tables hold (here: nothing is asked). -/
namespace Go.Sym
def Tabs (_ : World) : Prop := True
theorem Tabs_any (w : World) : Tabs w := trivial
end Go.Sym

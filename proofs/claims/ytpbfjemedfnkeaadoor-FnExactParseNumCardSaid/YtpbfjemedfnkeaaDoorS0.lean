import Derived.Test.YtpbfjemedfnkeaaDoorProg
import Derived.Shelf.Strconv.Itoa3
/-! What a world's tables hold: the library's table of the powers of ten, and two errors. -/
namespace Go.Sym
open Go.Proofs
def Tabs (w : World) : Prop := Lib.TabIs Tryd.prog w "internal/strconv.uint64pow10" .u64 Lib.pow10Tab ∧ (∃ tp p, w.var? Tryd.prog "strconv.ErrSyntax" = some #[.iface tp p]) ∧ (∃ tp p, w.var? Tryd.prog "strconv.ErrRange" = some #[.iface tp p])
end Go.Sym

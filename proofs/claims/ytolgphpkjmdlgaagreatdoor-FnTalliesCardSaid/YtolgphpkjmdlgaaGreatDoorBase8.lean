import Derived.Test.YtolgphpkjmdlgaaGreatDoorBase6
import Derived.Test.YtolgphpkjmdlgaaGreatDoorBase7
namespace Go.Sym
open Go
theorem W_same {x : Int} (h0 : -9223372036854775808 ≤ x) (h1 : x ≤ 9223372036854775807) : W x = x := by
  show IntKind.i64.wrap x = x
  rw [IntKind.wrap_i64]
  omega
theorem obind_some {α β : Type} (a : α) (f : α → Option β) : obind (some a) f = f a := by rw [obind_eq]; rfl
theorem rd_get {α : Type} [Inhabited α] {l : List α} {i : Nat} (h : i < l.length) : rd l (i : Int) = l[i] := by
  unfold rd
  simp [h]
theorem inR_nat {n i : Nat} : inR n (i : Int) = decide (i < n) := by
  unfold inR
  simp
end Go.Sym
namespace Go.Sym
open Go
end Go.Sym

import Derived.Test.YtopegnodgdlidaaPFnExactMeantAt0
import Derived.Test.YtopegnodgdlidaaM1
/-! Laws of sizes, copies and comparisons. -/
namespace Go.Sym
open Go
set_option maxRecDepth 100000
set_option linter.unusedVariables false
/- szMeant -/
theorem Z37 (n : Nat) (hn : 1048577 ≤ n) (x0 : List UInt8) (x1 : List UInt8) (x2 : Int) (left : Int) (h0 : 0 ≤ left) (h1 : left ≤ 1048576) (hf0 : Ty.Fit (.str) x0) (hf1 : Ty.Fit (.str) x1) : f37 n x0 x1 x2 left = szR left ((List.length x0 + (List.length x1 + 0))) := by
  unfold f37
  refine szR_lenK h0 h1 hf0 (fun v1 hv1 hv1a hv1b => ?_)
  rw [← hv1]
  refine szR_lenK hv1a (Int.le_trans hv1b h1) hf1 (fun v2 hv2 hv2a hv2b => ?_)
  rw [← hv2]
  exact szR_zero hv2a
def z55 (x : D55) : Nat := (List.length (x.1) + (List.length (x.2.1) + 0))
/- szMeantS -/
theorem Z21 (n : Nat) (hn : 1048577 ≤ n) (x0 : List (D55)) (left : Int) (h0 : 0 ≤ left) (h1 : left ≤ 1048576) (hf0 : Ty.Fit (.sl (ty55)) x0) : f21 n x0 left = szR left (szL z55 x0) := by
  exact szR_slice (L := f21L0 n) (F := fun x v => f37 n (x.1) (x.2.1) (x.2.2) v) (g := z55) hn h0 h1 hf0.1 (fun x hx v hv0 hv1 => Z37 n hn (x.1) (x.2.1) (x.2.2) v hv0 hv1 (hf0.2 x hx).1 (hf0.2 x hx).2.1) (fun m left i => rfl)
/- toMeant -/
theorem T38 (n : Nat) (hn : 1048577 ≤ n) (x0 : List UInt8) (x1 : List UInt8) (x2 : Int) (hz : (List.length x0 + (List.length x1 + 0)) ≤ 1048576) : f38 n x0 x1 x2 = some (x0, x1, x2, ()) := by
  rfl
/- toMeantS -/
theorem T23 (n : Nat) (hn : 1048577 ≤ n) (x0 : List (D55)) (hz : szL z55 x0 ≤ 1048576) : f23 n x0 = some (x0, ()) := by
  exact to_slice (L := f23L0 n) (F := fun x k => obind (f38 n (x.1) (x.2.1) (x.2.2)) fun r => k (r.1, r.2.1, r.2.2.1)) (b := 40) hn (by decide) (szL_len hz) (fun x hx k => by rw [T38 n hn (x.1) (x.2.1) (x.2.2) (szL_le (g := z55) hx hz), obind_some]) (fun m i out => rfl)
/- eqMeant -/
theorem Q39 (n : Nat) (hn : 1048577 ≤ n) (x0 : List UInt8) (x1 : List UInt8) (x2 : Int) (hz : (List.length x0 + (List.length x1 + 0)) ≤ 1048576) : f39 n x0 x1 x2 x0 x1 x2 = some (true, ()) := by
  unfold f39
  simp
/- eqMeantS -/
theorem Q25 (n : Nat) (hn : 1048577 ≤ n) (x0 : List (D55)) (hz : szL z55 x0 ≤ 1048576) : f25 n x0 x0 = some (true, ()) := by
  exact eq_slice (L := f25L0 n) (E := fun x y k => obind (f39 n (x.1) (x.2.1) (x.2.2) (y.1) (y.2.1) (y.2.2)) fun r => if (!r.1) = true then some (false, ()) else k) hn (szL_len hz) (fun x hx k => by rw [Q39 n hn (x.1) (x.2.1) (x.2.2) (szL_le (g := z55) hx hz), obind_some]; rfl) (fun m i => rfl)
end Go.Sym

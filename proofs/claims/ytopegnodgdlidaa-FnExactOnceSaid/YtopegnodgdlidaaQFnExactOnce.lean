import Derived.Test.YtopegnodgdlidaaPFnExactOnce0
import Derived.Test.YtopegnodgdlidaaM1
/-! Laws of sizes, copies and comparisons. -/
namespace Go.Sym
open Go
set_option maxRecDepth 100000
set_option linter.unusedVariables false
/- szAct -/
theorem Z40 (n : Nat) (hn : 1048577 ≤ n) (x0 : Int) (x1 : Int) (x2 : Int) (x3 : List UInt8) (x4 : List UInt8) (x5 : Int) (left : Int) (h0 : 0 ≤ left) (h1 : left ≤ 1048576) (hf3 : Ty.Fit (.str) x3) (hf4 : Ty.Fit (.str) x4) : f40 n x0 x1 x2 x3 x4 x5 left = szR left ((List.length x3 + (List.length x4 + 0))) := by
  unfold f40
  refine szR_lenK h0 h1 hf3 (fun v1 hv1 hv1a hv1b => ?_)
  rw [← hv1]
  refine szR_lenK hv1a (Int.le_trans hv1b h1) hf4 (fun v2 hv2 hv2a hv2b => ?_)
  rw [← hv2]
  exact szR_zero hv2a
def z61 (x : D61) : Nat := (List.length (x.2.2.2.1) + (List.length (x.2.2.2.2.1) + 0))
/- szActS -/
theorem Z26 (n : Nat) (hn : 1048577 ≤ n) (x0 : List (D61)) (left : Int) (h0 : 0 ≤ left) (h1 : left ≤ 1048576) (hf0 : Ty.Fit (.sl (ty61)) x0) : f26 n x0 left = szR left (szL z61 x0) := by
  exact szR_slice (L := f26L0 n) (F := fun x v => f40 n (x.1) (x.2.1) (x.2.2.1) (x.2.2.2.1) (x.2.2.2.2.1) (x.2.2.2.2.2) v) (g := z61) hn h0 h1 hf0.1 (fun x hx v hv0 hv1 => Z40 n hn (x.1) (x.2.1) (x.2.2.1) (x.2.2.2.1) (x.2.2.2.2.1) (x.2.2.2.2.2) v hv0 hv1 (hf0.2 x hx).2.2.2.1 (hf0.2 x hx).2.2.2.2.1) (fun m left i => rfl)
/- toAct -/
theorem T41 (n : Nat) (hn : 1048577 ≤ n) (x0 : Int) (x1 : Int) (x2 : Int) (x3 : List UInt8) (x4 : List UInt8) (x5 : Int) (hz : (List.length x3 + (List.length x4 + 0)) ≤ 1048576) : f41 n x0 x1 x2 x3 x4 x5 = some (x0, x1, x2, x3, x4, x5, ()) := by
  rfl
/- toActS -/
theorem T28 (n : Nat) (hn : 1048577 ≤ n) (x0 : List (D61)) (hz : szL z61 x0 ≤ 1048576) : f28 n x0 = some (x0, ()) := by
  exact to_slice (L := f28L0 n) (F := fun x k => obind (f41 n (x.1) (x.2.1) (x.2.2.1) (x.2.2.2.1) (x.2.2.2.2.1) (x.2.2.2.2.2)) fun r => k (r.1, r.2.1, r.2.2.1, r.2.2.2.1, r.2.2.2.2.1, r.2.2.2.2.2.1)) (b := 64) hn (by decide) (szL_len hz) (fun x hx k => by rw [T41 n hn (x.1) (x.2.1) (x.2.2.1) (x.2.2.2.1) (x.2.2.2.2.1) (x.2.2.2.2.2) (szL_le (g := z61) hx hz), obind_some]) (fun m i out => rfl)
/- eqAct -/
theorem Q42 (n : Nat) (hn : 1048577 ≤ n) (x0 : Int) (x1 : Int) (x2 : Int) (x3 : List UInt8) (x4 : List UInt8) (x5 : Int) (hz : (List.length x3 + (List.length x4 + 0)) ≤ 1048576) : f42 n x0 x1 x2 x3 x4 x5 x0 x1 x2 x3 x4 x5 = some (true, ()) := by
  unfold f42
  simp
/- eqActS -/
theorem Q30 (n : Nat) (hn : 1048577 ≤ n) (x0 : List (D61)) (hz : szL z61 x0 ≤ 1048576) : f30 n x0 x0 = some (true, ()) := by
  exact eq_slice (L := f30L0 n) (E := fun x y k => obind (f42 n (x.1) (x.2.1) (x.2.2.1) (x.2.2.2.1) (x.2.2.2.2.1) (x.2.2.2.2.2) (y.1) (y.2.1) (y.2.2.1) (y.2.2.2.1) (y.2.2.2.2.1) (y.2.2.2.2.2)) fun r => if (!r.1) = true then some (false, ()) else k) hn (szL_len hz) (fun x hx k => by rw [Q42 n hn (x.1) (x.2.1) (x.2.2.1) (x.2.2.2.1) (x.2.2.2.2.1) (x.2.2.2.2.2) (szL_le (g := z61) hx hz), obind_some]; rfl) (fun m i => rfl)
end Go.Sym

import Derived.Test.YtgaeiofkkklglaaDoorPFnExactWhyAside0
import Derived.Test.YtgaeiofkkklglaaDoorBase7
/-! Laws of sizes, copies and comparisons. -/
namespace Go.Sym
open Go
set_option maxRecDepth 100000
set_option linter.unusedVariables false
/- szByteS -/
theorem Z32 (n : Nat) (hn : 1048577 ≤ n) (x0 : List (UInt8)) (left : Int) (h0 : 0 ≤ left) (h1 : left ≤ 1048576) (hf0 : Ty.Fit (.sl (.u8)) x0) : f32 n x0 left = szR left (List.length x0) := by
  exact szR_last h0 h1 hf0.1
/- szCell -/
theorem Z15 (n : Nat) (hn : 1048577 ≤ n) (x0 : Int) (x1 : List (UInt8)) (left : Int) (h0 : 0 ≤ left) (h1 : left ≤ 1048576) (hf1 : Ty.Fit (.sl (.u8)) x1) : f15 n x0 x1 left = szR left ((List.length x1 + 0)) := by
  unfold f15
  rw [Z32 n hn x1 left h0 h1 hf1]
  refine szR_bindK h0 (fun v1 hv1a hv1b => ?_)
  dsimp only
  exact szR_zero hv1a
/- szRow -/
theorem Z5 (n : Nat) (hn : 1048577 ≤ n) (x0 : List UInt8) (x1 : Int) (x2 : List (UInt8)) (x3 : Int) (x4 : List (UInt8)) (x5 : Int) (x6 : Bool) (left : Int) (h0 : 0 ≤ left) (h1 : left ≤ 1048576) (hf0 : Ty.Fit (.str) x0) (hf2 : Ty.Fit (.sl (.u8)) x2) (hf4 : Ty.Fit (.sl (.u8)) x4) : f5 n x0 x1 x2 x3 x4 x5 x6 left = szR left ((List.length x0 + ((List.length x2 + 0) + ((List.length x4 + 0) + 0)))) := by
  unfold f5
  refine szR_lenK h0 h1 hf0 (fun v1 hv1 hv1a hv1b => ?_)
  rw [← hv1]
  rw [Z15 n hn x1 x2 v1 hv1a (Int.le_trans hv1b h1) hf2]
  refine szR_bindK hv1a (fun v2 hv2a hv2b => ?_)
  dsimp only
  rw [Z15 n hn x3 x4 v2 hv2a (Int.le_trans hv2b (Int.le_trans hv1b h1)) hf4]
  refine szR_bindK hv2a (fun v3 hv3a hv3b => ?_)
  dsimp only
  exact szR_zero hv3a
/- toByteS -/
theorem T41 (n : Nat) (hn : 1048577 ≤ n) (x0 : List (UInt8)) (hz : List.length x0 ≤ 1048576) : f41 n x0 = some (x0, ()) := by
  exact to_slice (L := f41L0 n) (F := fun x k => k x) (b := 1) hn (by decide) hz (fun _ _ _ => rfl) (fun m i out => rfl)
/- toCell -/
theorem T21 (n : Nat) (hn : 1048577 ≤ n) (x0 : Int) (x1 : List (UInt8)) (hz : (List.length x1 + 0) ≤ 1048576) : f21 n x0 x1 = some (x0, x1, ()) := by
  unfold f21
  rw [T41 n hn x1 (by have h1 := hz; first | exact h1 | omega), obind_some]
/- toRow -/
theorem T7 (n : Nat) (hn : 1048577 ≤ n) (x0 : List UInt8) (x1 : Int) (x2 : List (UInt8)) (x3 : Int) (x4 : List (UInt8)) (x5 : Int) (x6 : Bool) (hz : (List.length x0 + ((List.length x2 + 0) + ((List.length x4 + 0) + 0))) ≤ 1048576) : f7 n x0 x1 x2 x3 x4 x5 x6 = some (x0, x1, x3, x5, x6, x2, x4, ()) := by
  unfold f7
  rw [T21 n hn x1 x2 (by have h1 := hz; first | exact h1 | omega), obind_some]
  rw [T21 n hn x3 x4 (by have h1 := hz; first | exact h1 | omega), obind_some]
/- eqByteS -/
theorem Q50 (n : Nat) (hn : 1048577 ≤ n) (x0 : List (UInt8)) (hz : List.length x0 ≤ 1048576) : f50 n x0 x0 = some (true, ()) := by
  exact eq_slice (L := f50L0 n) (E := fun x y k => if ((↑x.toNat : Int) != (↑y.toNat : Int)) = true then some (false, ()) else k) hn hz (fun x _ k => by simp) (fun m i => rfl)
/- eqCell -/
theorem Q25 (n : Nat) (hn : 1048577 ≤ n) (x0 : Int) (x1 : List (UInt8)) (hz : (List.length x1 + 0) ≤ 1048576) : f25 n x0 x1 x0 x1 = some (true, ()) := by
  unfold f25
  rw [Q50 n hn x1 (by have h1 := hz; first | exact h1 | omega)]
  simp [obind_some]
/- eqRow -/
theorem Q9 (n : Nat) (hn : 1048577 ≤ n) (x0 : List UInt8) (x1 : Int) (x2 : List (UInt8)) (x3 : Int) (x4 : List (UInt8)) (x5 : Int) (x6 : Bool) (hz : (List.length x0 + ((List.length x2 + 0) + ((List.length x4 + 0) + 0))) ≤ 1048576) : f9 n x0 x1 x2 x3 x4 x5 x6 x0 x1 x2 x3 x4 x5 x6 = some (true, ()) := by
  unfold f9
  rw [Q25 n hn x1 x2 (by have h1 := hz; first | exact h1 | omega)]
  rw [Q25 n hn x3 x4 (by have h1 := hz; first | exact h1 | omega)]
  simp [obind_some]
end Go.Sym

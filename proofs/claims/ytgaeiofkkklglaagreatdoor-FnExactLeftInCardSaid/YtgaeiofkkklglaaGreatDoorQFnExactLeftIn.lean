import Derived.Test.YtgaeiofkkklglaaGreatDoorPFnExactLeftIn0
import Derived.Test.YtgaeiofkkklglaaGreatDoorBase7
/-! Laws of sizes, copies and comparisons. -/
namespace Go.Sym
open Go
set_option maxRecDepth 100000
set_option linter.unusedVariables false
/- szByteS -/
theorem Z148 (n : Nat) (hn : 1048577 ≤ n) (x0 : List (UInt8)) (left : Int) (h0 : 0 ≤ left) (h1 : left ≤ 1048576) (hf0 : Ty.Fit (.sl (.u8)) x0) : f148 n x0 left = szR left (List.length x0) := by
  exact szR_last h0 h1 hf0.1
/- szByteSS -/
theorem Z108 (n : Nat) (hn : 1048577 ≤ n) (x0 : List (List (UInt8))) (left : Int) (h0 : 0 ≤ left) (h1 : left ≤ 1048576) (hf0 : Ty.Fit (.sl (.sl (.u8))) x0) : f108 n x0 left = szR left (szL (fun l : List (UInt8) => l.length) x0) := by
  exact szR_slice (L := f108L0 n) (F := fun x v => f148 n x v) (g := (fun l : List (UInt8) => l.length)) hn h0 h1 hf0.1 (fun x hx v hv0 hv1 => Z148 n hn x v hv0 hv1 (hf0.2 x hx)) (fun m left i => rfl)
/- szWr -/
theorem Z149 (n : Nat) (hn : 1048577 ≤ n) (x0 : Int) (x1 : List (UInt8)) (left : Int) (h0 : 0 ≤ left) (h1 : left ≤ 1048576) (hf1 : Ty.Fit (.sl (.u8)) x1) : f149 n x0 x1 left = szR left ((List.length x1 + 0)) := by
  unfold f149
  rw [Z148 n hn x1 left h0 h1 hf1]
  refine szR_bindK h0 (fun v1 hv1a hv1b => ?_)
  dsimp only
  exact szR_zero hv1a
def z77 (x : D77) : Nat := (List.length (x.2) + 0)
/- szWrS -/
theorem Z109 (n : Nat) (hn : 1048577 ≤ n) (x0 : List (D77)) (left : Int) (h0 : 0 ≤ left) (h1 : left ≤ 1048576) (hf0 : Ty.Fit (.sl (ty77)) x0) : f109 n x0 left = szR left (szL z77 x0) := by
  exact szR_slice (L := f109L0 n) (F := fun x v => f149 n (x.1) (x.2) v) (g := z77) hn h0 h1 hf0.1 (fun x hx v hv0 hv1 => Z149 n hn (x.1) (x.2) v hv0 hv1 (hf0.2 x hx).2) (fun m left i => rfl)
/- szDev -/
theorem Z57 (n : Nat) (hn : 1048577 ≤ n) (x0 : List (List (UInt8))) (x1 : List (D77)) (x2 : Int) (x3 : Bool) (left : Int) (h0 : 0 ≤ left) (h1 : left ≤ 1048576) (hf0 : Ty.Fit (.sl (.sl (.u8))) x0) (hf1 : Ty.Fit (.sl (ty77)) x1) : f57 n x0 x1 x2 x3 left = szR left ((szL (fun l : List (UInt8) => l.length) x0 + (szL z77 x1 + 0))) := by
  unfold f57
  rw [Z108 n hn x0 left h0 h1 hf0]
  refine szR_bindK h0 (fun v1 hv1a hv1b => ?_)
  dsimp only
  rw [Z109 n hn x1 v1 hv1a (Int.le_trans hv1b h1) hf1]
  refine szR_bindK hv1a (fun v2 hv2a hv2b => ?_)
  dsimp only
  exact szR_zero hv2a
/- szCell -/
theorem Z181 (n : Nat) (hn : 1048577 ≤ n) (x0 : Int) (x1 : List (UInt8)) (left : Int) (h0 : 0 ≤ left) (h1 : left ≤ 1048576) (hf1 : Ty.Fit (.sl (.u8)) x1) : f181 n x0 x1 left = szR left ((List.length x1 + 0)) := by
  unfold f181
  rw [Z148 n hn x1 left h0 h1 hf1]
  refine szR_bindK h0 (fun v1 hv1a hv1b => ?_)
  dsimp only
  exact szR_zero hv1a
/- szRow -/
theorem Z150 (n : Nat) (hn : 1048577 ≤ n) (x0 : List UInt8) (x1 : Int) (x2 : List (UInt8)) (x3 : Int) (x4 : List (UInt8)) (x5 : Int) (x6 : Bool) (left : Int) (h0 : 0 ≤ left) (h1 : left ≤ 1048576) (hf0 : Ty.Fit (.str) x0) (hf2 : Ty.Fit (.sl (.u8)) x2) (hf4 : Ty.Fit (.sl (.u8)) x4) : f150 n x0 x1 x2 x3 x4 x5 x6 left = szR left ((List.length x0 + ((List.length x2 + 0) + ((List.length x4 + 0) + 0)))) := by
  unfold f150
  refine szR_lenK h0 h1 hf0 (fun v1 hv1 hv1a hv1b => ?_)
  rw [← hv1]
  rw [Z181 n hn x1 x2 v1 hv1a (Int.le_trans hv1b h1) hf2]
  refine szR_bindK hv1a (fun v2 hv2a hv2b => ?_)
  dsimp only
  rw [Z181 n hn x3 x4 v2 hv2a (Int.le_trans hv2b (Int.le_trans hv1b h1)) hf4]
  refine szR_bindK hv2a (fun v3 hv3a hv3b => ?_)
  dsimp only
  exact szR_zero hv3a
def z79 (x : D79) : Nat := (List.length (x.1) + ((List.length (x.2.1.2) + 0) + ((List.length (x.2.2.1.2) + 0) + 0)))
/- szRowS -/
theorem Z110 (n : Nat) (hn : 1048577 ≤ n) (x0 : List (D79)) (left : Int) (h0 : 0 ≤ left) (h1 : left ≤ 1048576) (hf0 : Ty.Fit (.sl (ty79)) x0) : f110 n x0 left = szR left (szL z79 x0) := by
  exact szR_slice (L := f110L0 n) (F := fun x v => f150 n (x.1) (x.2.1.1) (x.2.1.2) (x.2.2.1.1) (x.2.2.1.2) (x.2.2.2.1) (x.2.2.2.2) v) (g := z79) hn h0 h1 hf0.1 (fun x hx v hv0 hv1 => Z150 n hn (x.1) (x.2.1.1) (x.2.1.2) (x.2.2.1.1) (x.2.2.1.2) (x.2.2.2.1) (x.2.2.2.2) v hv0 hv1 (hf0.2 x hx).1 (hf0.2 x hx).2.1.2 (hf0.2 x hx).2.2.1.2) (fun m left i => rfl)
/- szMarkS -/
theorem Z111 (n : Nat) (hn : 1048577 ≤ n) (x0 : List (D206)) (left : Int) (h0 : 0 ≤ left) (h1 : left ≤ 1048576) (hf0 : Ty.Fit (.sl (ty206)) x0) : f111 n x0 left = szR left (List.length x0) := by
  exact szR_last h0 h1 hf0.1
/- szTab -/
theorem Z58 (n : Nat) (hn : 1048577 ≤ n) (x0 : List (D79)) (x1 : Int) (x2 : List (D206)) (left : Int) (h0 : 0 ≤ left) (h1 : left ≤ 1048576) (hf0 : Ty.Fit (.sl (ty79)) x0) (hf2 : Ty.Fit (.sl (ty206)) x2) : f58 n x0 x1 x2 left = szR left ((szL z79 x0 + (List.length x2 + 0))) := by
  unfold f58
  rw [Z110 n hn x0 left h0 h1 hf0]
  refine szR_bindK h0 (fun v1 hv1a hv1b => ?_)
  dsimp only
  rw [Z111 n hn x2 v1 hv1a (Int.le_trans hv1b h1) hf2]
  refine szR_bindK hv1a (fun v2 hv2a hv2b => ?_)
  dsimp only
  exact szR_zero hv2a
/- szStore -/
theorem Z18 (n : Nat) (hn : 1048577 ≤ n) (x0 : List (List (UInt8))) (x1 : List (D77)) (x2 : Int) (x3 : Bool) (x4 : List (D79)) (x5 : Int) (x6 : List (D206)) (x7 : Int) (x8 : Int) (left : Int) (h0 : 0 ≤ left) (h1 : left ≤ 1048576) (hf0 : Ty.Fit (.sl (.sl (.u8))) x0) (hf1 : Ty.Fit (.sl (ty77)) x1) (hf4 : Ty.Fit (.sl (ty79)) x4) (hf6 : Ty.Fit (.sl (ty206)) x6) : f18 n x0 x1 x2 x3 x4 x5 x6 x7 x8 left = szR left (((szL (fun l : List (UInt8) => l.length) x0 + (szL z77 x1 + 0)) + ((szL z79 x4 + (List.length x6 + 0)) + 0))) := by
  unfold f18
  rw [Z57 n hn x0 x1 x2 x3 left h0 h1 hf0 hf1]
  refine szR_bindK h0 (fun v1 hv1a hv1b => ?_)
  dsimp only
  rw [Z58 n hn x4 x5 x6 v1 hv1a (Int.le_trans hv1b h1) hf4 hf6]
  refine szR_bindK hv1a (fun v2 hv2a hv2b => ?_)
  dsimp only
  exact szR_zero hv2a
/- szNode -/
theorem Z6 (n : Nat) (hn : 1048577 ≤ n) (x0 : List (List (UInt8))) (x1 : List (D77)) (x2 : Int) (x3 : Bool) (x4 : List (D79)) (x5 : Int) (x6 : List (D206)) (x7 : Int) (x8 : Int) (x9 : Int) (left : Int) (h0 : 0 ≤ left) (h1 : left ≤ 1048576) (hf0 : Ty.Fit (.sl (.sl (.u8))) x0) (hf1 : Ty.Fit (.sl (ty77)) x1) (hf4 : Ty.Fit (.sl (ty79)) x4) (hf6 : Ty.Fit (.sl (ty206)) x6) : f6 n x0 x1 x2 x3 x4 x5 x6 x7 x8 x9 left = szR left ((((szL (fun l : List (UInt8) => l.length) x0 + (szL z77 x1 + 0)) + ((szL z79 x4 + (List.length x6 + 0)) + 0)) + 0)) := by
  unfold f6
  rw [Z18 n hn x0 x1 x2 x3 x4 x5 x6 x7 x8 left h0 h1 hf0 hf1 hf4 hf6]
  refine szR_bindK h0 (fun v1 hv1a hv1b => ?_)
  dsimp only
  exact szR_zero hv1a
/- toByteS -/
theorem T158 (n : Nat) (hn : 1048577 ≤ n) (x0 : List (UInt8)) (hz : List.length x0 ≤ 1048576) : f158 n x0 = some (x0, ()) := by
  exact to_slice (L := f158L0 n) (F := fun x k => k x) (b := 1) hn (by decide) hz (fun _ _ _ => rfl) (fun m i out => rfl)
/- toByteSS -/
theorem T117 (n : Nat) (hn : 1048577 ≤ n) (x0 : List (List (UInt8))) (hz : szL (fun l : List (UInt8) => l.length) x0 ≤ 1048576) : f117 n x0 = some (x0, ()) := by
  exact to_slice (L := f117L0 n) (F := fun x k => obind (f158 n x) fun r => k r.1) (b := 24) hn (by decide) (szL_len hz) (fun x hx k => by rw [T158 n hn x (szL_le (g := (fun l : List (UInt8) => l.length)) hx hz), obind_some]) (fun m i out => rfl)
/- toWr -/
theorem T159 (n : Nat) (hn : 1048577 ≤ n) (x0 : Int) (x1 : List (UInt8)) (hz : (List.length x1 + 0) ≤ 1048576) : f159 n x0 x1 = some (x0, x1, ()) := by
  unfold f159
  rw [T158 n hn x1 (by have h1 := hz; first | exact h1 | omega), obind_some]
/- toWrS -/
theorem T118 (n : Nat) (hn : 1048577 ≤ n) (x0 : List (D77)) (hz : szL z77 x0 ≤ 1048576) : f118 n x0 = some (x0, ()) := by
  exact to_slice (L := f118L0 n) (F := fun x k => obind (f159 n (x.1) (x.2)) fun r => k (r.1, r.2.1)) (b := 32) hn (by decide) (szL_len hz) (fun x hx k => by rw [T159 n hn (x.1) (x.2) (szL_le (g := z77) hx hz), obind_some]) (fun m i out => rfl)
/- toDev -/
theorem T64 (n : Nat) (hn : 1048577 ≤ n) (x0 : List (List (UInt8))) (x1 : List (D77)) (x2 : Int) (x3 : Bool) (hz : (szL (fun l : List (UInt8) => l.length) x0 + (szL z77 x1 + 0)) ≤ 1048576) : f64 n x0 x1 x2 x3 = some (x2, x3, x0, x1, ()) := by
  unfold f64
  rw [T117 n hn x0 (by have h1 := hz; first | exact h1 | omega), obind_some]
  rw [T118 n hn x1 (by have h1 := hz; first | exact h1 | omega), obind_some]
/- toCell -/
theorem T185 (n : Nat) (hn : 1048577 ≤ n) (x0 : Int) (x1 : List (UInt8)) (hz : (List.length x1 + 0) ≤ 1048576) : f185 n x0 x1 = some (x0, x1, ()) := by
  unfold f185
  rw [T158 n hn x1 (by have h1 := hz; first | exact h1 | omega), obind_some]
/- toRow -/
theorem T160 (n : Nat) (hn : 1048577 ≤ n) (x0 : List UInt8) (x1 : Int) (x2 : List (UInt8)) (x3 : Int) (x4 : List (UInt8)) (x5 : Int) (x6 : Bool) (hz : (List.length x0 + ((List.length x2 + 0) + ((List.length x4 + 0) + 0))) ≤ 1048576) : f160 n x0 x1 x2 x3 x4 x5 x6 = some (x0, x1, x3, x5, x6, x2, x4, ()) := by
  unfold f160
  rw [T185 n hn x1 x2 (by have h1 := hz; first | exact h1 | omega), obind_some]
  rw [T185 n hn x3 x4 (by have h1 := hz; first | exact h1 | omega), obind_some]
/- toRowS -/
theorem T119 (n : Nat) (hn : 1048577 ≤ n) (x0 : List (D79)) (hz : szL z79 x0 ≤ 1048576) : f119 n x0 = some (x0, ()) := by
  exact to_slice (L := f119L0 n) (F := fun x k => obind (f160 n (x.1) (x.2.1.1) (x.2.1.2) (x.2.2.1.1) (x.2.2.1.2) (x.2.2.2.1) (x.2.2.2.2)) fun r => k (r.1, (r.2.1, r.2.2.2.2.2.1), (r.2.2.1, r.2.2.2.2.2.2.1), r.2.2.2.1, r.2.2.2.2.1)) (b := 96) hn (by decide) (szL_len hz) (fun x hx k => by rw [T160 n hn (x.1) (x.2.1.1) (x.2.1.2) (x.2.2.1.1) (x.2.2.1.2) (x.2.2.2.1) (x.2.2.2.2) (szL_le (g := z79) hx hz), obind_some]) (fun m i out => rfl)
/- toMark -/
theorem T161 (n : Nat) (hn : 1048577 ≤ n) (x0 : Int) (x1 : Int) (x2 : Int) (hz : 0 ≤ 1048576) : f161 n x0 x1 x2 = some (x0, x1, x2, ()) := by
  rfl
/- toMarkS -/
theorem T120 (n : Nat) (hn : 1048577 ≤ n) (x0 : List (D206)) (hz : List.length x0 ≤ 1048576) : f120 n x0 = some (x0, ()) := by
  exact to_slice (L := f120L0 n) (F := fun x k => obind (f161 n (x.1) (x.2.1) (x.2.2)) fun r => k (r.1, r.2.1, r.2.2.1)) (b := 24) hn (by decide) hz (fun x hx k => by rw [T161 n hn (x.1) (x.2.1) (x.2.2) (Nat.zero_le _), obind_some]) (fun m i out => rfl)
/- toTab -/
theorem T65 (n : Nat) (hn : 1048577 ≤ n) (x0 : List (D79)) (x1 : Int) (x2 : List (D206)) (hz : (szL z79 x0 + (List.length x2 + 0)) ≤ 1048576) : f65 n x0 x1 x2 = some (x1, x0, x2, ()) := by
  unfold f65
  rw [T119 n hn x0 (by have h1 := hz; first | exact h1 | omega), obind_some]
  rw [T120 n hn x2 (by have h1 := hz; first | exact h1 | omega), obind_some]
/- toStore -/
theorem T22 (n : Nat) (hn : 1048577 ≤ n) (x0 : List (List (UInt8))) (x1 : List (D77)) (x2 : Int) (x3 : Bool) (x4 : List (D79)) (x5 : Int) (x6 : List (D206)) (x7 : Int) (x8 : Int) (hz : ((szL (fun l : List (UInt8) => l.length) x0 + (szL z77 x1 + 0)) + ((szL z79 x4 + (List.length x6 + 0)) + 0)) ≤ 1048576) : f22 n x0 x1 x2 x3 x4 x5 x6 x7 x8 = some (x2, x3, x5, x7, x8, x0, x1, x4, x6, ()) := by
  unfold f22
  rw [T64 n hn x0 x1 x2 x3 (by have h1 := hz; first | exact h1 | omega), obind_some]
  rw [T65 n hn x4 x5 x6 (by have h1 := hz; first | exact h1 | omega), obind_some]
/- toNode -/
theorem T8 (n : Nat) (hn : 1048577 ≤ n) (x0 : List (List (UInt8))) (x1 : List (D77)) (x2 : Int) (x3 : Bool) (x4 : List (D79)) (x5 : Int) (x6 : List (D206)) (x7 : Int) (x8 : Int) (x9 : Int) (hz : (((szL (fun l : List (UInt8) => l.length) x0 + (szL z77 x1 + 0)) + ((szL z79 x4 + (List.length x6 + 0)) + 0)) + 0) ≤ 1048576) : f8 n x0 x1 x2 x3 x4 x5 x6 x7 x8 x9 = some (x2, x3, x5, x7, x8, x9, x0, x1, x4, x6, ()) := by
  unfold f8
  rw [T22 n hn x0 x1 x2 x3 x4 x5 x6 x7 x8 (by have h1 := hz; first | exact h1 | omega), obind_some]
/- eqByteS -/
theorem Q167 (n : Nat) (hn : 1048577 ≤ n) (x0 : List (UInt8)) (hz : List.length x0 ≤ 1048576) : f167 n x0 x0 = some (true, ()) := by
  exact eq_slice (L := f167L0 n) (E := fun x y k => if ((↑x.toNat : Int) != (↑y.toNat : Int)) = true then some (false, ()) else k) hn hz (fun x _ k => by simp) (fun m i => rfl)
/- eqByteSS -/
theorem Q124 (n : Nat) (hn : 1048577 ≤ n) (x0 : List (List (UInt8))) (hz : szL (fun l : List (UInt8) => l.length) x0 ≤ 1048576) : f124 n x0 x0 = some (true, ()) := by
  exact eq_slice (L := f124L0 n) (E := fun x y k => obind (f167 n x y) fun r => if (!r.1) = true then some (false, ()) else k) hn (szL_len hz) (fun x hx k => by rw [Q167 n hn x (szL_le (g := (fun l : List (UInt8) => l.length)) hx hz), obind_some]; rfl) (fun m i => rfl)
/- eqWr -/
theorem Q168 (n : Nat) (hn : 1048577 ≤ n) (x0 : Int) (x1 : List (UInt8)) (hz : (List.length x1 + 0) ≤ 1048576) : f168 n x0 x1 x0 x1 = some (true, ()) := by
  unfold f168
  rw [Q167 n hn x1 (by have h1 := hz; first | exact h1 | omega)]
  simp [obind_some]
/- eqWrS -/
theorem Q125 (n : Nat) (hn : 1048577 ≤ n) (x0 : List (D77)) (hz : szL z77 x0 ≤ 1048576) : f125 n x0 x0 = some (true, ()) := by
  exact eq_slice (L := f125L0 n) (E := fun x y k => obind (f168 n (x.1) (x.2) (y.1) (y.2)) fun r => if (!r.1) = true then some (false, ()) else k) hn (szL_len hz) (fun x hx k => by rw [Q168 n hn (x.1) (x.2) (szL_le (g := z77) hx hz), obind_some]; rfl) (fun m i => rfl)
/- eqDev -/
theorem Q70 (n : Nat) (hn : 1048577 ≤ n) (x0 : List (List (UInt8))) (x1 : List (D77)) (x2 : Int) (x3 : Bool) (hz : (szL (fun l : List (UInt8) => l.length) x0 + (szL z77 x1 + 0)) ≤ 1048576) : f70 n x0 x1 x2 x3 x0 x1 x2 x3 = some (true, ()) := by
  unfold f70
  rw [Q124 n hn x0 (by have h1 := hz; first | exact h1 | omega)]
  rw [Q125 n hn x1 (by have h1 := hz; first | exact h1 | omega)]
  simp [obind_some]
/- eqCell -/
theorem Q189 (n : Nat) (hn : 1048577 ≤ n) (x0 : Int) (x1 : List (UInt8)) (hz : (List.length x1 + 0) ≤ 1048576) : f189 n x0 x1 x0 x1 = some (true, ()) := by
  unfold f189
  rw [Q167 n hn x1 (by have h1 := hz; first | exact h1 | omega)]
  simp [obind_some]
/- eqRow -/
theorem Q169 (n : Nat) (hn : 1048577 ≤ n) (x0 : List UInt8) (x1 : Int) (x2 : List (UInt8)) (x3 : Int) (x4 : List (UInt8)) (x5 : Int) (x6 : Bool) (hz : (List.length x0 + ((List.length x2 + 0) + ((List.length x4 + 0) + 0))) ≤ 1048576) : f169 n x0 x1 x2 x3 x4 x5 x6 x0 x1 x2 x3 x4 x5 x6 = some (true, ()) := by
  unfold f169
  rw [Q189 n hn x1 x2 (by have h1 := hz; first | exact h1 | omega)]
  rw [Q189 n hn x3 x4 (by have h1 := hz; first | exact h1 | omega)]
  simp [obind_some]
/- eqRowS -/
theorem Q126 (n : Nat) (hn : 1048577 ≤ n) (x0 : List (D79)) (hz : szL z79 x0 ≤ 1048576) : f126 n x0 x0 = some (true, ()) := by
  exact eq_slice (L := f126L0 n) (E := fun x y k => obind (f169 n (x.1) (x.2.1.1) (x.2.1.2) (x.2.2.1.1) (x.2.2.1.2) (x.2.2.2.1) (x.2.2.2.2) (y.1) (y.2.1.1) (y.2.1.2) (y.2.2.1.1) (y.2.2.1.2) (y.2.2.2.1) (y.2.2.2.2)) fun r => if (!r.1) = true then some (false, ()) else k) hn (szL_len hz) (fun x hx k => by rw [Q169 n hn (x.1) (x.2.1.1) (x.2.1.2) (x.2.2.1.1) (x.2.2.1.2) (x.2.2.2.1) (x.2.2.2.2) (szL_le (g := z79) hx hz), obind_some]; rfl) (fun m i => rfl)
/- eqMark -/
theorem Q170 (n : Nat) (hn : 1048577 ≤ n) (x0 : Int) (x1 : Int) (x2 : Int) (hz : 0 ≤ 1048576) : f170 n x0 x1 x2 x0 x1 x2 = some (true, ()) := by
  unfold f170
  simp
/- eqMarkS -/
theorem Q127 (n : Nat) (hn : 1048577 ≤ n) (x0 : List (D206)) (hz : List.length x0 ≤ 1048576) : f127 n x0 x0 = some (true, ()) := by
  exact eq_slice (L := f127L0 n) (E := fun x y k => obind (f170 n (x.1) (x.2.1) (x.2.2) (y.1) (y.2.1) (y.2.2)) fun r => if (!r.1) = true then some (false, ()) else k) hn hz (fun x hx k => by rw [Q170 n hn (x.1) (x.2.1) (x.2.2) (Nat.zero_le _), obind_some]; rfl) (fun m i => rfl)
/- eqTab -/
theorem Q71 (n : Nat) (hn : 1048577 ≤ n) (x0 : List (D79)) (x1 : Int) (x2 : List (D206)) (hz : (szL z79 x0 + (List.length x2 + 0)) ≤ 1048576) : f71 n x0 x1 x2 x0 x1 x2 = some (true, ()) := by
  unfold f71
  rw [Q126 n hn x0 (by have h1 := hz; first | exact h1 | omega)]
  rw [Q127 n hn x2 (by have h1 := hz; first | exact h1 | omega)]
  simp [obind_some]
/- eqStore -/
theorem Q26 (n : Nat) (hn : 1048577 ≤ n) (x0 : List (List (UInt8))) (x1 : List (D77)) (x2 : Int) (x3 : Bool) (x4 : List (D79)) (x5 : Int) (x6 : List (D206)) (x7 : Int) (x8 : Int) (hz : ((szL (fun l : List (UInt8) => l.length) x0 + (szL z77 x1 + 0)) + ((szL z79 x4 + (List.length x6 + 0)) + 0)) ≤ 1048576) : f26 n x0 x1 x2 x3 x4 x5 x6 x7 x8 x0 x1 x2 x3 x4 x5 x6 x7 x8 = some (true, ()) := by
  unfold f26
  rw [Q70 n hn x0 x1 x2 x3 (by have h1 := hz; first | exact h1 | omega)]
  rw [Q71 n hn x4 x5 x6 (by have h1 := hz; first | exact h1 | omega)]
  simp [obind_some]
/- eqNode -/
theorem Q10 (n : Nat) (hn : 1048577 ≤ n) (x0 : List (List (UInt8))) (x1 : List (D77)) (x2 : Int) (x3 : Bool) (x4 : List (D79)) (x5 : Int) (x6 : List (D206)) (x7 : Int) (x8 : Int) (x9 : Int) (hz : (((szL (fun l : List (UInt8) => l.length) x0 + (szL z77 x1 + 0)) + ((szL z79 x4 + (List.length x6 + 0)) + 0)) + 0) ≤ 1048576) : f10 n x0 x1 x2 x3 x4 x5 x6 x7 x8 x9 x0 x1 x2 x3 x4 x5 x6 x7 x8 x9 = some (true, ()) := by
  unfold f10
  rw [Q26 n hn x0 x1 x2 x3 x4 x5 x6 x7 x8 (by have h1 := hz; first | exact h1 | omega)]
  simp [obind_some]
end Go.Sym

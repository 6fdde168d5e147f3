import Derived.Test.YtgaeiofkkklglaaGreatDoorPFnExactAsMeant1
import Derived.Test.YtgaeiofkkklglaaGreatDoorBase8
/-! Laws of sizes, copies and comparisons. -/
namespace Go.Sym
open Go
set_option maxRecDepth 100000
set_option linter.unusedVariables false
/- szBoolS -/
theorem Z72 (n : Nat) (hn : 1048577 ≤ n) (x0 : List (Bool)) (left : Int) (h0 : 0 ≤ left) (h1 : left ≤ 1048576) (hf0 : Ty.Fit (.sl (.bool)) x0) : f72 n x0 left = szR left (List.length x0) := by
  exact szR_last h0 h1 hf0.1
/- szStringS -/
theorem Z73 (n : Nat) (hn : 1048577 ≤ n) (x0 : List (List UInt8)) (left : Int) (h0 : 0 ≤ left) (h1 : left ≤ 1048576) (hf0 : Ty.Fit (.sl (.str)) x0) : f73 n x0 left = szR left (szL (fun s : List UInt8 => s.length) x0) := by
  refine szR_slice_str (L := f73L0 n) hn h0 h1 hf0.1 (fun x hx => hf0.2 x hx) (fun m left i => rfl)
/- szLead -/
theorem Z27 (n : Nat) (hn : 1048577 ≤ n) (x0 : Int) (x1 : List (Bool)) (x2 : List (Bool)) (x3 : List (List UInt8)) (left : Int) (h0 : 0 ≤ left) (h1 : left ≤ 1048576) (hf1 : Ty.Fit (.sl (.bool)) x1) (hf2 : Ty.Fit (.sl (.bool)) x2) (hf3 : Ty.Fit (.sl (.str)) x3) : f27 n x0 x1 x2 x3 left = szR left ((List.length x1 + (List.length x2 + (szL (fun s : List UInt8 => s.length) x3 + 0)))) := by
  unfold f27
  rw [Z72 n hn x1 left h0 h1 hf1]
  refine szR_bindK h0 (fun v1 hv1a hv1b => ?_)
  dsimp only
  rw [Z72 n hn x2 v1 hv1a (Int.le_trans hv1b h1) hf2]
  refine szR_bindK hv1a (fun v2 hv2a hv2b => ?_)
  dsimp only
  rw [Z73 n hn x3 v2 hv2a (Int.le_trans hv2b (Int.le_trans hv1b h1)) hf3]
  refine szR_bindK hv2a (fun v3 hv3a hv3b => ?_)
  dsimp only
  exact szR_zero hv3a
/- szByteS -/
theorem Z148 (n : Nat) (hn : 1048577 ≤ n) (x0 : List (UInt8)) (left : Int) (h0 : 0 ≤ left) (h1 : left ≤ 1048576) (hf0 : Ty.Fit (.sl (.u8)) x0) : f148 n x0 left = szR left (List.length x0) := by
  exact szR_last h0 h1 hf0.1
/- szByteSS -/
theorem Z108 (n : Nat) (hn : 1048577 ≤ n) (x0 : List (List (UInt8))) (left : Int) (h0 : 0 ≤ left) (h1 : left ≤ 1048576) (hf0 : Ty.Fit (.sl (.sl (.u8))) x0) : f108 n x0 left = szR left (szL (fun l : List (UInt8) => l.length) x0) := by
  exact szR_slice (L := f108L0 n) (F := fun x v => f148 n x v) (g := (fun l : List (UInt8) => l.length)) hn h0 h1 hf0.1 (fun x hx v hv0 hv1 => Z148 n hn x v hv0 hv1 (hf0.2 x hx)) (fun m left i => rfl)
/- szWr -/
theorem Z149 (n : Nat) (hn : 1048577 ≤ n) (x0 : Int) (x1 : List (UInt8)) (left : Int) (h0 : 0 ≤ left) (h1 : left ≤ 1048576) (hf1 : Ty.Fit (.sl (.u8)) x1) : f149 n x0 x1 left = szR left ((List.length x1 + 0)) := by
  unfold f149
  rw [Z148 n hn x1 left h0 h1 hf1]
  refine szR_bindK h0 (fun v1 hv1a hv1b => ?_)
  dsimp only
  exact szR_zero hv1a
def z77 (x : D77) : Nat := (List.length (x.2) + 0)
/- szWrS -/
theorem Z109 (n : Nat) (hn : 1048577 ≤ n) (x0 : List (D77)) (left : Int) (h0 : 0 ≤ left) (h1 : left ≤ 1048576) (hf0 : Ty.Fit (.sl (ty77)) x0) : f109 n x0 left = szR left (szL z77 x0) := by
  exact szR_slice (L := f109L0 n) (F := fun x v => f149 n (x.1) (x.2) v) (g := z77) hn h0 h1 hf0.1 (fun x hx v hv0 hv1 => Z149 n hn (x.1) (x.2) v hv0 hv1 (hf0.2 x hx).2) (fun m left i => rfl)
/- szDev -/
theorem Z57 (n : Nat) (hn : 1048577 ≤ n) (x0 : List (List (UInt8))) (x1 : List (D77)) (x2 : Int) (x3 : Bool) (left : Int) (h0 : 0 ≤ left) (h1 : left ≤ 1048576) (hf0 : Ty.Fit (.sl (.sl (.u8))) x0) (hf1 : Ty.Fit (.sl (ty77)) x1) : f57 n x0 x1 x2 x3 left = szR left ((szL (fun l : List (UInt8) => l.length) x0 + (szL z77 x1 + 0))) := by
  unfold f57
  rw [Z108 n hn x0 left h0 h1 hf0]
  refine szR_bindK h0 (fun v1 hv1a hv1b => ?_)
  dsimp only
  rw [Z109 n hn x1 v1 hv1a (Int.le_trans hv1b h1) hf1]
  refine szR_bindK hv1a (fun v2 hv2a hv2b => ?_)
  dsimp only
  exact szR_zero hv2a
/- szCell -/
theorem Z181 (n : Nat) (hn : 1048577 ≤ n) (x0 : Int) (x1 : List (UInt8)) (left : Int) (h0 : 0 ≤ left) (h1 : left ≤ 1048576) (hf1 : Ty.Fit (.sl (.u8)) x1) : f181 n x0 x1 left = szR left ((List.length x1 + 0)) := by
  unfold f181
  rw [Z148 n hn x1 left h0 h1 hf1]
  refine szR_bindK h0 (fun v1 hv1a hv1b => ?_)
  dsimp only
  exact szR_zero hv1a
/- szRow -/
theorem Z150 (n : Nat) (hn : 1048577 ≤ n) (x0 : List UInt8) (x1 : Int) (x2 : List (UInt8)) (x3 : Int) (x4 : List (UInt8)) (x5 : Int) (x6 : Bool) (left : Int) (h0 : 0 ≤ left) (h1 : left ≤ 1048576) (hf0 : Ty.Fit (.str) x0) (hf2 : Ty.Fit (.sl (.u8)) x2) (hf4 : Ty.Fit (.sl (.u8)) x4) : f150 n x0 x1 x2 x3 x4 x5 x6 left = szR left ((List.length x0 + ((List.length x2 + 0) + ((List.length x4 + 0) + 0)))) := by
  unfold f150
  refine szR_lenK h0 h1 hf0 (fun v1 hv1 hv1a hv1b => ?_)
  rw [← hv1]
  rw [Z181 n hn x1 x2 v1 hv1a (Int.le_trans hv1b h1) hf2]
  refine szR_bindK hv1a (fun v2 hv2a hv2b => ?_)
  dsimp only
  rw [Z181 n hn x3 x4 v2 hv2a (Int.le_trans hv2b (Int.le_trans hv1b h1)) hf4]
  refine szR_bindK hv2a (fun v3 hv3a hv3b => ?_)
  dsimp only
  exact szR_zero hv3a
def z79 (x : D79) : Nat := (List.length (x.1) + ((List.length (x.2.1.2) + 0) + ((List.length (x.2.2.1.2) + 0) + 0)))
/- szRowS -/
theorem Z110 (n : Nat) (hn : 1048577 ≤ n) (x0 : List (D79)) (left : Int) (h0 : 0 ≤ left) (h1 : left ≤ 1048576) (hf0 : Ty.Fit (.sl (ty79)) x0) : f110 n x0 left = szR left (szL z79 x0) := by
  exact szR_slice (L := f110L0 n) (F := fun x v => f150 n (x.1) (x.2.1.1) (x.2.1.2) (x.2.2.1.1) (x.2.2.1.2) (x.2.2.2.1) (x.2.2.2.2) v) (g := z79) hn h0 h1 hf0.1 (fun x hx v hv0 hv1 => Z150 n hn (x.1) (x.2.1.1) (x.2.1.2) (x.2.2.1.1) (x.2.2.1.2) (x.2.2.2.1) (x.2.2.2.2) v hv0 hv1 (hf0.2 x hx).1 (hf0.2 x hx).2.1.2 (hf0.2 x hx).2.2.1.2) (fun m left i => rfl)
/- szMarkS -/
theorem Z111 (n : Nat) (hn : 1048577 ≤ n) (x0 : List (D206)) (left : Int) (h0 : 0 ≤ left) (h1 : left ≤ 1048576) (hf0 : Ty.Fit (.sl (ty206)) x0) : f111 n x0 left = szR left (List.length x0) := by
  exact szR_last h0 h1 hf0.1
/- szTab -/
theorem Z58 (n : Nat) (hn : 1048577 ≤ n) (x0 : List (D79)) (x1 : Int) (x2 : List (D206)) (left : Int) (h0 : 0 ≤ left) (h1 : left ≤ 1048576) (hf0 : Ty.Fit (.sl (ty79)) x0) (hf2 : Ty.Fit (.sl (ty206)) x2) : f58 n x0 x1 x2 left = szR left ((szL z79 x0 + (List.length x2 + 0))) := by
  unfold f58
  rw [Z110 n hn x0 left h0 h1 hf0]
  refine szR_bindK h0 (fun v1 hv1a hv1b => ?_)
  dsimp only
  rw [Z111 n hn x2 v1 hv1a (Int.le_trans hv1b h1) hf2]
  refine szR_bindK hv1a (fun v2 hv2a hv2b => ?_)
  dsimp only
  exact szR_zero hv2a
/- szStore -/
theorem Z18 (n : Nat) (hn : 1048577 ≤ n) (x0 : List (List (UInt8))) (x1 : List (D77)) (x2 : Int) (x3 : Bool) (x4 : List (D79)) (x5 : Int) (x6 : List (D206)) (x7 : Int) (x8 : Int) (left : Int) (h0 : 0 ≤ left) (h1 : left ≤ 1048576) (hf0 : Ty.Fit (.sl (.sl (.u8))) x0) (hf1 : Ty.Fit (.sl (ty77)) x1) (hf4 : Ty.Fit (.sl (ty79)) x4) (hf6 : Ty.Fit (.sl (ty206)) x6) : f18 n x0 x1 x2 x3 x4 x5 x6 x7 x8 left = szR left (((szL (fun l : List (UInt8) => l.length) x0 + (szL z77 x1 + 0)) + ((szL z79 x4 + (List.length x6 + 0)) + 0))) := by
  unfold f18
  rw [Z57 n hn x0 x1 x2 x3 left h0 h1 hf0 hf1]
  refine szR_bindK h0 (fun v1 hv1a hv1b => ?_)
  dsimp only
  rw [Z58 n hn x4 x5 x6 v1 hv1a (Int.le_trans hv1b h1) hf4 hf6]
  refine szR_bindK hv1a (fun v2 hv2a hv2b => ?_)
  dsimp only
  exact szR_zero hv2a
/- szNode -/
theorem Z6 (n : Nat) (hn : 1048577 ≤ n) (x0 : List (List (UInt8))) (x1 : List (D77)) (x2 : Int) (x3 : Bool) (x4 : List (D79)) (x5 : Int) (x6 : List (D206)) (x7 : Int) (x8 : Int) (x9 : Int) (left : Int) (h0 : 0 ≤ left) (h1 : left ≤ 1048576) (hf0 : Ty.Fit (.sl (.sl (.u8))) x0) (hf1 : Ty.Fit (.sl (ty77)) x1) (hf4 : Ty.Fit (.sl (ty79)) x4) (hf6 : Ty.Fit (.sl (ty206)) x6) : f6 n x0 x1 x2 x3 x4 x5 x6 x7 x8 x9 left = szR left ((((szL (fun l : List (UInt8) => l.length) x0 + (szL z77 x1 + 0)) + ((szL z79 x4 + (List.length x6 + 0)) + 0)) + 0)) := by
  unfold f6
  rw [Z18 n hn x0 x1 x2 x3 x4 x5 x6 x7 x8 left h0 h1 hf0 hf1 hf4 hf6]
  refine szR_bindK h0 (fun v1 hv1a hv1b => ?_)
  dsimp only
  exact szR_zero hv1a
def z32 (x : D32) : Nat := (((szL (fun l : List (UInt8) => l.length) (x.1.1.1) + (szL z77 (x.1.1.2.1) + 0)) + ((szL z79 (x.1.2.1.1) + (List.length (x.1.2.1.2.2) + 0)) + 0)) + 0)
/- szNodeS -/
theorem Z28 (n : Nat) (hn : 1048577 ≤ n) (x0 : List (D32)) (left : Int) (h0 : 0 ≤ left) (h1 : left ≤ 1048576) (hf0 : Ty.Fit (.sl (ty32)) x0) : f28 n x0 left = szR left (szL z32 x0) := by
  exact szR_slice (L := f28L0 n) (F := fun x v => f6 n (x.1.1.1) (x.1.1.2.1) (x.1.1.2.2.1) (x.1.1.2.2.2) (x.1.2.1.1) (x.1.2.1.2.1) (x.1.2.1.2.2) (x.1.2.2.1) (x.1.2.2.2) (x.2) v) (g := z32) hn h0 h1 hf0.1 (fun x hx v hv0 hv1 => Z6 n hn (x.1.1.1) (x.1.1.2.1) (x.1.1.2.2.1) (x.1.1.2.2.2) (x.1.2.1.1) (x.1.2.1.2.1) (x.1.2.1.2.2) (x.1.2.2.1) (x.1.2.2.2) (x.2) v hv0 hv1 (hf0.2 x hx).1.1.1 (hf0.2 x hx).1.1.2.1 (hf0.2 x hx).1.2.1.1 (hf0.2 x hx).1.2.1.2.2) (fun m left i => rfl)
/- szMsg -/
theorem Z75 (n : Nat) (hn : 1048577 ≤ n) (x0 : Int) (x1 : Int) (x2 : Int) (x3 : Int) (x4 : List UInt8) (x5 : List UInt8) (x6 : Int) (x7 : Int) (left : Int) (h0 : 0 ≤ left) (h1 : left ≤ 1048576) (hf4 : Ty.Fit (.str) x4) (hf5 : Ty.Fit (.str) x5) : f75 n x0 x1 x2 x3 x4 x5 x6 x7 left = szR left ((List.length x4 + (List.length x5 + 0))) := by
  unfold f75
  refine szR_lenK h0 h1 hf4 (fun v1 hv1 hv1a hv1b => ?_)
  rw [← hv1]
  refine szR_lenK hv1a (Int.le_trans hv1b h1) hf5 (fun v2 hv2 hv2a hv2b => ?_)
  rw [← hv2]
  exact szR_zero hv2a
/- szDone -/
theorem Z171 (n : Nat) (hn : 1048577 ≤ n) (x0 : Int) (x1 : Int) (x2 : List UInt8) (x3 : List UInt8) (x4 : Int) (left : Int) (h0 : 0 ≤ left) (h1 : left ≤ 1048576) (hf2 : Ty.Fit (.str) x2) (hf3 : Ty.Fit (.str) x3) : f171 n x0 x1 x2 x3 x4 left = szR left ((List.length x2 + (List.length x3 + 0))) := by
  unfold f171
  refine szR_lenK h0 h1 hf2 (fun v1 hv1 hv1a hv1b => ?_)
  rw [← hv1]
  refine szR_lenK hv1a (Int.le_trans hv1b h1) hf3 (fun v2 hv2 hv2a hv2b => ?_)
  rw [← hv2]
  exact szR_zero hv2a
def z181 (x : D181) : Nat := (List.length (x.2.2.1) + (List.length (x.2.2.2.1) + 0))
/- szDoneS -/
theorem Z128 (n : Nat) (hn : 1048577 ≤ n) (x0 : List (D181)) (left : Int) (h0 : 0 ≤ left) (h1 : left ≤ 1048576) (hf0 : Ty.Fit (.sl (ty181)) x0) : f128 n x0 left = szR left (szL z181 x0) := by
  exact szR_slice (L := f128L0 n) (F := fun x v => f171 n (x.1) (x.2.1) (x.2.2.1) (x.2.2.2.1) (x.2.2.2.2) v) (g := z181) hn h0 h1 hf0.1 (fun x hx v hv0 hv1 => Z171 n hn (x.1) (x.2.1) (x.2.2.1) (x.2.2.2.1) (x.2.2.2.2) v hv0 hv1 (hf0.2 x hx).2.2.1 (hf0.2 x hx).2.2.2.1) (fun m left i => rfl)
/- szClient -/
theorem Z74 (n : Nat) (hn : 1048577 ≤ n) (x0 : Int) (x1 : Int) (x2 : Bool) (x3 : Int) (x4 : Int) (x5 : Int) (x6 : Int) (x7 : List UInt8) (x8 : List UInt8) (x9 : Int) (x10 : Int) (x11 : List (D181)) (left : Int) (h0 : 0 ≤ left) (h1 : left ≤ 1048576) (hf7 : Ty.Fit (.str) x7) (hf8 : Ty.Fit (.str) x8) (hf11 : Ty.Fit (.sl (ty181)) x11) : f74 n x0 x1 x2 x3 x4 x5 x6 x7 x8 x9 x10 x11 left = szR left (((List.length x7 + (List.length x8 + 0)) + (szL z181 x11 + 0))) := by
  unfold f74
  rw [Z75 n hn x3 x4 x5 x6 x7 x8 x9 x10 left h0 h1 hf7 hf8]
  refine szR_bindK h0 (fun v1 hv1a hv1b => ?_)
  dsimp only
  rw [Z128 n hn x11 v1 hv1a (Int.le_trans hv1b h1) hf11]
  refine szR_bindK hv1a (fun v2 hv2a hv2b => ?_)
  dsimp only
  exact szR_zero hv2a
def z128 (x : D128) : Nat := ((List.length (x.2.2.2.1.2.2.2.2.1) + (List.length (x.2.2.2.1.2.2.2.2.2.1) + 0)) + (szL z181 (x.2.2.2.2) + 0))
/- szClientS -/
theorem Z29 (n : Nat) (hn : 1048577 ≤ n) (x0 : List (D128)) (left : Int) (h0 : 0 ≤ left) (h1 : left ≤ 1048576) (hf0 : Ty.Fit (.sl (ty128)) x0) : f29 n x0 left = szR left (szL z128 x0) := by
  exact szR_slice (L := f29L0 n) (F := fun x v => f74 n (x.1) (x.2.1) (x.2.2.1) (x.2.2.2.1.1) (x.2.2.2.1.2.1) (x.2.2.2.1.2.2.1) (x.2.2.2.1.2.2.2.1) (x.2.2.2.1.2.2.2.2.1) (x.2.2.2.1.2.2.2.2.2.1) (x.2.2.2.1.2.2.2.2.2.2.1) (x.2.2.2.1.2.2.2.2.2.2.2) (x.2.2.2.2) v) (g := z128) hn h0 h1 hf0.1 (fun x hx v hv0 hv1 => Z74 n hn (x.1) (x.2.1) (x.2.2.1) (x.2.2.2.1.1) (x.2.2.2.1.2.1) (x.2.2.2.1.2.2.1) (x.2.2.2.1.2.2.2.1) (x.2.2.2.1.2.2.2.2.1) (x.2.2.2.1.2.2.2.2.2.1) (x.2.2.2.1.2.2.2.2.2.2.1) (x.2.2.2.1.2.2.2.2.2.2.2) (x.2.2.2.2) v hv0 hv1 (hf0.2 x hx).2.2.2.1.2.2.2.2.1 (hf0.2 x hx).2.2.2.1.2.2.2.2.2.1 (hf0.2 x hx).2.2.2.2) (fun m left i => rfl)
def z125 (x : D125) : Nat := (List.length (x.2.2.2.2.1) + (List.length (x.2.2.2.2.2.1) + 0))
/- szMsgS -/
theorem Z30 (n : Nat) (hn : 1048577 ≤ n) (x0 : List (D125)) (left : Int) (h0 : 0 ≤ left) (h1 : left ≤ 1048576) (hf0 : Ty.Fit (.sl (ty125)) x0) : f30 n x0 left = szR left (szL z125 x0) := by
  exact szR_slice (L := f30L0 n) (F := fun x v => f75 n (x.1) (x.2.1) (x.2.2.1) (x.2.2.2.1) (x.2.2.2.2.1) (x.2.2.2.2.2.1) (x.2.2.2.2.2.2.1) (x.2.2.2.2.2.2.2) v) (g := z125) hn h0 h1 hf0.1 (fun x hx v hv0 hv1 => Z75 n hn (x.1) (x.2.1) (x.2.2.1) (x.2.2.2.1) (x.2.2.2.2.1) (x.2.2.2.2.2.1) (x.2.2.2.2.2.2.1) (x.2.2.2.2.2.2.2) v hv0 hv1 (hf0.2 x hx).2.2.2.2.1 (hf0.2 x hx).2.2.2.2.2.1) (fun m left i => rfl)
/- szAct -/
theorem Z76 (n : Nat) (hn : 1048577 ≤ n) (x0 : Int) (x1 : Int) (x2 : Int) (x3 : List UInt8) (x4 : List UInt8) (x5 : Int) (left : Int) (h0 : 0 ≤ left) (h1 : left ≤ 1048576) (hf3 : Ty.Fit (.str) x3) (hf4 : Ty.Fit (.str) x4) : f76 n x0 x1 x2 x3 x4 x5 left = szR left ((List.length x3 + (List.length x4 + 0))) := by
  unfold f76
  refine szR_lenK h0 h1 hf3 (fun v1 hv1 hv1a hv1b => ?_)
  rw [← hv1]
  refine szR_lenK hv1a (Int.le_trans hv1b h1) hf4 (fun v2 hv2 hv2a hv2b => ?_)
  rw [← hv2]
  exact szR_zero hv2a
def z132 (x : D132) : Nat := (List.length (x.2.2.2.1) + (List.length (x.2.2.2.2.1) + 0))
/- szActS -/
theorem Z31 (n : Nat) (hn : 1048577 ≤ n) (x0 : List (D132)) (left : Int) (h0 : 0 ≤ left) (h1 : left ≤ 1048576) (hf0 : Ty.Fit (.sl (ty132)) x0) : f31 n x0 left = szR left (szL z132 x0) := by
  exact szR_slice (L := f31L0 n) (F := fun x v => f76 n (x.1) (x.2.1) (x.2.2.1) (x.2.2.2.1) (x.2.2.2.2.1) (x.2.2.2.2.2) v) (g := z132) hn h0 h1 hf0.1 (fun x hx v hv0 hv1 => Z76 n hn (x.1) (x.2.1) (x.2.2.1) (x.2.2.2.1) (x.2.2.2.2.1) (x.2.2.2.2.2) v hv0 hv1 (hf0.2 x hx).2.2.2.1 (hf0.2 x hx).2.2.2.2.1) (fun m left i => rfl)
/- szActSS -/
theorem Z32 (n : Nat) (hn : 1048577 ≤ n) (x0 : List (List (D132))) (left : Int) (h0 : 0 ≤ left) (h1 : left ≤ 1048576) (hf0 : Ty.Fit (.sl (.sl (ty132))) x0) : f32 n x0 left = szR left (szL (fun l : List (D132) => szL z132 l) x0) := by
  exact szR_slice (L := f32L0 n) (F := fun x v => f31 n x v) (g := (fun l : List (D132) => szL z132 l)) hn h0 h1 hf0.1 (fun x hx v hv0 hv1 => Z31 n hn x v hv0 hv1 (hf0.2 x hx)) (fun m left i => rfl)
/- szWorld -/
theorem Z11 (n : Nat) (hn : 1048577 ≤ n) (x0 : Int) (x1 : List (Bool)) (x2 : List (Bool)) (x3 : List (List UInt8)) (x4 : List (D32)) (x5 : List (D128)) (x6 : List (D125)) (x7 : List (D132)) (x8 : List (List (D132))) (left : Int) (h0 : 0 ≤ left) (h1 : left ≤ 1048576) (hf1 : Ty.Fit (.sl (.bool)) x1) (hf2 : Ty.Fit (.sl (.bool)) x2) (hf3 : Ty.Fit (.sl (.str)) x3) (hf4 : Ty.Fit (.sl (ty32)) x4) (hf5 : Ty.Fit (.sl (ty128)) x5) (hf6 : Ty.Fit (.sl (ty125)) x6) (hf7 : Ty.Fit (.sl (ty132)) x7) (hf8 : Ty.Fit (.sl (.sl (ty132))) x8) : f11 n x0 x1 x2 x3 x4 x5 x6 x7 x8 left = szR left (((List.length x1 + (List.length x2 + (szL (fun s : List UInt8 => s.length) x3 + 0))) + (szL z32 x4 + (szL z128 x5 + (szL z125 x6 + (szL z132 x7 + (szL (fun l : List (D132) => szL z132 l) x8 + 0))))))) := by
  unfold f11
  rw [Z27 n hn x0 x1 x2 x3 left h0 h1 hf1 hf2 hf3]
  refine szR_bindK h0 (fun v1 hv1a hv1b => ?_)
  dsimp only
  rw [Z28 n hn x4 v1 hv1a (Int.le_trans hv1b h1) hf4]
  refine szR_bindK hv1a (fun v2 hv2a hv2b => ?_)
  dsimp only
  rw [Z29 n hn x5 v2 hv2a (Int.le_trans hv2b (Int.le_trans hv1b h1)) hf5]
  refine szR_bindK hv2a (fun v3 hv3a hv3b => ?_)
  dsimp only
  rw [Z30 n hn x6 v3 hv3a (Int.le_trans hv3b (Int.le_trans hv2b (Int.le_trans hv1b h1))) hf6]
  refine szR_bindK hv3a (fun v4 hv4a hv4b => ?_)
  dsimp only
  rw [Z31 n hn x7 v4 hv4a (Int.le_trans hv4b (Int.le_trans hv3b (Int.le_trans hv2b (Int.le_trans hv1b h1)))) hf7]
  refine szR_bindK hv4a (fun v5 hv5a hv5b => ?_)
  dsimp only
  rw [Z32 n hn x8 v5 hv5a (Int.le_trans hv5b (Int.le_trans hv4b (Int.le_trans hv3b (Int.le_trans hv2b (Int.le_trans hv1b h1))))) hf8]
  refine szR_bindK hv5a (fun v6 hv6a hv6b => ?_)
  dsimp only
  exact szR_zero hv6a
/- toBoolS -/
theorem T82 (n : Nat) (hn : 1048577 ≤ n) (x0 : List (Bool)) (hz : List.length x0 ≤ 1048576) : f82 n x0 = some (x0, ()) := by
  exact to_slice (L := f82L0 n) (F := fun x k => k x) (b := 1) hn (by decide) hz (fun _ _ _ => rfl) (fun m i out => rfl)
/- toStringS -/
theorem T83 (n : Nat) (hn : 1048577 ≤ n) (x0 : List (List UInt8)) (hz : szL (fun s : List UInt8 => s.length) x0 ≤ 1048576) : f83 n x0 = some (x0, ()) := by
  exact to_slice (L := f83L0 n) (F := fun x k => k x) (b := 16) hn (by decide) (szL_len hz) (fun _ _ _ => rfl) (fun m i out => rfl)
/- toLead -/
theorem T35 (n : Nat) (hn : 1048577 ≤ n) (x0 : Int) (x1 : List (Bool)) (x2 : List (Bool)) (x3 : List (List UInt8)) (hz : (List.length x1 + (List.length x2 + (szL (fun s : List UInt8 => s.length) x3 + 0))) ≤ 1048576) : f35 n x0 x1 x2 x3 = some (x0, x1, x2, x3, ()) := by
  unfold f35
  rw [T82 n hn x1 (by have h1 := hz; first | exact h1 | omega), obind_some]
  rw [T82 n hn x2 (by have h1 := hz; first | exact h1 | omega), obind_some]
  rw [T83 n hn x3 (by have h1 := hz; first | exact h1 | omega), obind_some]
/- toByteS -/
theorem T158 (n : Nat) (hn : 1048577 ≤ n) (x0 : List (UInt8)) (hz : List.length x0 ≤ 1048576) : f158 n x0 = some (x0, ()) := by
  exact to_slice (L := f158L0 n) (F := fun x k => k x) (b := 1) hn (by decide) hz (fun _ _ _ => rfl) (fun m i out => rfl)
/- toByteSS -/
theorem T117 (n : Nat) (hn : 1048577 ≤ n) (x0 : List (List (UInt8))) (hz : szL (fun l : List (UInt8) => l.length) x0 ≤ 1048576) : f117 n x0 = some (x0, ()) := by
  exact to_slice (L := f117L0 n) (F := fun x k => obind (f158 n x) fun r => k r.1) (b := 24) hn (by decide) (szL_len hz) (fun x hx k => by rw [T158 n hn x (szL_le (g := (fun l : List (UInt8) => l.length)) hx hz), obind_some]) (fun m i out => rfl)
/- toWr -/
theorem T159 (n : Nat) (hn : 1048577 ≤ n) (x0 : Int) (x1 : List (UInt8)) (hz : (List.length x1 + 0) ≤ 1048576) : f159 n x0 x1 = some (x0, x1, ()) := by
  unfold f159
  rw [T158 n hn x1 (by have h1 := hz; first | exact h1 | omega), obind_some]
/- toWrS -/
theorem T118 (n : Nat) (hn : 1048577 ≤ n) (x0 : List (D77)) (hz : szL z77 x0 ≤ 1048576) : f118 n x0 = some (x0, ()) := by
  exact to_slice (L := f118L0 n) (F := fun x k => obind (f159 n (x.1) (x.2)) fun r => k (r.1, r.2.1)) (b := 32) hn (by decide) (szL_len hz) (fun x hx k => by rw [T159 n hn (x.1) (x.2) (szL_le (g := z77) hx hz), obind_some]) (fun m i out => rfl)
/- toDev -/
theorem T64 (n : Nat) (hn : 1048577 ≤ n) (x0 : List (List (UInt8))) (x1 : List (D77)) (x2 : Int) (x3 : Bool) (hz : (szL (fun l : List (UInt8) => l.length) x0 + (szL z77 x1 + 0)) ≤ 1048576) : f64 n x0 x1 x2 x3 = some (x2, x3, x0, x1, ()) := by
  unfold f64
  rw [T117 n hn x0 (by have h1 := hz; first | exact h1 | omega), obind_some]
  rw [T118 n hn x1 (by have h1 := hz; first | exact h1 | omega), obind_some]
/- toCell -/
theorem T185 (n : Nat) (hn : 1048577 ≤ n) (x0 : Int) (x1 : List (UInt8)) (hz : (List.length x1 + 0) ≤ 1048576) : f185 n x0 x1 = some (x0, x1, ()) := by
  unfold f185
  rw [T158 n hn x1 (by have h1 := hz; first | exact h1 | omega), obind_some]
/- toRow -/
theorem T160 (n : Nat) (hn : 1048577 ≤ n) (x0 : List UInt8) (x1 : Int) (x2 : List (UInt8)) (x3 : Int) (x4 : List (UInt8)) (x5 : Int) (x6 : Bool) (hz : (List.length x0 + ((List.length x2 + 0) + ((List.length x4 + 0) + 0))) ≤ 1048576) : f160 n x0 x1 x2 x3 x4 x5 x6 = some (x0, x1, x3, x5, x6, x2, x4, ()) := by
  unfold f160
  rw [T185 n hn x1 x2 (by have h1 := hz; first | exact h1 | omega), obind_some]
  rw [T185 n hn x3 x4 (by have h1 := hz; first | exact h1 | omega), obind_some]
/- toRowS -/
theorem T119 (n : Nat) (hn : 1048577 ≤ n) (x0 : List (D79)) (hz : szL z79 x0 ≤ 1048576) : f119 n x0 = some (x0, ()) := by
  exact to_slice (L := f119L0 n) (F := fun x k => obind (f160 n (x.1) (x.2.1.1) (x.2.1.2) (x.2.2.1.1) (x.2.2.1.2) (x.2.2.2.1) (x.2.2.2.2)) fun r => k (r.1, (r.2.1, r.2.2.2.2.2.1), (r.2.2.1, r.2.2.2.2.2.2.1), r.2.2.2.1, r.2.2.2.2.1)) (b := 96) hn (by decide) (szL_len hz) (fun x hx k => by rw [T160 n hn (x.1) (x.2.1.1) (x.2.1.2) (x.2.2.1.1) (x.2.2.1.2) (x.2.2.2.1) (x.2.2.2.2) (szL_le (g := z79) hx hz), obind_some]) (fun m i out => rfl)
/- toMark -/
theorem T161 (n : Nat) (hn : 1048577 ≤ n) (x0 : Int) (x1 : Int) (x2 : Int) (hz : 0 ≤ 1048576) : f161 n x0 x1 x2 = some (x0, x1, x2, ()) := by
  rfl
/- toMarkS -/
theorem T120 (n : Nat) (hn : 1048577 ≤ n) (x0 : List (D206)) (hz : List.length x0 ≤ 1048576) : f120 n x0 = some (x0, ()) := by
  exact to_slice (L := f120L0 n) (F := fun x k => obind (f161 n (x.1) (x.2.1) (x.2.2)) fun r => k (r.1, r.2.1, r.2.2.1)) (b := 24) hn (by decide) hz (fun x hx k => by rw [T161 n hn (x.1) (x.2.1) (x.2.2) (Nat.zero_le _), obind_some]) (fun m i out => rfl)
/- toTab -/
theorem T65 (n : Nat) (hn : 1048577 ≤ n) (x0 : List (D79)) (x1 : Int) (x2 : List (D206)) (hz : (szL z79 x0 + (List.length x2 + 0)) ≤ 1048576) : f65 n x0 x1 x2 = some (x1, x0, x2, ()) := by
  unfold f65
  rw [T119 n hn x0 (by have h1 := hz; first | exact h1 | omega), obind_some]
  rw [T120 n hn x2 (by have h1 := hz; first | exact h1 | omega), obind_some]
/- toStore -/
theorem T22 (n : Nat) (hn : 1048577 ≤ n) (x0 : List (List (UInt8))) (x1 : List (D77)) (x2 : Int) (x3 : Bool) (x4 : List (D79)) (x5 : Int) (x6 : List (D206)) (x7 : Int) (x8 : Int) (hz : ((szL (fun l : List (UInt8) => l.length) x0 + (szL z77 x1 + 0)) + ((szL z79 x4 + (List.length x6 + 0)) + 0)) ≤ 1048576) : f22 n x0 x1 x2 x3 x4 x5 x6 x7 x8 = some (x2, x3, x5, x7, x8, x0, x1, x4, x6, ()) := by
  unfold f22
  rw [T64 n hn x0 x1 x2 x3 (by have h1 := hz; first | exact h1 | omega), obind_some]
  rw [T65 n hn x4 x5 x6 (by have h1 := hz; first | exact h1 | omega), obind_some]
/- toNode -/
theorem T8 (n : Nat) (hn : 1048577 ≤ n) (x0 : List (List (UInt8))) (x1 : List (D77)) (x2 : Int) (x3 : Bool) (x4 : List (D79)) (x5 : Int) (x6 : List (D206)) (x7 : Int) (x8 : Int) (x9 : Int) (hz : (((szL (fun l : List (UInt8) => l.length) x0 + (szL z77 x1 + 0)) + ((szL z79 x4 + (List.length x6 + 0)) + 0)) + 0) ≤ 1048576) : f8 n x0 x1 x2 x3 x4 x5 x6 x7 x8 x9 = some (x2, x3, x5, x7, x8, x9, x0, x1, x4, x6, ()) := by
  unfold f8
  rw [T22 n hn x0 x1 x2 x3 x4 x5 x6 x7 x8 (by have h1 := hz; first | exact h1 | omega), obind_some]
/- toNodeS -/
theorem T36 (n : Nat) (hn : 1048577 ≤ n) (x0 : List (D32)) (hz : szL z32 x0 ≤ 1048576) : f36 n x0 = some (x0, ()) := by
  exact to_slice (L := f36L0 n) (F := fun x k => obind (f8 n (x.1.1.1) (x.1.1.2.1) (x.1.1.2.2.1) (x.1.1.2.2.2) (x.1.2.1.1) (x.1.2.1.2.1) (x.1.2.1.2.2) (x.1.2.2.1) (x.1.2.2.2) (x.2)) fun r => k (((r.2.2.2.2.2.2.1, r.2.2.2.2.2.2.2.1, r.1, r.2.1), (r.2.2.2.2.2.2.2.2.1, r.2.2.1, r.2.2.2.2.2.2.2.2.2.1), r.2.2.2.1, r.2.2.2.2.1), r.2.2.2.2.2.1)) (b := 144) hn (by decide) (szL_len hz) (fun x hx k => by rw [T8 n hn (x.1.1.1) (x.1.1.2.1) (x.1.1.2.2.1) (x.1.1.2.2.2) (x.1.2.1.1) (x.1.2.1.2.1) (x.1.2.1.2.2) (x.1.2.2.1) (x.1.2.2.2) (x.2) (szL_le (g := z32) hx hz), obind_some]) (fun m i out => rfl)
/- toMsg -/
theorem T85 (n : Nat) (hn : 1048577 ≤ n) (x0 : Int) (x1 : Int) (x2 : Int) (x3 : Int) (x4 : List UInt8) (x5 : List UInt8) (x6 : Int) (x7 : Int) (hz : (List.length x4 + (List.length x5 + 0)) ≤ 1048576) : f85 n x0 x1 x2 x3 x4 x5 x6 x7 = some (x0, x1, x2, x3, x4, x5, x6, x7, ()) := by
  rfl
/- toDone -/
theorem T175 (n : Nat) (hn : 1048577 ≤ n) (x0 : Int) (x1 : Int) (x2 : List UInt8) (x3 : List UInt8) (x4 : Int) (hz : (List.length x2 + (List.length x3 + 0)) ≤ 1048576) : f175 n x0 x1 x2 x3 x4 = some (x0, x1, x2, x3, x4, ()) := by
  rfl
/- toDoneS -/
theorem T134 (n : Nat) (hn : 1048577 ≤ n) (x0 : List (D181)) (hz : szL z181 x0 ≤ 1048576) : f134 n x0 = some (x0, ()) := by
  exact to_slice (L := f134L0 n) (F := fun x k => obind (f175 n (x.1) (x.2.1) (x.2.2.1) (x.2.2.2.1) (x.2.2.2.2)) fun r => k (r.1, r.2.1, r.2.2.1, r.2.2.2.1, r.2.2.2.2.1)) (b := 56) hn (by decide) (szL_len hz) (fun x hx k => by rw [T175 n hn (x.1) (x.2.1) (x.2.2.1) (x.2.2.2.1) (x.2.2.2.2) (szL_le (g := z181) hx hz), obind_some]) (fun m i out => rfl)
/- toClient -/
theorem T84 (n : Nat) (hn : 1048577 ≤ n) (x0 : Int) (x1 : Int) (x2 : Bool) (x3 : Int) (x4 : Int) (x5 : Int) (x6 : Int) (x7 : List UInt8) (x8 : List UInt8) (x9 : Int) (x10 : Int) (x11 : List (D181)) (hz : ((List.length x7 + (List.length x8 + 0)) + (szL z181 x11 + 0)) ≤ 1048576) : f84 n x0 x1 x2 x3 x4 x5 x6 x7 x8 x9 x10 x11 = some (x0, x1, x2, x3, x4, x5, x6, x7, x8, x9, x10, x11, ()) := by
  unfold f84
  rw [T85 n hn x3 x4 x5 x6 x7 x8 x9 x10 (by have h1 := hz; first | exact h1 | omega), obind_some]
  rw [T134 n hn x11 (by have h1 := hz; first | exact h1 | omega), obind_some]
/- toClientS -/
theorem T37 (n : Nat) (hn : 1048577 ≤ n) (x0 : List (D128)) (hz : szL z128 x0 ≤ 1048576) : f37 n x0 = some (x0, ()) := by
  exact to_slice (L := f37L0 n) (F := fun x k => obind (f84 n (x.1) (x.2.1) (x.2.2.1) (x.2.2.2.1.1) (x.2.2.2.1.2.1) (x.2.2.2.1.2.2.1) (x.2.2.2.1.2.2.2.1) (x.2.2.2.1.2.2.2.2.1) (x.2.2.2.1.2.2.2.2.2.1) (x.2.2.2.1.2.2.2.2.2.2.1) (x.2.2.2.1.2.2.2.2.2.2.2) (x.2.2.2.2)) fun r => k (r.1, r.2.1, r.2.2.1, (r.2.2.2.1, r.2.2.2.2.1, r.2.2.2.2.2.1, r.2.2.2.2.2.2.1, r.2.2.2.2.2.2.2.1, r.2.2.2.2.2.2.2.2.1, r.2.2.2.2.2.2.2.2.2.1, r.2.2.2.2.2.2.2.2.2.2.1), r.2.2.2.2.2.2.2.2.2.2.2.1)) (b := 128) hn (by decide) (szL_len hz) (fun x hx k => by rw [T84 n hn (x.1) (x.2.1) (x.2.2.1) (x.2.2.2.1.1) (x.2.2.2.1.2.1) (x.2.2.2.1.2.2.1) (x.2.2.2.1.2.2.2.1) (x.2.2.2.1.2.2.2.2.1) (x.2.2.2.1.2.2.2.2.2.1) (x.2.2.2.1.2.2.2.2.2.2.1) (x.2.2.2.1.2.2.2.2.2.2.2) (x.2.2.2.2) (szL_le (g := z128) hx hz), obind_some]) (fun m i out => rfl)
/- toMsgS -/
theorem T38 (n : Nat) (hn : 1048577 ≤ n) (x0 : List (D125)) (hz : szL z125 x0 ≤ 1048576) : f38 n x0 = some (x0, ()) := by
  exact to_slice (L := f38L0 n) (F := fun x k => obind (f85 n (x.1) (x.2.1) (x.2.2.1) (x.2.2.2.1) (x.2.2.2.2.1) (x.2.2.2.2.2.1) (x.2.2.2.2.2.2.1) (x.2.2.2.2.2.2.2)) fun r => k (r.1, r.2.1, r.2.2.1, r.2.2.2.1, r.2.2.2.2.1, r.2.2.2.2.2.1, r.2.2.2.2.2.2.1, r.2.2.2.2.2.2.2.1)) (b := 80) hn (by decide) (szL_len hz) (fun x hx k => by rw [T85 n hn (x.1) (x.2.1) (x.2.2.1) (x.2.2.2.1) (x.2.2.2.2.1) (x.2.2.2.2.2.1) (x.2.2.2.2.2.2.1) (x.2.2.2.2.2.2.2) (szL_le (g := z125) hx hz), obind_some]) (fun m i out => rfl)
/- toAct -/
theorem T86 (n : Nat) (hn : 1048577 ≤ n) (x0 : Int) (x1 : Int) (x2 : Int) (x3 : List UInt8) (x4 : List UInt8) (x5 : Int) (hz : (List.length x3 + (List.length x4 + 0)) ≤ 1048576) : f86 n x0 x1 x2 x3 x4 x5 = some (x0, x1, x2, x3, x4, x5, ()) := by
  rfl
/- toActS -/
theorem T39 (n : Nat) (hn : 1048577 ≤ n) (x0 : List (D132)) (hz : szL z132 x0 ≤ 1048576) : f39 n x0 = some (x0, ()) := by
  exact to_slice (L := f39L0 n) (F := fun x k => obind (f86 n (x.1) (x.2.1) (x.2.2.1) (x.2.2.2.1) (x.2.2.2.2.1) (x.2.2.2.2.2)) fun r => k (r.1, r.2.1, r.2.2.1, r.2.2.2.1, r.2.2.2.2.1, r.2.2.2.2.2.1)) (b := 64) hn (by decide) (szL_len hz) (fun x hx k => by rw [T86 n hn (x.1) (x.2.1) (x.2.2.1) (x.2.2.2.1) (x.2.2.2.2.1) (x.2.2.2.2.2) (szL_le (g := z132) hx hz), obind_some]) (fun m i out => rfl)
/- toActSS -/
theorem T40 (n : Nat) (hn : 1048577 ≤ n) (x0 : List (List (D132))) (hz : szL (fun l : List (D132) => szL z132 l) x0 ≤ 1048576) : f40 n x0 = some (x0, ()) := by
  exact to_slice (L := f40L0 n) (F := fun x k => obind (f39 n x) fun r => k r.1) (b := 24) hn (by decide) (szL_len hz) (fun x hx k => by rw [T39 n hn x (szL_le (g := (fun l : List (D132) => szL z132 l)) hx hz), obind_some]) (fun m i out => rfl)
/- toWorld -/
theorem T13 (n : Nat) (hn : 1048577 ≤ n) (x0 : Int) (x1 : List (Bool)) (x2 : List (Bool)) (x3 : List (List UInt8)) (x4 : List (D32)) (x5 : List (D128)) (x6 : List (D125)) (x7 : List (D132)) (x8 : List (List (D132))) (hz : ((List.length x1 + (List.length x2 + (szL (fun s : List UInt8 => s.length) x3 + 0))) + (szL z32 x4 + (szL z128 x5 + (szL z125 x6 + (szL z132 x7 + (szL (fun l : List (D132) => szL z132 l) x8 + 0)))))) ≤ 1048576) : f13 n x0 x1 x2 x3 x4 x5 x6 x7 x8 = some (x0, x1, x2, x3, x4, x5, x6, x7, x8, ()) := by
  unfold f13
  rw [T35 n hn x0 x1 x2 x3 (by have h1 := hz; first | exact h1 | omega), obind_some]
  rw [T36 n hn x4 (by have h1 := hz; first | exact h1 | omega), obind_some]
  rw [T37 n hn x5 (by have h1 := hz; first | exact h1 | omega), obind_some]
  rw [T38 n hn x6 (by have h1 := hz; first | exact h1 | omega), obind_some]
  rw [T39 n hn x7 (by have h1 := hz; first | exact h1 | omega), obind_some]
  rw [T40 n hn x8 (by have h1 := hz; first | exact h1 | omega), obind_some]
/- eqBoolS -/
theorem Q92 (n : Nat) (hn : 1048577 ≤ n) (x0 : List (Bool)) (hz : List.length x0 ≤ 1048576) : f92 n x0 x0 = some (true, ()) := by
  exact eq_slice (L := f92L0 n) (E := fun x y k => if (!x == y) = true then some (false, ()) else k) hn hz (fun x _ k => by simp) (fun m i => rfl)
/- eqStringS -/
theorem Q93 (n : Nat) (hn : 1048577 ≤ n) (x0 : List (List UInt8)) (hz : szL (fun s : List UInt8 => s.length) x0 ≤ 1048576) : f93 n x0 x0 = some (true, ()) := by
  exact eq_slice (L := f93L0 n) (E := fun x y k => if (!x == y) = true then some (false, ()) else k) hn (szL_len hz) (fun x _ k => by simp) (fun m i => rfl)
/- eqLead -/
theorem Q43 (n : Nat) (hn : 1048577 ≤ n) (x0 : Int) (x1 : List (Bool)) (x2 : List (Bool)) (x3 : List (List UInt8)) (hz : (List.length x1 + (List.length x2 + (szL (fun s : List UInt8 => s.length) x3 + 0))) ≤ 1048576) : f43 n x0 x1 x2 x3 x0 x1 x2 x3 = some (true, ()) := by
  unfold f43
  rw [Q92 n hn x1 (by have h1 := hz; first | exact h1 | omega)]
  rw [Q92 n hn x2 (by have h1 := hz; first | exact h1 | omega)]
  rw [Q93 n hn x3 (by have h1 := hz; first | exact h1 | omega)]
  simp [obind_some]
/- eqByteS -/
theorem Q167 (n : Nat) (hn : 1048577 ≤ n) (x0 : List (UInt8)) (hz : List.length x0 ≤ 1048576) : f167 n x0 x0 = some (true, ()) := by
  exact eq_slice (L := f167L0 n) (E := fun x y k => if ((↑x.toNat : Int) != (↑y.toNat : Int)) = true then some (false, ()) else k) hn hz (fun x _ k => by simp) (fun m i => rfl)
/- eqByteSS -/
theorem Q124 (n : Nat) (hn : 1048577 ≤ n) (x0 : List (List (UInt8))) (hz : szL (fun l : List (UInt8) => l.length) x0 ≤ 1048576) : f124 n x0 x0 = some (true, ()) := by
  exact eq_slice (L := f124L0 n) (E := fun x y k => obind (f167 n x y) fun r => if (!r.1) = true then some (false, ()) else k) hn (szL_len hz) (fun x hx k => by rw [Q167 n hn x (szL_le (g := (fun l : List (UInt8) => l.length)) hx hz), obind_some]; rfl) (fun m i => rfl)
/- eqWr -/
theorem Q168 (n : Nat) (hn : 1048577 ≤ n) (x0 : Int) (x1 : List (UInt8)) (hz : (List.length x1 + 0) ≤ 1048576) : f168 n x0 x1 x0 x1 = some (true, ()) := by
  unfold f168
  rw [Q167 n hn x1 (by have h1 := hz; first | exact h1 | omega)]
  simp [obind_some]
/- eqWrS -/
theorem Q125 (n : Nat) (hn : 1048577 ≤ n) (x0 : List (D77)) (hz : szL z77 x0 ≤ 1048576) : f125 n x0 x0 = some (true, ()) := by
  exact eq_slice (L := f125L0 n) (E := fun x y k => obind (f168 n (x.1) (x.2) (y.1) (y.2)) fun r => if (!r.1) = true then some (false, ()) else k) hn (szL_len hz) (fun x hx k => by rw [Q168 n hn (x.1) (x.2) (szL_le (g := z77) hx hz), obind_some]; rfl) (fun m i => rfl)
/- eqDev -/
theorem Q70 (n : Nat) (hn : 1048577 ≤ n) (x0 : List (List (UInt8))) (x1 : List (D77)) (x2 : Int) (x3 : Bool) (hz : (szL (fun l : List (UInt8) => l.length) x0 + (szL z77 x1 + 0)) ≤ 1048576) : f70 n x0 x1 x2 x3 x0 x1 x2 x3 = some (true, ()) := by
  unfold f70
  rw [Q124 n hn x0 (by have h1 := hz; first | exact h1 | omega)]
  rw [Q125 n hn x1 (by have h1 := hz; first | exact h1 | omega)]
  simp [obind_some]
/- eqCell -/
theorem Q189 (n : Nat) (hn : 1048577 ≤ n) (x0 : Int) (x1 : List (UInt8)) (hz : (List.length x1 + 0) ≤ 1048576) : f189 n x0 x1 x0 x1 = some (true, ()) := by
  unfold f189
  rw [Q167 n hn x1 (by have h1 := hz; first | exact h1 | omega)]
  simp [obind_some]
/- eqRow -/
theorem Q169 (n : Nat) (hn : 1048577 ≤ n) (x0 : List UInt8) (x1 : Int) (x2 : List (UInt8)) (x3 : Int) (x4 : List (UInt8)) (x5 : Int) (x6 : Bool) (hz : (List.length x0 + ((List.length x2 + 0) + ((List.length x4 + 0) + 0))) ≤ 1048576) : f169 n x0 x1 x2 x3 x4 x5 x6 x0 x1 x2 x3 x4 x5 x6 = some (true, ()) := by
  unfold f169
  rw [Q189 n hn x1 x2 (by have h1 := hz; first | exact h1 | omega)]
  rw [Q189 n hn x3 x4 (by have h1 := hz; first | exact h1 | omega)]
  simp [obind_some]
/- eqRowS -/
theorem Q126 (n : Nat) (hn : 1048577 ≤ n) (x0 : List (D79)) (hz : szL z79 x0 ≤ 1048576) : f126 n x0 x0 = some (true, ()) := by
  exact eq_slice (L := f126L0 n) (E := fun x y k => obind (f169 n (x.1) (x.2.1.1) (x.2.1.2) (x.2.2.1.1) (x.2.2.1.2) (x.2.2.2.1) (x.2.2.2.2) (y.1) (y.2.1.1) (y.2.1.2) (y.2.2.1.1) (y.2.2.1.2) (y.2.2.2.1) (y.2.2.2.2)) fun r => if (!r.1) = true then some (false, ()) else k) hn (szL_len hz) (fun x hx k => by rw [Q169 n hn (x.1) (x.2.1.1) (x.2.1.2) (x.2.2.1.1) (x.2.2.1.2) (x.2.2.2.1) (x.2.2.2.2) (szL_le (g := z79) hx hz), obind_some]; rfl) (fun m i => rfl)
/- eqMark -/
theorem Q170 (n : Nat) (hn : 1048577 ≤ n) (x0 : Int) (x1 : Int) (x2 : Int) (hz : 0 ≤ 1048576) : f170 n x0 x1 x2 x0 x1 x2 = some (true, ()) := by
  unfold f170
  simp
/- eqMarkS -/
theorem Q127 (n : Nat) (hn : 1048577 ≤ n) (x0 : List (D206)) (hz : List.length x0 ≤ 1048576) : f127 n x0 x0 = some (true, ()) := by
  exact eq_slice (L := f127L0 n) (E := fun x y k => obind (f170 n (x.1) (x.2.1) (x.2.2) (y.1) (y.2.1) (y.2.2)) fun r => if (!r.1) = true then some (false, ()) else k) hn hz (fun x hx k => by rw [Q170 n hn (x.1) (x.2.1) (x.2.2) (Nat.zero_le _), obind_some]; rfl) (fun m i => rfl)
/- eqTab -/
theorem Q71 (n : Nat) (hn : 1048577 ≤ n) (x0 : List (D79)) (x1 : Int) (x2 : List (D206)) (hz : (szL z79 x0 + (List.length x2 + 0)) ≤ 1048576) : f71 n x0 x1 x2 x0 x1 x2 = some (true, ()) := by
  unfold f71
  rw [Q126 n hn x0 (by have h1 := hz; first | exact h1 | omega)]
  rw [Q127 n hn x2 (by have h1 := hz; first | exact h1 | omega)]
  simp [obind_some]
/- eqStore -/
theorem Q26 (n : Nat) (hn : 1048577 ≤ n) (x0 : List (List (UInt8))) (x1 : List (D77)) (x2 : Int) (x3 : Bool) (x4 : List (D79)) (x5 : Int) (x6 : List (D206)) (x7 : Int) (x8 : Int) (hz : ((szL (fun l : List (UInt8) => l.length) x0 + (szL z77 x1 + 0)) + ((szL z79 x4 + (List.length x6 + 0)) + 0)) ≤ 1048576) : f26 n x0 x1 x2 x3 x4 x5 x6 x7 x8 x0 x1 x2 x3 x4 x5 x6 x7 x8 = some (true, ()) := by
  unfold f26
  rw [Q70 n hn x0 x1 x2 x3 (by have h1 := hz; first | exact h1 | omega)]
  rw [Q71 n hn x4 x5 x6 (by have h1 := hz; first | exact h1 | omega)]
  simp [obind_some]
/- eqNode -/
theorem Q10 (n : Nat) (hn : 1048577 ≤ n) (x0 : List (List (UInt8))) (x1 : List (D77)) (x2 : Int) (x3 : Bool) (x4 : List (D79)) (x5 : Int) (x6 : List (D206)) (x7 : Int) (x8 : Int) (x9 : Int) (hz : (((szL (fun l : List (UInt8) => l.length) x0 + (szL z77 x1 + 0)) + ((szL z79 x4 + (List.length x6 + 0)) + 0)) + 0) ≤ 1048576) : f10 n x0 x1 x2 x3 x4 x5 x6 x7 x8 x9 x0 x1 x2 x3 x4 x5 x6 x7 x8 x9 = some (true, ()) := by
  unfold f10
  rw [Q26 n hn x0 x1 x2 x3 x4 x5 x6 x7 x8 (by have h1 := hz; first | exact h1 | omega)]
  simp [obind_some]
/- eqNodeS -/
theorem Q44 (n : Nat) (hn : 1048577 ≤ n) (x0 : List (D32)) (hz : szL z32 x0 ≤ 1048576) : f44 n x0 x0 = some (true, ()) := by
  exact eq_slice (L := f44L0 n) (E := fun x y k => obind (f10 n (x.1.1.1) (x.1.1.2.1) (x.1.1.2.2.1) (x.1.1.2.2.2) (x.1.2.1.1) (x.1.2.1.2.1) (x.1.2.1.2.2) (x.1.2.2.1) (x.1.2.2.2) (x.2) (y.1.1.1) (y.1.1.2.1) (y.1.1.2.2.1) (y.1.1.2.2.2) (y.1.2.1.1) (y.1.2.1.2.1) (y.1.2.1.2.2) (y.1.2.2.1) (y.1.2.2.2) (y.2)) fun r => if (!r.1) = true then some (false, ()) else k) hn (szL_len hz) (fun x hx k => by rw [Q10 n hn (x.1.1.1) (x.1.1.2.1) (x.1.1.2.2.1) (x.1.1.2.2.2) (x.1.2.1.1) (x.1.2.1.2.1) (x.1.2.1.2.2) (x.1.2.2.1) (x.1.2.2.2) (x.2) (szL_le (g := z32) hx hz), obind_some]; rfl) (fun m i => rfl)
/- eqMsg -/
theorem Q95 (n : Nat) (hn : 1048577 ≤ n) (x0 : Int) (x1 : Int) (x2 : Int) (x3 : Int) (x4 : List UInt8) (x5 : List UInt8) (x6 : Int) (x7 : Int) (hz : (List.length x4 + (List.length x5 + 0)) ≤ 1048576) : f95 n x0 x1 x2 x3 x4 x5 x6 x7 x0 x1 x2 x3 x4 x5 x6 x7 = some (true, ()) := by
  unfold f95
  simp
/- eqDone -/
theorem Q178 (n : Nat) (hn : 1048577 ≤ n) (x0 : Int) (x1 : Int) (x2 : List UInt8) (x3 : List UInt8) (x4 : Int) (hz : (List.length x2 + (List.length x3 + 0)) ≤ 1048576) : f178 n x0 x1 x2 x3 x4 x0 x1 x2 x3 x4 = some (true, ()) := by
  unfold f178
  simp
/- eqDoneS -/
theorem Q139 (n : Nat) (hn : 1048577 ≤ n) (x0 : List (D181)) (hz : szL z181 x0 ≤ 1048576) : f139 n x0 x0 = some (true, ()) := by
  exact eq_slice (L := f139L0 n) (E := fun x y k => obind (f178 n (x.1) (x.2.1) (x.2.2.1) (x.2.2.2.1) (x.2.2.2.2) (y.1) (y.2.1) (y.2.2.1) (y.2.2.2.1) (y.2.2.2.2)) fun r => if (!r.1) = true then some (false, ()) else k) hn (szL_len hz) (fun x hx k => by rw [Q178 n hn (x.1) (x.2.1) (x.2.2.1) (x.2.2.2.1) (x.2.2.2.2) (szL_le (g := z181) hx hz), obind_some]; rfl) (fun m i => rfl)
/- eqClient -/
theorem Q94 (n : Nat) (hn : 1048577 ≤ n) (x0 : Int) (x1 : Int) (x2 : Bool) (x3 : Int) (x4 : Int) (x5 : Int) (x6 : Int) (x7 : List UInt8) (x8 : List UInt8) (x9 : Int) (x10 : Int) (x11 : List (D181)) (hz : ((List.length x7 + (List.length x8 + 0)) + (szL z181 x11 + 0)) ≤ 1048576) : f94 n x0 x1 x2 x3 x4 x5 x6 x7 x8 x9 x10 x11 x0 x1 x2 x3 x4 x5 x6 x7 x8 x9 x10 x11 = some (true, ()) := by
  unfold f94
  rw [Q95 n hn x3 x4 x5 x6 x7 x8 x9 x10 (by have h1 := hz; first | exact h1 | omega)]
  rw [Q139 n hn x11 (by have h1 := hz; first | exact h1 | omega)]
  simp [obind_some]
/- eqClientS -/
theorem Q45 (n : Nat) (hn : 1048577 ≤ n) (x0 : List (D128)) (hz : szL z128 x0 ≤ 1048576) : f45 n x0 x0 = some (true, ()) := by
  exact eq_slice (L := f45L0 n) (E := fun x y k => obind (f94 n (x.1) (x.2.1) (x.2.2.1) (x.2.2.2.1.1) (x.2.2.2.1.2.1) (x.2.2.2.1.2.2.1) (x.2.2.2.1.2.2.2.1) (x.2.2.2.1.2.2.2.2.1) (x.2.2.2.1.2.2.2.2.2.1) (x.2.2.2.1.2.2.2.2.2.2.1) (x.2.2.2.1.2.2.2.2.2.2.2) (x.2.2.2.2) (y.1) (y.2.1) (y.2.2.1) (y.2.2.2.1.1) (y.2.2.2.1.2.1) (y.2.2.2.1.2.2.1) (y.2.2.2.1.2.2.2.1) (y.2.2.2.1.2.2.2.2.1) (y.2.2.2.1.2.2.2.2.2.1) (y.2.2.2.1.2.2.2.2.2.2.1) (y.2.2.2.1.2.2.2.2.2.2.2) (y.2.2.2.2)) fun r => if (!r.1) = true then some (false, ()) else k) hn (szL_len hz) (fun x hx k => by rw [Q94 n hn (x.1) (x.2.1) (x.2.2.1) (x.2.2.2.1.1) (x.2.2.2.1.2.1) (x.2.2.2.1.2.2.1) (x.2.2.2.1.2.2.2.1) (x.2.2.2.1.2.2.2.2.1) (x.2.2.2.1.2.2.2.2.2.1) (x.2.2.2.1.2.2.2.2.2.2.1) (x.2.2.2.1.2.2.2.2.2.2.2) (x.2.2.2.2) (szL_le (g := z128) hx hz), obind_some]; rfl) (fun m i => rfl)
/- eqMsgS -/
theorem Q46 (n : Nat) (hn : 1048577 ≤ n) (x0 : List (D125)) (hz : szL z125 x0 ≤ 1048576) : f46 n x0 x0 = some (true, ()) := by
  exact eq_slice (L := f46L0 n) (E := fun x y k => obind (f95 n (x.1) (x.2.1) (x.2.2.1) (x.2.2.2.1) (x.2.2.2.2.1) (x.2.2.2.2.2.1) (x.2.2.2.2.2.2.1) (x.2.2.2.2.2.2.2) (y.1) (y.2.1) (y.2.2.1) (y.2.2.2.1) (y.2.2.2.2.1) (y.2.2.2.2.2.1) (y.2.2.2.2.2.2.1) (y.2.2.2.2.2.2.2)) fun r => if (!r.1) = true then some (false, ()) else k) hn (szL_len hz) (fun x hx k => by rw [Q95 n hn (x.1) (x.2.1) (x.2.2.1) (x.2.2.2.1) (x.2.2.2.2.1) (x.2.2.2.2.2.1) (x.2.2.2.2.2.2.1) (x.2.2.2.2.2.2.2) (szL_le (g := z125) hx hz), obind_some]; rfl) (fun m i => rfl)
/- eqAct -/
theorem Q96 (n : Nat) (hn : 1048577 ≤ n) (x0 : Int) (x1 : Int) (x2 : Int) (x3 : List UInt8) (x4 : List UInt8) (x5 : Int) (hz : (List.length x3 + (List.length x4 + 0)) ≤ 1048576) : f96 n x0 x1 x2 x3 x4 x5 x0 x1 x2 x3 x4 x5 = some (true, ()) := by
  unfold f96
  simp
/- eqActS -/
theorem Q47 (n : Nat) (hn : 1048577 ≤ n) (x0 : List (D132)) (hz : szL z132 x0 ≤ 1048576) : f47 n x0 x0 = some (true, ()) := by
  exact eq_slice (L := f47L0 n) (E := fun x y k => obind (f96 n (x.1) (x.2.1) (x.2.2.1) (x.2.2.2.1) (x.2.2.2.2.1) (x.2.2.2.2.2) (y.1) (y.2.1) (y.2.2.1) (y.2.2.2.1) (y.2.2.2.2.1) (y.2.2.2.2.2)) fun r => if (!r.1) = true then some (false, ()) else k) hn (szL_len hz) (fun x hx k => by rw [Q96 n hn (x.1) (x.2.1) (x.2.2.1) (x.2.2.2.1) (x.2.2.2.2.1) (x.2.2.2.2.2) (szL_le (g := z132) hx hz), obind_some]; rfl) (fun m i => rfl)
/- eqActSS -/
theorem Q48 (n : Nat) (hn : 1048577 ≤ n) (x0 : List (List (D132))) (hz : szL (fun l : List (D132) => szL z132 l) x0 ≤ 1048576) : f48 n x0 x0 = some (true, ()) := by
  exact eq_slice (L := f48L0 n) (E := fun x y k => obind (f47 n x y) fun r => if (!r.1) = true then some (false, ()) else k) hn (szL_len hz) (fun x hx k => by rw [Q47 n hn x (szL_le (g := (fun l : List (D132) => szL z132 l)) hx hz), obind_some]; rfl) (fun m i => rfl)
/- eqWorld -/
theorem Q15 (n : Nat) (hn : 1048577 ≤ n) (x0 : Int) (x1 : List (Bool)) (x2 : List (Bool)) (x3 : List (List UInt8)) (x4 : List (D32)) (x5 : List (D128)) (x6 : List (D125)) (x7 : List (D132)) (x8 : List (List (D132))) (hz : ((List.length x1 + (List.length x2 + (szL (fun s : List UInt8 => s.length) x3 + 0))) + (szL z32 x4 + (szL z128 x5 + (szL z125 x6 + (szL z132 x7 + (szL (fun l : List (D132) => szL z132 l) x8 + 0)))))) ≤ 1048576) : f15 n x0 x1 x2 x3 x4 x5 x6 x7 x8 x0 x1 x2 x3 x4 x5 x6 x7 x8 = some (true, ()) := by
  unfold f15
  rw [Q43 n hn x0 x1 x2 x3 (by have h1 := hz; first | exact h1 | omega)]
  rw [Q44 n hn x4 (by have h1 := hz; first | exact h1 | omega)]
  rw [Q45 n hn x5 (by have h1 := hz; first | exact h1 | omega)]
  rw [Q46 n hn x6 (by have h1 := hz; first | exact h1 | omega)]
  rw [Q47 n hn x7 (by have h1 := hz; first | exact h1 | omega)]
  rw [Q48 n hn x8 (by have h1 := hz; first | exact h1 | omega)]
  simp [obind_some]
end Go.Sym

import Derived.Test.YtpbfjemedfnkeaaGreatPFnExactLate0
import Derived.Test.YtpbfjemedfnkeaaGreatM2
/-! Laws of sizes, copies and comparisons. -/
namespace Go.Sym
open Go
set_option maxRecDepth 100000
set_option linter.unusedVariables false
/- szBoolS -/
theorem Z37 (n : Nat) (hn : 1048577 ≤ n) (x0 : List (Bool)) (left : Int) (h0 : 0 ≤ left) (h1 : left ≤ 1048576) (hf0 : Ty.Fit (.sl (.bool)) x0) : f37 n x0 left = szR left (List.length x0) := by
  exact szR_last h0 h1 hf0.1
/- szStringS -/
theorem Z38 (n : Nat) (hn : 1048577 ≤ n) (x0 : List (List UInt8)) (left : Int) (h0 : 0 ≤ left) (h1 : left ≤ 1048576) (hf0 : Ty.Fit (.sl (.str)) x0) : f38 n x0 left = szR left (szL (fun s : List UInt8 => s.length) x0) := by
  refine szR_slice_str (L := f38L0 n) hn h0 h1 hf0.1 (fun x hx => hf0.2 x hx) (fun m left i => rfl)
/- szLead -/
theorem Z13 (n : Nat) (hn : 1048577 ≤ n) (x0 : Int) (x1 : List (Bool)) (x2 : List (Bool)) (x3 : List (List UInt8)) (left : Int) (h0 : 0 ≤ left) (h1 : left ≤ 1048576) (hf1 : Ty.Fit (.sl (.bool)) x1) (hf2 : Ty.Fit (.sl (.bool)) x2) (hf3 : Ty.Fit (.sl (.str)) x3) : f13 n x0 x1 x2 x3 left = szR left ((List.length x1 + (List.length x2 + (szL (fun s : List UInt8 => s.length) x3 + 0)))) := by
  unfold f13
  rw [Z37 n hn x1 left h0 h1 hf1]
  refine szR_bindK h0 (fun v1 hv1a hv1b => ?_)
  dsimp only
  rw [Z37 n hn x2 v1 hv1a (Int.le_trans hv1b h1) hf2]
  refine szR_bindK hv1a (fun v2 hv2a hv2b => ?_)
  dsimp only
  rw [Z38 n hn x3 v2 hv2a (Int.le_trans hv2b (Int.le_trans hv1b h1)) hf3]
  refine szR_bindK hv2a (fun v3 hv3a hv3b => ?_)
  dsimp only
  exact szR_zero hv3a
/- szByteS -/
theorem Z91 (n : Nat) (hn : 1048577 ≤ n) (x0 : List (UInt8)) (left : Int) (h0 : 0 ≤ left) (h1 : left ≤ 1048576) (hf0 : Ty.Fit (.sl (.u8)) x0) : f91 n x0 left = szR left (List.length x0) := by
  exact szR_last h0 h1 hf0.1
/- szByteSS -/
theorem Z79 (n : Nat) (hn : 1048577 ≤ n) (x0 : List (List (UInt8))) (left : Int) (h0 : 0 ≤ left) (h1 : left ≤ 1048576) (hf0 : Ty.Fit (.sl (.sl (.u8))) x0) : f79 n x0 left = szR left (szL (fun l : List (UInt8) => l.length) x0) := by
  exact szR_slice (L := f79L0 n) (F := fun x v => f91 n x v) (g := (fun l : List (UInt8) => l.length)) hn h0 h1 hf0.1 (fun x hx v hv0 hv1 => Z91 n hn x v hv0 hv1 (hf0.2 x hx)) (fun m left i => rfl)
/- szWr -/
theorem Z92 (n : Nat) (hn : 1048577 ≤ n) (x0 : Int) (x1 : List (UInt8)) (left : Int) (h0 : 0 ≤ left) (h1 : left ≤ 1048576) (hf1 : Ty.Fit (.sl (.u8)) x1) : f92 n x0 x1 left = szR left ((List.length x1 + 0)) := by
  unfold f92
  rw [Z91 n hn x1 left h0 h1 hf1]
  refine szR_bindK h0 (fun v1 hv1a hv1b => ?_)
  dsimp only
  exact szR_zero hv1a
def z141 (x : D141) : Nat := (List.length (x.2) + 0)
/- szWrS -/
theorem Z80 (n : Nat) (hn : 1048577 ≤ n) (x0 : List (D141)) (left : Int) (h0 : 0 ≤ left) (h1 : left ≤ 1048576) (hf0 : Ty.Fit (.sl (ty141)) x0) : f80 n x0 left = szR left (szL z141 x0) := by
  exact szR_slice (L := f80L0 n) (F := fun x v => f92 n (x.1) (x.2) v) (g := z141) hn h0 h1 hf0.1 (fun x hx v hv0 hv1 => Z92 n hn (x.1) (x.2) v hv0 hv1 (hf0.2 x hx).2) (fun m left i => rfl)
/- szDev -/
theorem Z70 (n : Nat) (hn : 1048577 ≤ n) (x0 : List (List (UInt8))) (x1 : List (D141)) (x2 : Int) (x3 : Bool) (left : Int) (h0 : 0 ≤ left) (h1 : left ≤ 1048576) (hf0 : Ty.Fit (.sl (.sl (.u8))) x0) (hf1 : Ty.Fit (.sl (ty141)) x1) : f70 n x0 x1 x2 x3 left = szR left ((szL (fun l : List (UInt8) => l.length) x0 + (szL z141 x1 + 0))) := by
  unfold f70
  rw [Z79 n hn x0 left h0 h1 hf0]
  refine szR_bindK h0 (fun v1 hv1a hv1b => ?_)
  dsimp only
  rw [Z80 n hn x1 v1 hv1a (Int.le_trans hv1b h1) hf1]
  refine szR_bindK hv1a (fun v2 hv2a hv2b => ?_)
  dsimp only
  exact szR_zero hv2a
/- szCell -/
theorem Z102 (n : Nat) (hn : 1048577 ≤ n) (x0 : Int) (x1 : List (UInt8)) (left : Int) (h0 : 0 ≤ left) (h1 : left ≤ 1048576) (hf1 : Ty.Fit (.sl (.u8)) x1) : f102 n x0 x1 left = szR left ((List.length x1 + 0)) := by
  unfold f102
  rw [Z91 n hn x1 left h0 h1 hf1]
  refine szR_bindK h0 (fun v1 hv1a hv1b => ?_)
  dsimp only
  exact szR_zero hv1a
/- szRow -/
theorem Z93 (n : Nat) (hn : 1048577 ≤ n) (x0 : List UInt8) (x1 : Int) (x2 : List (UInt8)) (x3 : Int) (x4 : List (UInt8)) (x5 : Int) (x6 : Bool) (left : Int) (h0 : 0 ≤ left) (h1 : left ≤ 1048576) (hf0 : Ty.Fit (.str) x0) (hf2 : Ty.Fit (.sl (.u8)) x2) (hf4 : Ty.Fit (.sl (.u8)) x4) : f93 n x0 x1 x2 x3 x4 x5 x6 left = szR left ((List.length x0 + ((List.length x2 + 0) + ((List.length x4 + 0) + 0)))) := by
  unfold f93
  refine szR_lenK h0 h1 hf0 (fun v1 hv1 hv1a hv1b => ?_)
  rw [← hv1]
  rw [Z102 n hn x1 x2 v1 hv1a (Int.le_trans hv1b h1) hf2]
  refine szR_bindK hv1a (fun v2 hv2a hv2b => ?_)
  dsimp only
  rw [Z102 n hn x3 x4 v2 hv2a (Int.le_trans hv2b (Int.le_trans hv1b h1)) hf4]
  refine szR_bindK hv2a (fun v3 hv3a hv3b => ?_)
  dsimp only
  exact szR_zero hv3a
def z145 (x : D145) : Nat := (List.length (x.1) + ((List.length (x.2.1.2) + 0) + ((List.length (x.2.2.1.2) + 0) + 0)))
/- szRowS -/
theorem Z81 (n : Nat) (hn : 1048577 ≤ n) (x0 : List (D145)) (left : Int) (h0 : 0 ≤ left) (h1 : left ≤ 1048576) (hf0 : Ty.Fit (.sl (ty145)) x0) : f81 n x0 left = szR left (szL z145 x0) := by
  exact szR_slice (L := f81L0 n) (F := fun x v => f93 n (x.1) (x.2.1.1) (x.2.1.2) (x.2.2.1.1) (x.2.2.1.2) (x.2.2.2.1) (x.2.2.2.2) v) (g := z145) hn h0 h1 hf0.1 (fun x hx v hv0 hv1 => Z93 n hn (x.1) (x.2.1.1) (x.2.1.2) (x.2.2.1.1) (x.2.2.1.2) (x.2.2.2.1) (x.2.2.2.2) v hv0 hv1 (hf0.2 x hx).1 (hf0.2 x hx).2.1.2 (hf0.2 x hx).2.2.1.2) (fun m left i => rfl)
/- szMarkS -/
theorem Z82 (n : Nat) (hn : 1048577 ≤ n) (x0 : List (D147)) (left : Int) (h0 : 0 ≤ left) (h1 : left ≤ 1048576) (hf0 : Ty.Fit (.sl (ty147)) x0) : f82 n x0 left = szR left (List.length x0) := by
  exact szR_last h0 h1 hf0.1
/- szTab -/
theorem Z71 (n : Nat) (hn : 1048577 ≤ n) (x0 : List (D145)) (x1 : Int) (x2 : List (D147)) (left : Int) (h0 : 0 ≤ left) (h1 : left ≤ 1048576) (hf0 : Ty.Fit (.sl (ty145)) x0) (hf2 : Ty.Fit (.sl (ty147)) x2) : f71 n x0 x1 x2 left = szR left ((szL z145 x0 + (List.length x2 + 0))) := by
  unfold f71
  rw [Z81 n hn x0 left h0 h1 hf0]
  refine szR_bindK h0 (fun v1 hv1a hv1b => ?_)
  dsimp only
  rw [Z82 n hn x2 v1 hv1a (Int.le_trans hv1b h1) hf2]
  refine szR_bindK hv1a (fun v2 hv2a hv2b => ?_)
  dsimp only
  exact szR_zero hv2a
/- szStore -/
theorem Z63 (n : Nat) (hn : 1048577 ≤ n) (x0 : List (List (UInt8))) (x1 : List (D141)) (x2 : Int) (x3 : Bool) (x4 : List (D145)) (x5 : Int) (x6 : List (D147)) (x7 : Int) (x8 : Int) (left : Int) (h0 : 0 ≤ left) (h1 : left ≤ 1048576) (hf0 : Ty.Fit (.sl (.sl (.u8))) x0) (hf1 : Ty.Fit (.sl (ty141)) x1) (hf4 : Ty.Fit (.sl (ty145)) x4) (hf6 : Ty.Fit (.sl (ty147)) x6) : f63 n x0 x1 x2 x3 x4 x5 x6 x7 x8 left = szR left (((szL (fun l : List (UInt8) => l.length) x0 + (szL z141 x1 + 0)) + ((szL z145 x4 + (List.length x6 + 0)) + 0))) := by
  unfold f63
  rw [Z70 n hn x0 x1 x2 x3 left h0 h1 hf0 hf1]
  refine szR_bindK h0 (fun v1 hv1a hv1b => ?_)
  dsimp only
  rw [Z71 n hn x4 x5 x6 v1 hv1a (Int.le_trans hv1b h1) hf4 hf6]
  refine szR_bindK hv1a (fun v2 hv2a hv2b => ?_)
  dsimp only
  exact szR_zero hv2a
/- szNode -/
theorem Z39 (n : Nat) (hn : 1048577 ≤ n) (x0 : List (List (UInt8))) (x1 : List (D141)) (x2 : Int) (x3 : Bool) (x4 : List (D145)) (x5 : Int) (x6 : List (D147)) (x7 : Int) (x8 : Int) (x9 : Int) (left : Int) (h0 : 0 ≤ left) (h1 : left ≤ 1048576) (hf0 : Ty.Fit (.sl (.sl (.u8))) x0) (hf1 : Ty.Fit (.sl (ty141)) x1) (hf4 : Ty.Fit (.sl (ty145)) x4) (hf6 : Ty.Fit (.sl (ty147)) x6) : f39 n x0 x1 x2 x3 x4 x5 x6 x7 x8 x9 left = szR left ((((szL (fun l : List (UInt8) => l.length) x0 + (szL z141 x1 + 0)) + ((szL z145 x4 + (List.length x6 + 0)) + 0)) + 0)) := by
  unfold f39
  rw [Z63 n hn x0 x1 x2 x3 x4 x5 x6 x7 x8 left h0 h1 hf0 hf1 hf4 hf6]
  refine szR_bindK h0 (fun v1 hv1a hv1b => ?_)
  dsimp only
  exact szR_zero hv1a
def z66 (x : D66) : Nat := (((szL (fun l : List (UInt8) => l.length) (x.1.1.1) + (szL z141 (x.1.1.2.1) + 0)) + ((szL z145 (x.1.2.1.1) + (List.length (x.1.2.1.2.2) + 0)) + 0)) + 0)
/- szNodeS -/
theorem Z14 (n : Nat) (hn : 1048577 ≤ n) (x0 : List (D66)) (left : Int) (h0 : 0 ≤ left) (h1 : left ≤ 1048576) (hf0 : Ty.Fit (.sl (ty66)) x0) : f14 n x0 left = szR left (szL z66 x0) := by
  exact szR_slice (L := f14L0 n) (F := fun x v => f39 n (x.1.1.1) (x.1.1.2.1) (x.1.1.2.2.1) (x.1.1.2.2.2) (x.1.2.1.1) (x.1.2.1.2.1) (x.1.2.1.2.2) (x.1.2.2.1) (x.1.2.2.2) (x.2) v) (g := z66) hn h0 h1 hf0.1 (fun x hx v hv0 hv1 => Z39 n hn (x.1.1.1) (x.1.1.2.1) (x.1.1.2.2.1) (x.1.1.2.2.2) (x.1.2.1.1) (x.1.2.1.2.1) (x.1.2.1.2.2) (x.1.2.2.1) (x.1.2.2.2) (x.2) v hv0 hv1 (hf0.2 x hx).1.1.1 (hf0.2 x hx).1.1.2.1 (hf0.2 x hx).1.2.1.1 (hf0.2 x hx).1.2.1.2.2) (fun m left i => rfl)
/- szMsg -/
theorem Z41 (n : Nat) (hn : 1048577 ≤ n) (x0 : Int) (x1 : Int) (x2 : Int) (x3 : Int) (x4 : List UInt8) (x5 : List UInt8) (x6 : Int) (x7 : Int) (left : Int) (h0 : 0 ≤ left) (h1 : left ≤ 1048576) (hf4 : Ty.Fit (.str) x4) (hf5 : Ty.Fit (.str) x5) : f41 n x0 x1 x2 x3 x4 x5 x6 x7 left = szR left ((List.length x4 + (List.length x5 + 0))) := by
  unfold f41
  refine szR_lenK h0 h1 hf4 (fun v1 hv1 hv1a hv1b => ?_)
  rw [← hv1]
  refine szR_lenK hv1a (Int.le_trans hv1b h1) hf5 (fun v2 hv2 hv2a hv2b => ?_)
  rw [← hv2]
  exact szR_zero hv2a
/- szDone -/
theorem Z72 (n : Nat) (hn : 1048577 ≤ n) (x0 : Int) (x1 : Int) (x2 : List UInt8) (x3 : List UInt8) (x4 : Int) (left : Int) (h0 : 0 ≤ left) (h1 : left ≤ 1048576) (hf2 : Ty.Fit (.str) x2) (hf3 : Ty.Fit (.str) x3) : f72 n x0 x1 x2 x3 x4 left = szR left ((List.length x2 + (List.length x3 + 0))) := by
  unfold f72
  refine szR_lenK h0 h1 hf2 (fun v1 hv1 hv1a hv1b => ?_)
  rw [← hv1]
  refine szR_lenK hv1a (Int.le_trans hv1b h1) hf3 (fun v2 hv2 hv2a hv2b => ?_)
  rw [← hv2]
  exact szR_zero hv2a
def z149 (x : D149) : Nat := (List.length (x.2.2.1) + (List.length (x.2.2.2.1) + 0))
/- szDoneS -/
theorem Z64 (n : Nat) (hn : 1048577 ≤ n) (x0 : List (D149)) (left : Int) (h0 : 0 ≤ left) (h1 : left ≤ 1048576) (hf0 : Ty.Fit (.sl (ty149)) x0) : f64 n x0 left = szR left (szL z149 x0) := by
  exact szR_slice (L := f64L0 n) (F := fun x v => f72 n (x.1) (x.2.1) (x.2.2.1) (x.2.2.2.1) (x.2.2.2.2) v) (g := z149) hn h0 h1 hf0.1 (fun x hx v hv0 hv1 => Z72 n hn (x.1) (x.2.1) (x.2.2.1) (x.2.2.2.1) (x.2.2.2.2) v hv0 hv1 (hf0.2 x hx).2.2.1 (hf0.2 x hx).2.2.2.1) (fun m left i => rfl)
/- szClient -/
theorem Z40 (n : Nat) (hn : 1048577 ≤ n) (x0 : Int) (x1 : Int) (x2 : Bool) (x3 : Int) (x4 : Int) (x5 : Int) (x6 : Int) (x7 : List UInt8) (x8 : List UInt8) (x9 : Int) (x10 : Int) (x11 : List (D149)) (left : Int) (h0 : 0 ≤ left) (h1 : left ≤ 1048576) (hf7 : Ty.Fit (.str) x7) (hf8 : Ty.Fit (.str) x8) (hf11 : Ty.Fit (.sl (ty149)) x11) : f40 n x0 x1 x2 x3 x4 x5 x6 x7 x8 x9 x10 x11 left = szR left (((List.length x7 + (List.length x8 + 0)) + (szL z149 x11 + 0))) := by
  unfold f40
  rw [Z41 n hn x3 x4 x5 x6 x7 x8 x9 x10 left h0 h1 hf7 hf8]
  refine szR_bindK h0 (fun v1 hv1a hv1b => ?_)
  dsimp only
  rw [Z64 n hn x11 v1 hv1a (Int.le_trans hv1b h1) hf11]
  refine szR_bindK hv1a (fun v2 hv2a hv2b => ?_)
  dsimp only
  exact szR_zero hv2a
def z104 (x : D104) : Nat := ((List.length (x.2.2.2.1.2.2.2.2.1) + (List.length (x.2.2.2.1.2.2.2.2.2.1) + 0)) + (szL z149 (x.2.2.2.2) + 0))
/- szClientS -/
theorem Z15 (n : Nat) (hn : 1048577 ≤ n) (x0 : List (D104)) (left : Int) (h0 : 0 ≤ left) (h1 : left ≤ 1048576) (hf0 : Ty.Fit (.sl (ty104)) x0) : f15 n x0 left = szR left (szL z104 x0) := by
  exact szR_slice (L := f15L0 n) (F := fun x v => f40 n (x.1) (x.2.1) (x.2.2.1) (x.2.2.2.1.1) (x.2.2.2.1.2.1) (x.2.2.2.1.2.2.1) (x.2.2.2.1.2.2.2.1) (x.2.2.2.1.2.2.2.2.1) (x.2.2.2.1.2.2.2.2.2.1) (x.2.2.2.1.2.2.2.2.2.2.1) (x.2.2.2.1.2.2.2.2.2.2.2) (x.2.2.2.2) v) (g := z104) hn h0 h1 hf0.1 (fun x hx v hv0 hv1 => Z40 n hn (x.1) (x.2.1) (x.2.2.1) (x.2.2.2.1.1) (x.2.2.2.1.2.1) (x.2.2.2.1.2.2.1) (x.2.2.2.1.2.2.2.1) (x.2.2.2.1.2.2.2.2.1) (x.2.2.2.1.2.2.2.2.2.1) (x.2.2.2.1.2.2.2.2.2.2.1) (x.2.2.2.1.2.2.2.2.2.2.2) (x.2.2.2.2) v hv0 hv1 (hf0.2 x hx).2.2.2.1.2.2.2.2.1 (hf0.2 x hx).2.2.2.1.2.2.2.2.2.1 (hf0.2 x hx).2.2.2.2) (fun m left i => rfl)
def z101 (x : D101) : Nat := (List.length (x.2.2.2.2.1) + (List.length (x.2.2.2.2.2.1) + 0))
/- szMsgS -/
theorem Z16 (n : Nat) (hn : 1048577 ≤ n) (x0 : List (D101)) (left : Int) (h0 : 0 ≤ left) (h1 : left ≤ 1048576) (hf0 : Ty.Fit (.sl (ty101)) x0) : f16 n x0 left = szR left (szL z101 x0) := by
  exact szR_slice (L := f16L0 n) (F := fun x v => f41 n (x.1) (x.2.1) (x.2.2.1) (x.2.2.2.1) (x.2.2.2.2.1) (x.2.2.2.2.2.1) (x.2.2.2.2.2.2.1) (x.2.2.2.2.2.2.2) v) (g := z101) hn h0 h1 hf0.1 (fun x hx v hv0 hv1 => Z41 n hn (x.1) (x.2.1) (x.2.2.1) (x.2.2.2.1) (x.2.2.2.2.1) (x.2.2.2.2.2.1) (x.2.2.2.2.2.2.1) (x.2.2.2.2.2.2.2) v hv0 hv1 (hf0.2 x hx).2.2.2.2.1 (hf0.2 x hx).2.2.2.2.2.1) (fun m left i => rfl)
/- szAct -/
theorem Z42 (n : Nat) (hn : 1048577 ≤ n) (x0 : Int) (x1 : Int) (x2 : Int) (x3 : List UInt8) (x4 : List UInt8) (x5 : Int) (left : Int) (h0 : 0 ≤ left) (h1 : left ≤ 1048576) (hf3 : Ty.Fit (.str) x3) (hf4 : Ty.Fit (.str) x4) : f42 n x0 x1 x2 x3 x4 x5 left = szR left ((List.length x3 + (List.length x4 + 0))) := by
  unfold f42
  refine szR_lenK h0 h1 hf3 (fun v1 hv1 hv1a hv1b => ?_)
  rw [← hv1]
  refine szR_lenK hv1a (Int.le_trans hv1b h1) hf4 (fun v2 hv2 hv2a hv2b => ?_)
  rw [← hv2]
  exact szR_zero hv2a
def z108 (x : D108) : Nat := (List.length (x.2.2.2.1) + (List.length (x.2.2.2.2.1) + 0))
/- szActS -/
theorem Z17 (n : Nat) (hn : 1048577 ≤ n) (x0 : List (D108)) (left : Int) (h0 : 0 ≤ left) (h1 : left ≤ 1048576) (hf0 : Ty.Fit (.sl (ty108)) x0) : f17 n x0 left = szR left (szL z108 x0) := by
  exact szR_slice (L := f17L0 n) (F := fun x v => f42 n (x.1) (x.2.1) (x.2.2.1) (x.2.2.2.1) (x.2.2.2.2.1) (x.2.2.2.2.2) v) (g := z108) hn h0 h1 hf0.1 (fun x hx v hv0 hv1 => Z42 n hn (x.1) (x.2.1) (x.2.2.1) (x.2.2.2.1) (x.2.2.2.2.1) (x.2.2.2.2.2) v hv0 hv1 (hf0.2 x hx).2.2.2.1 (hf0.2 x hx).2.2.2.2.1) (fun m left i => rfl)
/- szActSS -/
theorem Z18 (n : Nat) (hn : 1048577 ≤ n) (x0 : List (List (D108))) (left : Int) (h0 : 0 ≤ left) (h1 : left ≤ 1048576) (hf0 : Ty.Fit (.sl (.sl (ty108))) x0) : f18 n x0 left = szR left (szL (fun l : List (D108) => szL z108 l) x0) := by
  exact szR_slice (L := f18L0 n) (F := fun x v => f17 n x v) (g := (fun l : List (D108) => szL z108 l)) hn h0 h1 hf0.1 (fun x hx v hv0 hv1 => Z17 n hn x v hv0 hv1 (hf0.2 x hx)) (fun m left i => rfl)
/- szWorld -/
theorem Z4 (n : Nat) (hn : 1048577 ≤ n) (x0 : Int) (x1 : List (Bool)) (x2 : List (Bool)) (x3 : List (List UInt8)) (x4 : List (D66)) (x5 : List (D104)) (x6 : List (D101)) (x7 : List (D108)) (x8 : List (List (D108))) (left : Int) (h0 : 0 ≤ left) (h1 : left ≤ 1048576) (hf1 : Ty.Fit (.sl (.bool)) x1) (hf2 : Ty.Fit (.sl (.bool)) x2) (hf3 : Ty.Fit (.sl (.str)) x3) (hf4 : Ty.Fit (.sl (ty66)) x4) (hf5 : Ty.Fit (.sl (ty104)) x5) (hf6 : Ty.Fit (.sl (ty101)) x6) (hf7 : Ty.Fit (.sl (ty108)) x7) (hf8 : Ty.Fit (.sl (.sl (ty108))) x8) : f4 n x0 x1 x2 x3 x4 x5 x6 x7 x8 left = szR left (((List.length x1 + (List.length x2 + (szL (fun s : List UInt8 => s.length) x3 + 0))) + (szL z66 x4 + (szL z104 x5 + (szL z101 x6 + (szL z108 x7 + (szL (fun l : List (D108) => szL z108 l) x8 + 0))))))) := by
  unfold f4
  rw [Z13 n hn x0 x1 x2 x3 left h0 h1 hf1 hf2 hf3]
  refine szR_bindK h0 (fun v1 hv1a hv1b => ?_)
  dsimp only
  rw [Z14 n hn x4 v1 hv1a (Int.le_trans hv1b h1) hf4]
  refine szR_bindK hv1a (fun v2 hv2a hv2b => ?_)
  dsimp only
  rw [Z15 n hn x5 v2 hv2a (Int.le_trans hv2b (Int.le_trans hv1b h1)) hf5]
  refine szR_bindK hv2a (fun v3 hv3a hv3b => ?_)
  dsimp only
  rw [Z16 n hn x6 v3 hv3a (Int.le_trans hv3b (Int.le_trans hv2b (Int.le_trans hv1b h1))) hf6]
  refine szR_bindK hv3a (fun v4 hv4a hv4b => ?_)
  dsimp only
  rw [Z17 n hn x7 v4 hv4a (Int.le_trans hv4b (Int.le_trans hv3b (Int.le_trans hv2b (Int.le_trans hv1b h1)))) hf7]
  refine szR_bindK hv4a (fun v5 hv5a hv5b => ?_)
  dsimp only
  rw [Z18 n hn x8 v5 hv5a (Int.le_trans hv5b (Int.le_trans hv4b (Int.le_trans hv3b (Int.le_trans hv2b (Int.le_trans hv1b h1))))) hf8]
  refine szR_bindK hv5a (fun v6 hv6a hv6b => ?_)
  dsimp only
  exact szR_zero hv6a
/- toBoolS -/
theorem T43 (n : Nat) (hn : 1048577 ≤ n) (x0 : List (Bool)) (hz : List.length x0 ≤ 1048576) : f43 n x0 = some (x0, ()) := by
  exact to_slice (L := f43L0 n) (F := fun x k => k x) (b := 1) hn (by decide) hz (fun _ _ _ => rfl) (fun m i out => rfl)
/- toStringS -/
theorem T44 (n : Nat) (hn : 1048577 ≤ n) (x0 : List (List UInt8)) (hz : szL (fun s : List UInt8 => s.length) x0 ≤ 1048576) : f44 n x0 = some (x0, ()) := by
  exact to_slice (L := f44L0 n) (F := fun x k => k x) (b := 16) hn (by decide) (szL_len hz) (fun _ _ _ => rfl) (fun m i out => rfl)
/- toLead -/
theorem T19 (n : Nat) (hn : 1048577 ≤ n) (x0 : Int) (x1 : List (Bool)) (x2 : List (Bool)) (x3 : List (List UInt8)) (hz : (List.length x1 + (List.length x2 + (szL (fun s : List UInt8 => s.length) x3 + 0))) ≤ 1048576) : f19 n x0 x1 x2 x3 = some (x0, x1, x2, x3, ()) := by
  unfold f19
  rw [T43 n hn x1 (by have h1 := hz; first | exact h1 | omega), obind_some]
  rw [T43 n hn x2 (by have h1 := hz; first | exact h1 | omega), obind_some]
  rw [T44 n hn x3 (by have h1 := hz; first | exact h1 | omega), obind_some]
/- toByteS -/
theorem T94 (n : Nat) (hn : 1048577 ≤ n) (x0 : List (UInt8)) (hz : List.length x0 ≤ 1048576) : f94 n x0 = some (x0, ()) := by
  exact to_slice (L := f94L0 n) (F := fun x k => k x) (b := 1) hn (by decide) hz (fun _ _ _ => rfl) (fun m i out => rfl)
/- toByteSS -/
theorem T83 (n : Nat) (hn : 1048577 ≤ n) (x0 : List (List (UInt8))) (hz : szL (fun l : List (UInt8) => l.length) x0 ≤ 1048576) : f83 n x0 = some (x0, ()) := by
  exact to_slice (L := f83L0 n) (F := fun x k => obind (f94 n x) fun r => k r.1) (b := 24) hn (by decide) (szL_len hz) (fun x hx k => by rw [T94 n hn x (szL_le (g := (fun l : List (UInt8) => l.length)) hx hz), obind_some]) (fun m i out => rfl)
/- toWr -/
theorem T95 (n : Nat) (hn : 1048577 ≤ n) (x0 : Int) (x1 : List (UInt8)) (hz : (List.length x1 + 0) ≤ 1048576) : f95 n x0 x1 = some (x0, x1, ()) := by
  unfold f95
  rw [T94 n hn x1 (by have h1 := hz; first | exact h1 | omega), obind_some]
/- toWrS -/
theorem T84 (n : Nat) (hn : 1048577 ≤ n) (x0 : List (D141)) (hz : szL z141 x0 ≤ 1048576) : f84 n x0 = some (x0, ()) := by
  exact to_slice (L := f84L0 n) (F := fun x k => obind (f95 n (x.1) (x.2)) fun r => k (r.1, r.2.1)) (b := 32) hn (by decide) (szL_len hz) (fun x hx k => by rw [T95 n hn (x.1) (x.2) (szL_le (g := z141) hx hz), obind_some]) (fun m i out => rfl)
/- toDev -/
theorem T73 (n : Nat) (hn : 1048577 ≤ n) (x0 : List (List (UInt8))) (x1 : List (D141)) (x2 : Int) (x3 : Bool) (hz : (szL (fun l : List (UInt8) => l.length) x0 + (szL z141 x1 + 0)) ≤ 1048576) : f73 n x0 x1 x2 x3 = some (x2, x3, x0, x1, ()) := by
  unfold f73
  rw [T83 n hn x0 (by have h1 := hz; first | exact h1 | omega), obind_some]
  rw [T84 n hn x1 (by have h1 := hz; first | exact h1 | omega), obind_some]
/- toCell -/
theorem T103 (n : Nat) (hn : 1048577 ≤ n) (x0 : Int) (x1 : List (UInt8)) (hz : (List.length x1 + 0) ≤ 1048576) : f103 n x0 x1 = some (x0, x1, ()) := by
  unfold f103
  rw [T94 n hn x1 (by have h1 := hz; first | exact h1 | omega), obind_some]
/- toRow -/
theorem T96 (n : Nat) (hn : 1048577 ≤ n) (x0 : List UInt8) (x1 : Int) (x2 : List (UInt8)) (x3 : Int) (x4 : List (UInt8)) (x5 : Int) (x6 : Bool) (hz : (List.length x0 + ((List.length x2 + 0) + ((List.length x4 + 0) + 0))) ≤ 1048576) : f96 n x0 x1 x2 x3 x4 x5 x6 = some (x0, x1, x3, x5, x6, x2, x4, ()) := by
  unfold f96
  rw [T103 n hn x1 x2 (by have h1 := hz; first | exact h1 | omega), obind_some]
  rw [T103 n hn x3 x4 (by have h1 := hz; first | exact h1 | omega), obind_some]
/- toRowS -/
theorem T85 (n : Nat) (hn : 1048577 ≤ n) (x0 : List (D145)) (hz : szL z145 x0 ≤ 1048576) : f85 n x0 = some (x0, ()) := by
  exact to_slice (L := f85L0 n) (F := fun x k => obind (f96 n (x.1) (x.2.1.1) (x.2.1.2) (x.2.2.1.1) (x.2.2.1.2) (x.2.2.2.1) (x.2.2.2.2)) fun r => k (r.1, (r.2.1, r.2.2.2.2.2.1), (r.2.2.1, r.2.2.2.2.2.2.1), r.2.2.2.1, r.2.2.2.2.1)) (b := 96) hn (by decide) (szL_len hz) (fun x hx k => by rw [T96 n hn (x.1) (x.2.1.1) (x.2.1.2) (x.2.2.1.1) (x.2.2.1.2) (x.2.2.2.1) (x.2.2.2.2) (szL_le (g := z145) hx hz), obind_some]) (fun m i out => rfl)
/- toMark -/
theorem T97 (n : Nat) (hn : 1048577 ≤ n) (x0 : Int) (x1 : Int) (x2 : Int) (hz : 0 ≤ 1048576) : f97 n x0 x1 x2 = some (x0, x1, x2, ()) := by
  rfl
/- toMarkS -/
theorem T86 (n : Nat) (hn : 1048577 ≤ n) (x0 : List (D147)) (hz : List.length x0 ≤ 1048576) : f86 n x0 = some (x0, ()) := by
  exact to_slice (L := f86L0 n) (F := fun x k => obind (f97 n (x.1) (x.2.1) (x.2.2)) fun r => k (r.1, r.2.1, r.2.2.1)) (b := 24) hn (by decide) hz (fun x hx k => by rw [T97 n hn (x.1) (x.2.1) (x.2.2) (Nat.zero_le _), obind_some]) (fun m i out => rfl)
/- toTab -/
theorem T74 (n : Nat) (hn : 1048577 ≤ n) (x0 : List (D145)) (x1 : Int) (x2 : List (D147)) (hz : (szL z145 x0 + (List.length x2 + 0)) ≤ 1048576) : f74 n x0 x1 x2 = some (x1, x0, x2, ()) := by
  unfold f74
  rw [T85 n hn x0 (by have h1 := hz; first | exact h1 | omega), obind_some]
  rw [T86 n hn x2 (by have h1 := hz; first | exact h1 | omega), obind_some]
/- toStore -/
theorem T65 (n : Nat) (hn : 1048577 ≤ n) (x0 : List (List (UInt8))) (x1 : List (D141)) (x2 : Int) (x3 : Bool) (x4 : List (D145)) (x5 : Int) (x6 : List (D147)) (x7 : Int) (x8 : Int) (hz : ((szL (fun l : List (UInt8) => l.length) x0 + (szL z141 x1 + 0)) + ((szL z145 x4 + (List.length x6 + 0)) + 0)) ≤ 1048576) : f65 n x0 x1 x2 x3 x4 x5 x6 x7 x8 = some (x2, x3, x5, x7, x8, x0, x1, x4, x6, ()) := by
  unfold f65
  rw [T73 n hn x0 x1 x2 x3 (by have h1 := hz; first | exact h1 | omega), obind_some]
  rw [T74 n hn x4 x5 x6 (by have h1 := hz; first | exact h1 | omega), obind_some]
/- toNode -/
theorem T45 (n : Nat) (hn : 1048577 ≤ n) (x0 : List (List (UInt8))) (x1 : List (D141)) (x2 : Int) (x3 : Bool) (x4 : List (D145)) (x5 : Int) (x6 : List (D147)) (x7 : Int) (x8 : Int) (x9 : Int) (hz : (((szL (fun l : List (UInt8) => l.length) x0 + (szL z141 x1 + 0)) + ((szL z145 x4 + (List.length x6 + 0)) + 0)) + 0) ≤ 1048576) : f45 n x0 x1 x2 x3 x4 x5 x6 x7 x8 x9 = some (x2, x3, x5, x7, x8, x9, x0, x1, x4, x6, ()) := by
  unfold f45
  rw [T65 n hn x0 x1 x2 x3 x4 x5 x6 x7 x8 (by have h1 := hz; first | exact h1 | omega), obind_some]
/- toNodeS -/
theorem T20 (n : Nat) (hn : 1048577 ≤ n) (x0 : List (D66)) (hz : szL z66 x0 ≤ 1048576) : f20 n x0 = some (x0, ()) := by
  exact to_slice (L := f20L0 n) (F := fun x k => obind (f45 n (x.1.1.1) (x.1.1.2.1) (x.1.1.2.2.1) (x.1.1.2.2.2) (x.1.2.1.1) (x.1.2.1.2.1) (x.1.2.1.2.2) (x.1.2.2.1) (x.1.2.2.2) (x.2)) fun r => k (((r.2.2.2.2.2.2.1, r.2.2.2.2.2.2.2.1, r.1, r.2.1), (r.2.2.2.2.2.2.2.2.1, r.2.2.1, r.2.2.2.2.2.2.2.2.2.1), r.2.2.2.1, r.2.2.2.2.1), r.2.2.2.2.2.1)) (b := 144) hn (by decide) (szL_len hz) (fun x hx k => by rw [T45 n hn (x.1.1.1) (x.1.1.2.1) (x.1.1.2.2.1) (x.1.1.2.2.2) (x.1.2.1.1) (x.1.2.1.2.1) (x.1.2.1.2.2) (x.1.2.2.1) (x.1.2.2.2) (x.2) (szL_le (g := z66) hx hz), obind_some]) (fun m i out => rfl)
/- toMsg -/
theorem T47 (n : Nat) (hn : 1048577 ≤ n) (x0 : Int) (x1 : Int) (x2 : Int) (x3 : Int) (x4 : List UInt8) (x5 : List UInt8) (x6 : Int) (x7 : Int) (hz : (List.length x4 + (List.length x5 + 0)) ≤ 1048576) : f47 n x0 x1 x2 x3 x4 x5 x6 x7 = some (x0, x1, x2, x3, x4, x5, x6, x7, ()) := by
  rfl
/- toDone -/
theorem T75 (n : Nat) (hn : 1048577 ≤ n) (x0 : Int) (x1 : Int) (x2 : List UInt8) (x3 : List UInt8) (x4 : Int) (hz : (List.length x2 + (List.length x3 + 0)) ≤ 1048576) : f75 n x0 x1 x2 x3 x4 = some (x0, x1, x2, x3, x4, ()) := by
  rfl
/- toDoneS -/
theorem T66 (n : Nat) (hn : 1048577 ≤ n) (x0 : List (D149)) (hz : szL z149 x0 ≤ 1048576) : f66 n x0 = some (x0, ()) := by
  exact to_slice (L := f66L0 n) (F := fun x k => obind (f75 n (x.1) (x.2.1) (x.2.2.1) (x.2.2.2.1) (x.2.2.2.2)) fun r => k (r.1, r.2.1, r.2.2.1, r.2.2.2.1, r.2.2.2.2.1)) (b := 56) hn (by decide) (szL_len hz) (fun x hx k => by rw [T75 n hn (x.1) (x.2.1) (x.2.2.1) (x.2.2.2.1) (x.2.2.2.2) (szL_le (g := z149) hx hz), obind_some]) (fun m i out => rfl)
/- toClient -/
theorem T46 (n : Nat) (hn : 1048577 ≤ n) (x0 : Int) (x1 : Int) (x2 : Bool) (x3 : Int) (x4 : Int) (x5 : Int) (x6 : Int) (x7 : List UInt8) (x8 : List UInt8) (x9 : Int) (x10 : Int) (x11 : List (D149)) (hz : ((List.length x7 + (List.length x8 + 0)) + (szL z149 x11 + 0)) ≤ 1048576) : f46 n x0 x1 x2 x3 x4 x5 x6 x7 x8 x9 x10 x11 = some (x0, x1, x2, x3, x4, x5, x6, x7, x8, x9, x10, x11, ()) := by
  unfold f46
  rw [T47 n hn x3 x4 x5 x6 x7 x8 x9 x10 (by have h1 := hz; first | exact h1 | omega), obind_some]
  rw [T66 n hn x11 (by have h1 := hz; first | exact h1 | omega), obind_some]
/- toClientS -/
theorem T21 (n : Nat) (hn : 1048577 ≤ n) (x0 : List (D104)) (hz : szL z104 x0 ≤ 1048576) : f21 n x0 = some (x0, ()) := by
  exact to_slice (L := f21L0 n) (F := fun x k => obind (f46 n (x.1) (x.2.1) (x.2.2.1) (x.2.2.2.1.1) (x.2.2.2.1.2.1) (x.2.2.2.1.2.2.1) (x.2.2.2.1.2.2.2.1) (x.2.2.2.1.2.2.2.2.1) (x.2.2.2.1.2.2.2.2.2.1) (x.2.2.2.1.2.2.2.2.2.2.1) (x.2.2.2.1.2.2.2.2.2.2.2) (x.2.2.2.2)) fun r => k (r.1, r.2.1, r.2.2.1, (r.2.2.2.1, r.2.2.2.2.1, r.2.2.2.2.2.1, r.2.2.2.2.2.2.1, r.2.2.2.2.2.2.2.1, r.2.2.2.2.2.2.2.2.1, r.2.2.2.2.2.2.2.2.2.1, r.2.2.2.2.2.2.2.2.2.2.1), r.2.2.2.2.2.2.2.2.2.2.2.1)) (b := 128) hn (by decide) (szL_len hz) (fun x hx k => by rw [T46 n hn (x.1) (x.2.1) (x.2.2.1) (x.2.2.2.1.1) (x.2.2.2.1.2.1) (x.2.2.2.1.2.2.1) (x.2.2.2.1.2.2.2.1) (x.2.2.2.1.2.2.2.2.1) (x.2.2.2.1.2.2.2.2.2.1) (x.2.2.2.1.2.2.2.2.2.2.1) (x.2.2.2.1.2.2.2.2.2.2.2) (x.2.2.2.2) (szL_le (g := z104) hx hz), obind_some]) (fun m i out => rfl)
/- toMsgS -/
theorem T22 (n : Nat) (hn : 1048577 ≤ n) (x0 : List (D101)) (hz : szL z101 x0 ≤ 1048576) : f22 n x0 = some (x0, ()) := by
  exact to_slice (L := f22L0 n) (F := fun x k => obind (f47 n (x.1) (x.2.1) (x.2.2.1) (x.2.2.2.1) (x.2.2.2.2.1) (x.2.2.2.2.2.1) (x.2.2.2.2.2.2.1) (x.2.2.2.2.2.2.2)) fun r => k (r.1, r.2.1, r.2.2.1, r.2.2.2.1, r.2.2.2.2.1, r.2.2.2.2.2.1, r.2.2.2.2.2.2.1, r.2.2.2.2.2.2.2.1)) (b := 80) hn (by decide) (szL_len hz) (fun x hx k => by rw [T47 n hn (x.1) (x.2.1) (x.2.2.1) (x.2.2.2.1) (x.2.2.2.2.1) (x.2.2.2.2.2.1) (x.2.2.2.2.2.2.1) (x.2.2.2.2.2.2.2) (szL_le (g := z101) hx hz), obind_some]) (fun m i out => rfl)
/- toAct -/
theorem T48 (n : Nat) (hn : 1048577 ≤ n) (x0 : Int) (x1 : Int) (x2 : Int) (x3 : List UInt8) (x4 : List UInt8) (x5 : Int) (hz : (List.length x3 + (List.length x4 + 0)) ≤ 1048576) : f48 n x0 x1 x2 x3 x4 x5 = some (x0, x1, x2, x3, x4, x5, ()) := by
  rfl
/- toActS -/
theorem T23 (n : Nat) (hn : 1048577 ≤ n) (x0 : List (D108)) (hz : szL z108 x0 ≤ 1048576) : f23 n x0 = some (x0, ()) := by
  exact to_slice (L := f23L0 n) (F := fun x k => obind (f48 n (x.1) (x.2.1) (x.2.2.1) (x.2.2.2.1) (x.2.2.2.2.1) (x.2.2.2.2.2)) fun r => k (r.1, r.2.1, r.2.2.1, r.2.2.2.1, r.2.2.2.2.1, r.2.2.2.2.2.1)) (b := 64) hn (by decide) (szL_len hz) (fun x hx k => by rw [T48 n hn (x.1) (x.2.1) (x.2.2.1) (x.2.2.2.1) (x.2.2.2.2.1) (x.2.2.2.2.2) (szL_le (g := z108) hx hz), obind_some]) (fun m i out => rfl)
/- toActSS -/
theorem T24 (n : Nat) (hn : 1048577 ≤ n) (x0 : List (List (D108))) (hz : szL (fun l : List (D108) => szL z108 l) x0 ≤ 1048576) : f24 n x0 = some (x0, ()) := by
  exact to_slice (L := f24L0 n) (F := fun x k => obind (f23 n x) fun r => k r.1) (b := 24) hn (by decide) (szL_len hz) (fun x hx k => by rw [T23 n hn x (szL_le (g := (fun l : List (D108) => szL z108 l)) hx hz), obind_some]) (fun m i out => rfl)
/- toWorld -/
theorem T6 (n : Nat) (hn : 1048577 ≤ n) (x0 : Int) (x1 : List (Bool)) (x2 : List (Bool)) (x3 : List (List UInt8)) (x4 : List (D66)) (x5 : List (D104)) (x6 : List (D101)) (x7 : List (D108)) (x8 : List (List (D108))) (hz : ((List.length x1 + (List.length x2 + (szL (fun s : List UInt8 => s.length) x3 + 0))) + (szL z66 x4 + (szL z104 x5 + (szL z101 x6 + (szL z108 x7 + (szL (fun l : List (D108) => szL z108 l) x8 + 0)))))) ≤ 1048576) : f6 n x0 x1 x2 x3 x4 x5 x6 x7 x8 = some (x0, x1, x2, x3, x4, x5, x6, x7, x8, ()) := by
  unfold f6
  rw [T19 n hn x0 x1 x2 x3 (by have h1 := hz; first | exact h1 | omega), obind_some]
  rw [T20 n hn x4 (by have h1 := hz; first | exact h1 | omega), obind_some]
  rw [T21 n hn x5 (by have h1 := hz; first | exact h1 | omega), obind_some]
  rw [T22 n hn x6 (by have h1 := hz; first | exact h1 | omega), obind_some]
  rw [T23 n hn x7 (by have h1 := hz; first | exact h1 | omega), obind_some]
  rw [T24 n hn x8 (by have h1 := hz; first | exact h1 | omega), obind_some]
/- eqIntS -/
theorem Q8 (n : Nat) (hn : 1048577 ≤ n) (x0 : List (Int)) (hz : List.length x0 ≤ 1048576) : f8 n x0 x0 = some (true, ()) := by
  exact eq_slice (L := f8L0 n) (E := fun x y k => if (x != y) = true then some (false, ()) else k) hn hz (fun x _ k => by simp) (fun m i => rfl)
/- eqBoolS -/
theorem Q49 (n : Nat) (hn : 1048577 ≤ n) (x0 : List (Bool)) (hz : List.length x0 ≤ 1048576) : f49 n x0 x0 = some (true, ()) := by
  exact eq_slice (L := f49L0 n) (E := fun x y k => if (!x == y) = true then some (false, ()) else k) hn hz (fun x _ k => by simp) (fun m i => rfl)
/- eqStringS -/
theorem Q50 (n : Nat) (hn : 1048577 ≤ n) (x0 : List (List UInt8)) (hz : szL (fun s : List UInt8 => s.length) x0 ≤ 1048576) : f50 n x0 x0 = some (true, ()) := by
  exact eq_slice (L := f50L0 n) (E := fun x y k => if (!x == y) = true then some (false, ()) else k) hn (szL_len hz) (fun x _ k => by simp) (fun m i => rfl)
/- eqLead -/
theorem Q25 (n : Nat) (hn : 1048577 ≤ n) (x0 : Int) (x1 : List (Bool)) (x2 : List (Bool)) (x3 : List (List UInt8)) (hz : (List.length x1 + (List.length x2 + (szL (fun s : List UInt8 => s.length) x3 + 0))) ≤ 1048576) : f25 n x0 x1 x2 x3 x0 x1 x2 x3 = some (true, ()) := by
  unfold f25
  rw [Q49 n hn x1 (by have h1 := hz; first | exact h1 | omega)]
  rw [Q49 n hn x2 (by have h1 := hz; first | exact h1 | omega)]
  rw [Q50 n hn x3 (by have h1 := hz; first | exact h1 | omega)]
  simp [obind_some]
/- eqByteS -/
theorem Q98 (n : Nat) (hn : 1048577 ≤ n) (x0 : List (UInt8)) (hz : List.length x0 ≤ 1048576) : f98 n x0 x0 = some (true, ()) := by
  exact eq_slice (L := f98L0 n) (E := fun x y k => if ((↑x.toNat : Int) != (↑y.toNat : Int)) = true then some (false, ()) else k) hn hz (fun x _ k => by simp) (fun m i => rfl)
/- eqByteSS -/
theorem Q87 (n : Nat) (hn : 1048577 ≤ n) (x0 : List (List (UInt8))) (hz : szL (fun l : List (UInt8) => l.length) x0 ≤ 1048576) : f87 n x0 x0 = some (true, ()) := by
  exact eq_slice (L := f87L0 n) (E := fun x y k => obind (f98 n x y) fun r => if (!r.1) = true then some (false, ()) else k) hn (szL_len hz) (fun x hx k => by rw [Q98 n hn x (szL_le (g := (fun l : List (UInt8) => l.length)) hx hz), obind_some]; rfl) (fun m i => rfl)
/- eqWr -/
theorem Q99 (n : Nat) (hn : 1048577 ≤ n) (x0 : Int) (x1 : List (UInt8)) (hz : (List.length x1 + 0) ≤ 1048576) : f99 n x0 x1 x0 x1 = some (true, ()) := by
  unfold f99
  rw [Q98 n hn x1 (by have h1 := hz; first | exact h1 | omega)]
  simp [obind_some]
/- eqWrS -/
theorem Q88 (n : Nat) (hn : 1048577 ≤ n) (x0 : List (D141)) (hz : szL z141 x0 ≤ 1048576) : f88 n x0 x0 = some (true, ()) := by
  exact eq_slice (L := f88L0 n) (E := fun x y k => obind (f99 n (x.1) (x.2) (y.1) (y.2)) fun r => if (!r.1) = true then some (false, ()) else k) hn (szL_len hz) (fun x hx k => by rw [Q99 n hn (x.1) (x.2) (szL_le (g := z141) hx hz), obind_some]; rfl) (fun m i => rfl)
/- eqDev -/
theorem Q76 (n : Nat) (hn : 1048577 ≤ n) (x0 : List (List (UInt8))) (x1 : List (D141)) (x2 : Int) (x3 : Bool) (hz : (szL (fun l : List (UInt8) => l.length) x0 + (szL z141 x1 + 0)) ≤ 1048576) : f76 n x0 x1 x2 x3 x0 x1 x2 x3 = some (true, ()) := by
  unfold f76
  rw [Q87 n hn x0 (by have h1 := hz; first | exact h1 | omega)]
  rw [Q88 n hn x1 (by have h1 := hz; first | exact h1 | omega)]
  simp [obind_some]
/- eqCell -/
theorem Q104 (n : Nat) (hn : 1048577 ≤ n) (x0 : Int) (x1 : List (UInt8)) (hz : (List.length x1 + 0) ≤ 1048576) : f104 n x0 x1 x0 x1 = some (true, ()) := by
  unfold f104
  rw [Q98 n hn x1 (by have h1 := hz; first | exact h1 | omega)]
  simp [obind_some]
/- eqRow -/
theorem Q100 (n : Nat) (hn : 1048577 ≤ n) (x0 : List UInt8) (x1 : Int) (x2 : List (UInt8)) (x3 : Int) (x4 : List (UInt8)) (x5 : Int) (x6 : Bool) (hz : (List.length x0 + ((List.length x2 + 0) + ((List.length x4 + 0) + 0))) ≤ 1048576) : f100 n x0 x1 x2 x3 x4 x5 x6 x0 x1 x2 x3 x4 x5 x6 = some (true, ()) := by
  unfold f100
  rw [Q104 n hn x1 x2 (by have h1 := hz; first | exact h1 | omega)]
  rw [Q104 n hn x3 x4 (by have h1 := hz; first | exact h1 | omega)]
  simp [obind_some]
/- eqRowS -/
theorem Q89 (n : Nat) (hn : 1048577 ≤ n) (x0 : List (D145)) (hz : szL z145 x0 ≤ 1048576) : f89 n x0 x0 = some (true, ()) := by
  exact eq_slice (L := f89L0 n) (E := fun x y k => obind (f100 n (x.1) (x.2.1.1) (x.2.1.2) (x.2.2.1.1) (x.2.2.1.2) (x.2.2.2.1) (x.2.2.2.2) (y.1) (y.2.1.1) (y.2.1.2) (y.2.2.1.1) (y.2.2.1.2) (y.2.2.2.1) (y.2.2.2.2)) fun r => if (!r.1) = true then some (false, ()) else k) hn (szL_len hz) (fun x hx k => by rw [Q100 n hn (x.1) (x.2.1.1) (x.2.1.2) (x.2.2.1.1) (x.2.2.1.2) (x.2.2.2.1) (x.2.2.2.2) (szL_le (g := z145) hx hz), obind_some]; rfl) (fun m i => rfl)
/- eqMark -/
theorem Q101 (n : Nat) (hn : 1048577 ≤ n) (x0 : Int) (x1 : Int) (x2 : Int) (hz : 0 ≤ 1048576) : f101 n x0 x1 x2 x0 x1 x2 = some (true, ()) := by
  unfold f101
  simp
/- eqMarkS -/
theorem Q90 (n : Nat) (hn : 1048577 ≤ n) (x0 : List (D147)) (hz : List.length x0 ≤ 1048576) : f90 n x0 x0 = some (true, ()) := by
  exact eq_slice (L := f90L0 n) (E := fun x y k => obind (f101 n (x.1) (x.2.1) (x.2.2) (y.1) (y.2.1) (y.2.2)) fun r => if (!r.1) = true then some (false, ()) else k) hn hz (fun x hx k => by rw [Q101 n hn (x.1) (x.2.1) (x.2.2) (Nat.zero_le _), obind_some]; rfl) (fun m i => rfl)
/- eqTab -/
theorem Q77 (n : Nat) (hn : 1048577 ≤ n) (x0 : List (D145)) (x1 : Int) (x2 : List (D147)) (hz : (szL z145 x0 + (List.length x2 + 0)) ≤ 1048576) : f77 n x0 x1 x2 x0 x1 x2 = some (true, ()) := by
  unfold f77
  rw [Q89 n hn x0 (by have h1 := hz; first | exact h1 | omega)]
  rw [Q90 n hn x2 (by have h1 := hz; first | exact h1 | omega)]
  simp [obind_some]
/- eqStore -/
theorem Q67 (n : Nat) (hn : 1048577 ≤ n) (x0 : List (List (UInt8))) (x1 : List (D141)) (x2 : Int) (x3 : Bool) (x4 : List (D145)) (x5 : Int) (x6 : List (D147)) (x7 : Int) (x8 : Int) (hz : ((szL (fun l : List (UInt8) => l.length) x0 + (szL z141 x1 + 0)) + ((szL z145 x4 + (List.length x6 + 0)) + 0)) ≤ 1048576) : f67 n x0 x1 x2 x3 x4 x5 x6 x7 x8 x0 x1 x2 x3 x4 x5 x6 x7 x8 = some (true, ()) := by
  unfold f67
  rw [Q76 n hn x0 x1 x2 x3 (by have h1 := hz; first | exact h1 | omega)]
  rw [Q77 n hn x4 x5 x6 (by have h1 := hz; first | exact h1 | omega)]
  simp [obind_some]
/- eqNode -/
theorem Q51 (n : Nat) (hn : 1048577 ≤ n) (x0 : List (List (UInt8))) (x1 : List (D141)) (x2 : Int) (x3 : Bool) (x4 : List (D145)) (x5 : Int) (x6 : List (D147)) (x7 : Int) (x8 : Int) (x9 : Int) (hz : (((szL (fun l : List (UInt8) => l.length) x0 + (szL z141 x1 + 0)) + ((szL z145 x4 + (List.length x6 + 0)) + 0)) + 0) ≤ 1048576) : f51 n x0 x1 x2 x3 x4 x5 x6 x7 x8 x9 x0 x1 x2 x3 x4 x5 x6 x7 x8 x9 = some (true, ()) := by
  unfold f51
  rw [Q67 n hn x0 x1 x2 x3 x4 x5 x6 x7 x8 (by have h1 := hz; first | exact h1 | omega)]
  simp [obind_some]
/- eqNodeS -/
theorem Q26 (n : Nat) (hn : 1048577 ≤ n) (x0 : List (D66)) (hz : szL z66 x0 ≤ 1048576) : f26 n x0 x0 = some (true, ()) := by
  exact eq_slice (L := f26L0 n) (E := fun x y k => obind (f51 n (x.1.1.1) (x.1.1.2.1) (x.1.1.2.2.1) (x.1.1.2.2.2) (x.1.2.1.1) (x.1.2.1.2.1) (x.1.2.1.2.2) (x.1.2.2.1) (x.1.2.2.2) (x.2) (y.1.1.1) (y.1.1.2.1) (y.1.1.2.2.1) (y.1.1.2.2.2) (y.1.2.1.1) (y.1.2.1.2.1) (y.1.2.1.2.2) (y.1.2.2.1) (y.1.2.2.2) (y.2)) fun r => if (!r.1) = true then some (false, ()) else k) hn (szL_len hz) (fun x hx k => by rw [Q51 n hn (x.1.1.1) (x.1.1.2.1) (x.1.1.2.2.1) (x.1.1.2.2.2) (x.1.2.1.1) (x.1.2.1.2.1) (x.1.2.1.2.2) (x.1.2.2.1) (x.1.2.2.2) (x.2) (szL_le (g := z66) hx hz), obind_some]; rfl) (fun m i => rfl)
/- eqMsg -/
theorem Q53 (n : Nat) (hn : 1048577 ≤ n) (x0 : Int) (x1 : Int) (x2 : Int) (x3 : Int) (x4 : List UInt8) (x5 : List UInt8) (x6 : Int) (x7 : Int) (hz : (List.length x4 + (List.length x5 + 0)) ≤ 1048576) : f53 n x0 x1 x2 x3 x4 x5 x6 x7 x0 x1 x2 x3 x4 x5 x6 x7 = some (true, ()) := by
  unfold f53
  simp
/- eqDone -/
theorem Q78 (n : Nat) (hn : 1048577 ≤ n) (x0 : Int) (x1 : Int) (x2 : List UInt8) (x3 : List UInt8) (x4 : Int) (hz : (List.length x2 + (List.length x3 + 0)) ≤ 1048576) : f78 n x0 x1 x2 x3 x4 x0 x1 x2 x3 x4 = some (true, ()) := by
  unfold f78
  simp
/- eqDoneS -/
theorem Q68 (n : Nat) (hn : 1048577 ≤ n) (x0 : List (D149)) (hz : szL z149 x0 ≤ 1048576) : f68 n x0 x0 = some (true, ()) := by
  exact eq_slice (L := f68L0 n) (E := fun x y k => obind (f78 n (x.1) (x.2.1) (x.2.2.1) (x.2.2.2.1) (x.2.2.2.2) (y.1) (y.2.1) (y.2.2.1) (y.2.2.2.1) (y.2.2.2.2)) fun r => if (!r.1) = true then some (false, ()) else k) hn (szL_len hz) (fun x hx k => by rw [Q78 n hn (x.1) (x.2.1) (x.2.2.1) (x.2.2.2.1) (x.2.2.2.2) (szL_le (g := z149) hx hz), obind_some]; rfl) (fun m i => rfl)
/- eqClient -/
theorem Q52 (n : Nat) (hn : 1048577 ≤ n) (x0 : Int) (x1 : Int) (x2 : Bool) (x3 : Int) (x4 : Int) (x5 : Int) (x6 : Int) (x7 : List UInt8) (x8 : List UInt8) (x9 : Int) (x10 : Int) (x11 : List (D149)) (hz : ((List.length x7 + (List.length x8 + 0)) + (szL z149 x11 + 0)) ≤ 1048576) : f52 n x0 x1 x2 x3 x4 x5 x6 x7 x8 x9 x10 x11 x0 x1 x2 x3 x4 x5 x6 x7 x8 x9 x10 x11 = some (true, ()) := by
  unfold f52
  rw [Q53 n hn x3 x4 x5 x6 x7 x8 x9 x10 (by have h1 := hz; first | exact h1 | omega)]
  rw [Q68 n hn x11 (by have h1 := hz; first | exact h1 | omega)]
  simp [obind_some]
/- eqClientS -/
theorem Q27 (n : Nat) (hn : 1048577 ≤ n) (x0 : List (D104)) (hz : szL z104 x0 ≤ 1048576) : f27 n x0 x0 = some (true, ()) := by
  exact eq_slice (L := f27L0 n) (E := fun x y k => obind (f52 n (x.1) (x.2.1) (x.2.2.1) (x.2.2.2.1.1) (x.2.2.2.1.2.1) (x.2.2.2.1.2.2.1) (x.2.2.2.1.2.2.2.1) (x.2.2.2.1.2.2.2.2.1) (x.2.2.2.1.2.2.2.2.2.1) (x.2.2.2.1.2.2.2.2.2.2.1) (x.2.2.2.1.2.2.2.2.2.2.2) (x.2.2.2.2) (y.1) (y.2.1) (y.2.2.1) (y.2.2.2.1.1) (y.2.2.2.1.2.1) (y.2.2.2.1.2.2.1) (y.2.2.2.1.2.2.2.1) (y.2.2.2.1.2.2.2.2.1) (y.2.2.2.1.2.2.2.2.2.1) (y.2.2.2.1.2.2.2.2.2.2.1) (y.2.2.2.1.2.2.2.2.2.2.2) (y.2.2.2.2)) fun r => if (!r.1) = true then some (false, ()) else k) hn (szL_len hz) (fun x hx k => by rw [Q52 n hn (x.1) (x.2.1) (x.2.2.1) (x.2.2.2.1.1) (x.2.2.2.1.2.1) (x.2.2.2.1.2.2.1) (x.2.2.2.1.2.2.2.1) (x.2.2.2.1.2.2.2.2.1) (x.2.2.2.1.2.2.2.2.2.1) (x.2.2.2.1.2.2.2.2.2.2.1) (x.2.2.2.1.2.2.2.2.2.2.2) (x.2.2.2.2) (szL_le (g := z104) hx hz), obind_some]; rfl) (fun m i => rfl)
/- eqMsgS -/
theorem Q28 (n : Nat) (hn : 1048577 ≤ n) (x0 : List (D101)) (hz : szL z101 x0 ≤ 1048576) : f28 n x0 x0 = some (true, ()) := by
  exact eq_slice (L := f28L0 n) (E := fun x y k => obind (f53 n (x.1) (x.2.1) (x.2.2.1) (x.2.2.2.1) (x.2.2.2.2.1) (x.2.2.2.2.2.1) (x.2.2.2.2.2.2.1) (x.2.2.2.2.2.2.2) (y.1) (y.2.1) (y.2.2.1) (y.2.2.2.1) (y.2.2.2.2.1) (y.2.2.2.2.2.1) (y.2.2.2.2.2.2.1) (y.2.2.2.2.2.2.2)) fun r => if (!r.1) = true then some (false, ()) else k) hn (szL_len hz) (fun x hx k => by rw [Q53 n hn (x.1) (x.2.1) (x.2.2.1) (x.2.2.2.1) (x.2.2.2.2.1) (x.2.2.2.2.2.1) (x.2.2.2.2.2.2.1) (x.2.2.2.2.2.2.2) (szL_le (g := z101) hx hz), obind_some]; rfl) (fun m i => rfl)
/- eqAct -/
theorem Q54 (n : Nat) (hn : 1048577 ≤ n) (x0 : Int) (x1 : Int) (x2 : Int) (x3 : List UInt8) (x4 : List UInt8) (x5 : Int) (hz : (List.length x3 + (List.length x4 + 0)) ≤ 1048576) : f54 n x0 x1 x2 x3 x4 x5 x0 x1 x2 x3 x4 x5 = some (true, ()) := by
  unfold f54
  simp
/- eqActS -/
theorem Q29 (n : Nat) (hn : 1048577 ≤ n) (x0 : List (D108)) (hz : szL z108 x0 ≤ 1048576) : f29 n x0 x0 = some (true, ()) := by
  exact eq_slice (L := f29L0 n) (E := fun x y k => obind (f54 n (x.1) (x.2.1) (x.2.2.1) (x.2.2.2.1) (x.2.2.2.2.1) (x.2.2.2.2.2) (y.1) (y.2.1) (y.2.2.1) (y.2.2.2.1) (y.2.2.2.2.1) (y.2.2.2.2.2)) fun r => if (!r.1) = true then some (false, ()) else k) hn (szL_len hz) (fun x hx k => by rw [Q54 n hn (x.1) (x.2.1) (x.2.2.1) (x.2.2.2.1) (x.2.2.2.2.1) (x.2.2.2.2.2) (szL_le (g := z108) hx hz), obind_some]; rfl) (fun m i => rfl)
/- eqActSS -/
theorem Q30 (n : Nat) (hn : 1048577 ≤ n) (x0 : List (List (D108))) (hz : szL (fun l : List (D108) => szL z108 l) x0 ≤ 1048576) : f30 n x0 x0 = some (true, ()) := by
  exact eq_slice (L := f30L0 n) (E := fun x y k => obind (f29 n x y) fun r => if (!r.1) = true then some (false, ()) else k) hn (szL_len hz) (fun x hx k => by rw [Q29 n hn x (szL_le (g := (fun l : List (D108) => szL z108 l)) hx hz), obind_some]; rfl) (fun m i => rfl)
/- eqWorld -/
theorem Q9 (n : Nat) (hn : 1048577 ≤ n) (x0 : Int) (x1 : List (Bool)) (x2 : List (Bool)) (x3 : List (List UInt8)) (x4 : List (D66)) (x5 : List (D104)) (x6 : List (D101)) (x7 : List (D108)) (x8 : List (List (D108))) (hz : ((List.length x1 + (List.length x2 + (szL (fun s : List UInt8 => s.length) x3 + 0))) + (szL z66 x4 + (szL z104 x5 + (szL z101 x6 + (szL z108 x7 + (szL (fun l : List (D108) => szL z108 l) x8 + 0)))))) ≤ 1048576) : f9 n x0 x1 x2 x3 x4 x5 x6 x7 x8 x0 x1 x2 x3 x4 x5 x6 x7 x8 = some (true, ()) := by
  unfold f9
  rw [Q25 n hn x0 x1 x2 x3 (by have h1 := hz; first | exact h1 | omega)]
  rw [Q26 n hn x4 (by have h1 := hz; first | exact h1 | omega)]
  rw [Q27 n hn x5 (by have h1 := hz; first | exact h1 | omega)]
  rw [Q28 n hn x6 (by have h1 := hz; first | exact h1 | omega)]
  rw [Q29 n hn x7 (by have h1 := hz; first | exact h1 | omega)]
  rw [Q30 n hn x8 (by have h1 := hz; first | exact h1 | omega)]
  simp [obind_some]
theorem MT (n : Nat) (hn : 1048577 ≤ n) (k : Int) (h0 : 0 ≤ k) (h1 : k ≤ 1152921504606846976) : ∃ r, f61 n k = some (r, ()) := by
  unfold f61
  by_cases hk : k ≤ 0
  · rw [if_pos (by simpa using hk)]
    exact ⟨_, rfl⟩
  · rw [if_neg (by simpa using hk)]
    exact text_loop (L := f61L0 n) (D := fun k => [UInt8.ofNat (IntKind.u8.wrap (W (48 + Int.tmod k 10))).toNat]) (A := #[109].toList) (fun _ => rfl) (by decide) (fun m k s => rfl) 61 n k _ h0 (by omega) h1 (by omega) (by simp)
/- laws.markBoolS -/
theorem K100055 (n : Nat) (hn : 1048577 ≤ n) (x0 : List Bool) (x1 : Int) (h0 : 0 ≤ x1) (hz : List.length x0 ≤ 1048576) (h1 : x1 + 16 * ((List.length x0 : Nat) : Int) ≤ 1152921504606846976) : mkR x1 (List.length x0) (f100055 n x0 x1) := by
  rw [← szL_zero x0] at h1 hz ⊢
  refine mk_slice (L := f100055L0 n) (G := fun (x2 x1 : Int) (c : Int → Option (Int × Unit)) => if inR (List.length x0) x2 = true then (c (W (x1 + 1))) else (none)) (g := (fun _ => 0)) hn (szL_len hz) h0 h1 (fun i hi x1 q0 q1 => ?_) (fun m k i => rfl)
  have hin : inR (List.length x0) (i : Int) = true := by rw [inR_nat]; simpa using hi
  have hzl : (fun _ => 0) x0[i] ≤ 1048576 := szL_le (g := (fun _ => 0)) (List.getElem_mem hi) hz
  try dsimp only at q1 hzl ⊢
  refine ⟨(x1 + 1), by omega, by omega, fun c => ?_⟩
  simp (disch := omega) only [hin, if_true, W_same]
/- laws.markStringS -/
theorem K100056 (n : Nat) (hn : 1048577 ≤ n) (x0 : List (List UInt8)) (x1 : Int) (h0 : 0 ≤ x1) (hz : szL (fun s : List UInt8 => s.length) x0 ≤ 1048576) (h1 : x1 + 16 * ((szL (fun s : List UInt8 => s.length) x0 : Nat) : Int) ≤ 1152921504606846976) : mkR x1 (szL (fun s : List UInt8 => s.length) x0) (f100056 n x0 x1) := by
  refine mk_slice (L := f100056L0 n) (G := fun (x2 x1 : Int) (c : Int → Option (Int × Unit)) => obind (f61 n x1) fun r0 => if inR (List.length x0) x2 = true then (c (W (x1 + 1))) else (none)) (g := (fun s : List UInt8 => s.length)) hn (szL_len hz) h0 h1 (fun i hi x1 q0 q1 => ?_) (fun m k i => rfl)
  have hin : inR (List.length x0) (i : Int) = true := by rw [inR_nat]; simpa using hi
  have hzl : (fun s : List UInt8 => s.length) x0[i] ≤ 1048576 := szL_le (g := (fun s : List UInt8 => s.length)) (List.getElem_mem hi) hz
  try dsimp only at q1 hzl ⊢
  obtain ⟨s0, t0⟩ := MT n hn (x1) (by omega) (by omega)
  refine ⟨(x1 + 1), by omega, by omega, fun c => ?_⟩
  simp (disch := omega) only [hin, if_true, obind_some, W_same, t0]
/- laws.markLead -/
theorem K100031 (n : Nat) (hn : 1048577 ≤ n) (x0 : Int) (x1 : List Bool) (x2 : List Bool) (x3 : List (List UInt8)) (x4 : Int) (h0 : 0 ≤ x4) (hz : (List.length x1 + (List.length x2 + (szL (fun s : List UInt8 => s.length) x3 + 0))) ≤ 1048576) (h1 : x4 + 16 * (((List.length x1 + (List.length x2 + (szL (fun s : List UInt8 => s.length) x3 + 0))) : Nat) : Int) ≤ 1152921504606846976) : mkR x4 ((List.length x1 + (List.length x2 + (szL (fun s : List UInt8 => s.length) x3 + 0)))) (f100031 n x0 x1 x2 x3 x4) := by
  unfold f100031
  obtain ⟨v0, e0, a0, b0⟩ := K100055 n hn x1 (x4) (by omega) (by omega) (by omega)
  obtain ⟨v1, e1, a1, b1⟩ := K100055 n hn x2 (v0) (by omega) (by omega) (by omega)
  obtain ⟨v2, e2, a2, b2⟩ := K100056 n hn x3 (v1) (by omega) (by omega) (by omega)
  exact ⟨v2, by simp (disch := omega) only [obind_some, e0, e1, e2], by omega, by omega⟩
/- laws.markByteS -/
theorem K100069 (n : Nat) (hn : 1048577 ≤ n) (x0 : List UInt8) (x1 : Int) (h0 : 0 ≤ x1) (hz : List.length x0 ≤ 1048576) (h1 : x1 + 16 * ((List.length x0 : Nat) : Int) ≤ 1152921504606846976) : mkR x1 (List.length x0) (f100069 n x0 x1) := by
  rw [← szL_zero x0] at h1 hz ⊢
  refine mk_slice (L := f100069L0 n) (G := fun (x2 x1 : Int) (c : Int → Option (Int × Unit)) => if inR (List.length x0) x2 = true then (c (W (x1 + 1))) else (none)) (g := (fun _ => 0)) hn (szL_len hz) h0 h1 (fun i hi x1 q0 q1 => ?_) (fun m k i => rfl)
  have hin : inR (List.length x0) (i : Int) = true := by rw [inR_nat]; simpa using hi
  have hzl : (fun _ => 0) x0[i] ≤ 1048576 := szL_le (g := (fun _ => 0)) (List.getElem_mem hi) hz
  try dsimp only at q1 hzl ⊢
  refine ⟨(x1 + 1), by omega, by omega, fun c => ?_⟩
  simp (disch := omega) only [hin, if_true, W_same]
/- laws.markByteSS -/
theorem K100057 (n : Nat) (hn : 1048577 ≤ n) (x0 : List (List UInt8)) (x1 : Int) (h0 : 0 ≤ x1) (hz : szL (fun l : List (UInt8) => l.length) x0 ≤ 1048576) (h1 : x1 + 16 * ((szL (fun l : List (UInt8) => l.length) x0 : Nat) : Int) ≤ 1152921504606846976) : mkR x1 (szL (fun l : List (UInt8) => l.length) x0) (f100057 n x0 x1) := by
  refine mk_slice (L := f100057L0 n) (G := fun (x2 x1 : Int) (c : Int → Option (Int × Unit)) => if inR (List.length x0) x2 = true then (obind (f100069 n (rd x0 x2) x1) fun r0 => c (r0.fst)) else (none)) (g := (fun l : List (UInt8) => l.length)) hn (szL_len hz) h0 h1 (fun i hi x1 q0 q1 => ?_) (fun m k i => rfl)
  have hin : inR (List.length x0) (i : Int) = true := by rw [inR_nat]; simpa using hi
  have hr : rd x0 (i : Int) = x0[i] := rd_get hi
  have hzl : (fun l : List (UInt8) => l.length) x0[i] ≤ 1048576 := szL_le (g := (fun l : List (UInt8) => l.length)) (List.getElem_mem hi) hz
  try dsimp only at q1 hzl ⊢
  obtain ⟨v0, e0, a0, b0⟩ := K100069 n hn x0[i] (x1) (by omega) (by omega) (by omega)
  refine ⟨v0, by omega, by omega, fun c => ?_⟩
  simp (disch := omega) only [hin, hr, if_true, obind_some, e0]
/- laws.markWrS -/
theorem K100058 (n : Nat) (hn : 1048577 ≤ n) (x0 : List D141) (x1 : Int) (h0 : 0 ≤ x1) (hz : szL z141 x0 ≤ 1048576) (h1 : x1 + 16 * ((szL z141 x0 : Nat) : Int) ≤ 1152921504606846976) : mkR x1 (szL z141 x0) (f100058 n x0 x1) := by
  refine mk_slice (L := f100058L0 n) (G := fun (x2 x1 : Int) (c : Int → Option (Int × Unit)) => if inR (List.length x0) x2 = true then (if inR (List.length x0) x2 = true then (obind (f100069 n ((rd x0 x2).snd) (W (x1 + 1))) fun r0 => c (r0.fst)) else (none)) else (none)) (g := z141) hn (szL_len hz) h0 h1 (fun i hi x1 q0 q1 => ?_) (fun m k i => rfl)
  have hin : inR (List.length x0) (i : Int) = true := by rw [inR_nat]; simpa using hi
  have hr : rd x0 (i : Int) = x0[i] := rd_get hi
  have hzl : z141 x0[i] ≤ 1048576 := szL_le (g := z141) (List.getElem_mem hi) hz
  have hzi : z141 x0[i] = (List.length (x0[i].2) + 0) := rfl
  try dsimp only at q1 hzl ⊢
  obtain ⟨v0, e0, a0, b0⟩ := K100069 n hn (x0[i].snd) (((x1 + 1))) (by omega) (by omega) (by omega)
  refine ⟨v0, by omega, by omega, fun c => ?_⟩
  simp (disch := omega) only [hin, hr, if_true, obind_some, W_same, e0]
/- laws.markRowS -/
theorem K100059 (n : Nat) (hn : 1048577 ≤ n) (x0 : List D145) (x1 : Int) (h0 : 0 ≤ x1) (hz : szL z145 x0 ≤ 1048576) (h1 : x1 + 16 * ((szL z145 x0 : Nat) : Int) ≤ 1152921504606846976) : mkR x1 (szL z145 x0) (f100059 n x0 x1) := by
  refine mk_slice (L := f100059L0 n) (G := fun (x2 x1 : Int) (c : Int → Option (Int × Unit)) => obind (f61 n x1) fun r0 => if inR (List.length x0) x2 = true then (if inR (List.length x0) x2 = true then (if inR (List.length x0) x2 = true then (obind (f100069 n ((rd x0 x2).snd.fst.snd) (W (W (x1 + 1) + 1))) fun r1 => if inR (List.length x0) x2 = true then (if inR (List.length x0) x2 = true then (obind (f100069 n ((rd x0 x2).snd.snd.fst.snd) (W (r1.fst + 1))) fun r2 => if inR (List.length x0) x2 = true then (if inR (List.length x0) x2 = true then (c (W (W (r2.fst + 1) + 1))) else (none)) else (none)) else (none)) else (none)) else (none)) else (none)) else (none)) (g := z145) hn (szL_len hz) h0 h1 (fun i hi x1 q0 q1 => ?_) (fun m k i => rfl)
  have hin : inR (List.length x0) (i : Int) = true := by rw [inR_nat]; simpa using hi
  have hr : rd x0 (i : Int) = x0[i] := rd_get hi
  have hzl : z145 x0[i] ≤ 1048576 := szL_le (g := z145) (List.getElem_mem hi) hz
  have hzi : z145 x0[i] = (List.length (x0[i].1) + ((List.length (x0[i].2.1.2) + 0) + ((List.length (x0[i].2.2.1.2) + 0) + 0))) := rfl
  try dsimp only at q1 hzl ⊢
  obtain ⟨s0, t0⟩ := MT n hn (x1) (by omega) (by omega)
  obtain ⟨v1, e1, a1, b1⟩ := K100069 n hn (x0[i].snd.fst.snd) ((((x1 + 1) + 1))) (by omega) (by omega) (by omega)
  obtain ⟨v2, e2, a2, b2⟩ := K100069 n hn (x0[i].snd.snd.fst.snd) (((v1 + 1))) (by omega) (by omega) (by omega)
  refine ⟨((v2 + 1) + 1), by omega, by omega, fun c => ?_⟩
  simp (disch := omega) only [hin, hr, if_true, obind_some, W_same, t0, e1, e2]
/- laws.markMarkS -/
theorem K100060 (n : Nat) (hn : 1048577 ≤ n) (x0 : List D147) (x1 : Int) (h0 : 0 ≤ x1) (hz : List.length x0 ≤ 1048576) (h1 : x1 + 16 * ((List.length x0 : Nat) : Int) ≤ 1152921504606846976) : mkR x1 (List.length x0) (f100060 n x0 x1) := by
  rw [← szL_zero x0] at h1 hz ⊢
  refine mk_slice (L := f100060L0 n) (G := fun (x2 x1 : Int) (c : Int → Option (Int × Unit)) => if inR (List.length x0) x2 = true then (if inR (List.length x0) x2 = true then (if inR (List.length x0) x2 = true then (c (W (W (W (x1 + 1) + 1) + 1))) else (none)) else (none)) else (none)) (g := (fun _ => 0)) hn (szL_len hz) h0 h1 (fun i hi x1 q0 q1 => ?_) (fun m k i => rfl)
  have hin : inR (List.length x0) (i : Int) = true := by rw [inR_nat]; simpa using hi
  have hzl : (fun _ => 0) x0[i] ≤ 1048576 := szL_le (g := (fun _ => 0)) (List.getElem_mem hi) hz
  try dsimp only at q1 hzl ⊢
  refine ⟨(((x1 + 1) + 1) + 1), by omega, by omega, fun c => ?_⟩
  simp (disch := omega) only [hin, if_true, W_same]
/- laws.markNodeS -/
theorem K100032 (n : Nat) (hn : 1048577 ≤ n) (x0 : List D66) (x1 : Int) (h0 : 0 ≤ x1) (hz : szL z66 x0 ≤ 1048576) (h1 : x1 + 16 * ((szL z66 x0 : Nat) : Int) ≤ 1152921504606846976) : mkR x1 (szL z66 x0) (f100032 n x0 x1) := by
  refine mk_slice (L := f100032L0 n) (G := fun (x2 x1 : Int) (c : Int → Option (Int × Unit)) => if inR (List.length x0) x2 = true then (obind (f100057 n ((rd x0 x2).fst.fst.fst) x1) fun r0 => if inR (List.length x0) x2 = true then (obind (f100058 n ((rd x0 x2).fst.fst.snd.fst) r0.fst) fun r1 => if inR (List.length x0) x2 = true then (if inR (List.length x0) x2 = true then (if inR (List.length x0) x2 = true then (obind (f100059 n ((rd x0 x2).fst.snd.fst.fst) (W (W (r1.fst + 1) + 1))) fun r2 => if inR (List.length x0) x2 = true then (if inR (List.length x0) x2 = true then (obind (f100060 n ((rd x0 x2).fst.snd.fst.snd.snd) (W (r2.fst + 1))) fun r3 => if inR (List.length x0) x2 = true then (if inR (List.length x0) x2 = true then (if inR (List.length x0) x2 = true then (c (W (W (W (r3.fst + 1) + 1) + 1))) else (none)) else (none)) else (none)) else (none)) else (none)) else (none)) else (none)) else (none)) else (none)) else (none)) (g := z66) hn (szL_len hz) h0 h1 (fun i hi x1 q0 q1 => ?_) (fun m k i => rfl)
  have hin : inR (List.length x0) (i : Int) = true := by rw [inR_nat]; simpa using hi
  have hr : rd x0 (i : Int) = x0[i] := rd_get hi
  have hzl : z66 x0[i] ≤ 1048576 := szL_le (g := z66) (List.getElem_mem hi) hz
  have hzi : z66 x0[i] = (((szL (fun l : List (UInt8) => l.length) (x0[i].1.1.1) + (szL z141 (x0[i].1.1.2.1) + 0)) + ((szL z145 (x0[i].1.2.1.1) + (List.length (x0[i].1.2.1.2.2) + 0)) + 0)) + 0) := rfl
  try dsimp only at q1 hzl ⊢
  obtain ⟨v0, e0, a0, b0⟩ := K100057 n hn (x0[i].fst.fst.fst) (x1) (by omega) (by omega) (by omega)
  obtain ⟨v1, e1, a1, b1⟩ := K100058 n hn (x0[i].fst.fst.snd.fst) (v0) (by omega) (by omega) (by omega)
  obtain ⟨v2, e2, a2, b2⟩ := K100059 n hn (x0[i].fst.snd.fst.fst) ((((v1 + 1) + 1))) (by omega) (by omega) (by omega)
  obtain ⟨v3, e3, a3, b3⟩ := K100060 n hn (x0[i].fst.snd.fst.snd.snd) (((v2 + 1))) (by omega) (by omega) (by omega)
  refine ⟨(((v3 + 1) + 1) + 1), by omega, by omega, fun c => ?_⟩
  simp (disch := omega) only [hin, hr, if_true, obind_some, W_same, e0, e1, e2, e3]
/- laws.markDoneS -/
theorem K100062 (n : Nat) (hn : 1048577 ≤ n) (x0 : List D149) (x1 : Int) (h0 : 0 ≤ x1) (hz : szL z149 x0 ≤ 1048576) (h1 : x1 + 16 * ((szL z149 x0 : Nat) : Int) ≤ 1152921504606846976) : mkR x1 (szL z149 x0) (f100062 n x0 x1) := by
  refine mk_slice (L := f100062L0 n) (G := fun (x2 x1 : Int) (c : Int → Option (Int × Unit)) => if inR (List.length x0) x2 = true then (if inR (List.length x0) x2 = true then (obind (f61 n (W (W (x1 + 1) + 1))) fun r0 => if inR (List.length x0) x2 = true then (obind (f61 n (W (W (W (x1 + 1) + 1) + 1))) fun r1 => if inR (List.length x0) x2 = true then (if inR (List.length x0) x2 = true then (c (W (W (W (W (W (x1 + 1) + 1) + 1) + 1) + 1))) else (none)) else (none)) else (none)) else (none)) else (none)) (g := z149) hn (szL_len hz) h0 h1 (fun i hi x1 q0 q1 => ?_) (fun m k i => rfl)
  have hin : inR (List.length x0) (i : Int) = true := by rw [inR_nat]; simpa using hi
  have hzl : z149 x0[i] ≤ 1048576 := szL_le (g := z149) (List.getElem_mem hi) hz
  have hzi : z149 x0[i] = (List.length (x0[i].2.2.1) + (List.length (x0[i].2.2.2.1) + 0)) := rfl
  try dsimp only at q1 hzl ⊢
  obtain ⟨s0, t0⟩ := MT n hn ((((x1 + 1) + 1))) (by omega) (by omega)
  obtain ⟨s1, t1⟩ := MT n hn (((((x1 + 1) + 1) + 1))) (by omega) (by omega)
  refine ⟨(((((x1 + 1) + 1) + 1) + 1) + 1), by omega, by omega, fun c => ?_⟩
  simp (disch := omega) only [hin, if_true, obind_some, W_same, t0, t1]
/- laws.markClientS -/
theorem K100033 (n : Nat) (hn : 1048577 ≤ n) (x0 : List D104) (x1 : Int) (h0 : 0 ≤ x1) (hz : szL z104 x0 ≤ 1048576) (h1 : x1 + 16 * ((szL z104 x0 : Nat) : Int) ≤ 1152921504606846976) : mkR x1 (szL z104 x0) (f100033 n x0 x1) := by
  refine mk_slice (L := f100033L0 n) (G := fun (x2 x1 : Int) (c : Int → Option (Int × Unit)) => if inR (List.length x0) x2 = true then (if inR (List.length x0) x2 = true then (if inR (List.length x0) x2 = true then (if inR (List.length x0) x2 = true then (if inR (List.length x0) x2 = true then (if inR (List.length x0) x2 = true then (if inR (List.length x0) x2 = true then (obind (f61 n (W (W (W (W (W (W (W (x1 + 1) + 1) + 1) + 1) + 1) + 1) + 1))) fun r0 => if inR (List.length x0) x2 = true then (obind (f61 n (W (W (W (W (W (W (W (W (x1 + 1) + 1) + 1) + 1) + 1) + 1) + 1) + 1))) fun r1 => if inR (List.length x0) x2 = true then (if inR (List.length x0) x2 = true then (if inR (List.length x0) x2 = true then (if inR (List.length x0) x2 = true then (obind (f100062 n ((rd x0 x2).snd.snd.snd.snd) (W (W (W (W (W (W (W (W (W (W (W (x1 + 1) + 1) + 1) + 1) + 1) + 1) + 1) + 1) + 1) + 1) + 1))) fun r2 => c (r2.fst)) else (none)) else (none)) else (none)) else (none)) else (none)) else (none)) else (none)) else (none)) else (none)) else (none)) else (none)) else (none)) (g := z104) hn (szL_len hz) h0 h1 (fun i hi x1 q0 q1 => ?_) (fun m k i => rfl)
  have hin : inR (List.length x0) (i : Int) = true := by rw [inR_nat]; simpa using hi
  have hr : rd x0 (i : Int) = x0[i] := rd_get hi
  have hzl : z104 x0[i] ≤ 1048576 := szL_le (g := z104) (List.getElem_mem hi) hz
  have hzi : z104 x0[i] = ((List.length (x0[i].2.2.2.1.2.2.2.2.1) + (List.length (x0[i].2.2.2.1.2.2.2.2.2.1) + 0)) + (szL z149 (x0[i].2.2.2.2) + 0)) := rfl
  try dsimp only at q1 hzl ⊢
  obtain ⟨s0, t0⟩ := MT n hn (((((((((x1 + 1) + 1) + 1) + 1) + 1) + 1) + 1))) (by omega) (by omega)
  obtain ⟨s1, t1⟩ := MT n hn ((((((((((x1 + 1) + 1) + 1) + 1) + 1) + 1) + 1) + 1))) (by omega) (by omega)
  obtain ⟨v2, e2, a2, b2⟩ := K100062 n hn (x0[i].snd.snd.snd.snd) (((((((((((((x1 + 1) + 1) + 1) + 1) + 1) + 1) + 1) + 1) + 1) + 1) + 1))) (by omega) (by omega) (by omega)
  refine ⟨v2, by omega, by omega, fun c => ?_⟩
  simp (disch := omega) only [hin, hr, if_true, obind_some, W_same, t0, t1, e2]
/- laws.markMsgS -/
theorem K100034 (n : Nat) (hn : 1048577 ≤ n) (x0 : List D101) (x1 : Int) (h0 : 0 ≤ x1) (hz : szL z101 x0 ≤ 1048576) (h1 : x1 + 16 * ((szL z101 x0 : Nat) : Int) ≤ 1152921504606846976) : mkR x1 (szL z101 x0) (f100034 n x0 x1) := by
  refine mk_slice (L := f100034L0 n) (G := fun (x2 x1 : Int) (c : Int → Option (Int × Unit)) => if inR (List.length x0) x2 = true then (if inR (List.length x0) x2 = true then (if inR (List.length x0) x2 = true then (if inR (List.length x0) x2 = true then (obind (f61 n (W (W (W (W (x1 + 1) + 1) + 1) + 1))) fun r0 => if inR (List.length x0) x2 = true then (obind (f61 n (W (W (W (W (W (x1 + 1) + 1) + 1) + 1) + 1))) fun r1 => if inR (List.length x0) x2 = true then (if inR (List.length x0) x2 = true then (if inR (List.length x0) x2 = true then (c (W (W (W (W (W (W (W (W (x1 + 1) + 1) + 1) + 1) + 1) + 1) + 1) + 1))) else (none)) else (none)) else (none)) else (none)) else (none)) else (none)) else (none)) else (none)) (g := z101) hn (szL_len hz) h0 h1 (fun i hi x1 q0 q1 => ?_) (fun m k i => rfl)
  have hin : inR (List.length x0) (i : Int) = true := by rw [inR_nat]; simpa using hi
  have hzl : z101 x0[i] ≤ 1048576 := szL_le (g := z101) (List.getElem_mem hi) hz
  have hzi : z101 x0[i] = (List.length (x0[i].2.2.2.2.1) + (List.length (x0[i].2.2.2.2.2.1) + 0)) := rfl
  try dsimp only at q1 hzl ⊢
  obtain ⟨s0, t0⟩ := MT n hn ((((((x1 + 1) + 1) + 1) + 1))) (by omega) (by omega)
  obtain ⟨s1, t1⟩ := MT n hn (((((((x1 + 1) + 1) + 1) + 1) + 1))) (by omega) (by omega)
  refine ⟨((((((((x1 + 1) + 1) + 1) + 1) + 1) + 1) + 1) + 1), by omega, by omega, fun c => ?_⟩
  simp (disch := omega) only [hin, if_true, obind_some, W_same, t0, t1]
/- laws.markActS -/
theorem K100035 (n : Nat) (hn : 1048577 ≤ n) (x0 : List D108) (x1 : Int) (h0 : 0 ≤ x1) (hz : szL z108 x0 ≤ 1048576) (h1 : x1 + 16 * ((szL z108 x0 : Nat) : Int) ≤ 1152921504606846976) : mkR x1 (szL z108 x0) (f100035 n x0 x1) := by
  refine mk_slice (L := f100035L0 n) (G := fun (x2 x1 : Int) (c : Int → Option (Int × Unit)) => if inR (List.length x0) x2 = true then (if inR (List.length x0) x2 = true then (if inR (List.length x0) x2 = true then (obind (f61 n (W (W (W (x1 + 1) + 1) + 1))) fun r0 => if inR (List.length x0) x2 = true then (obind (f61 n (W (W (W (W (x1 + 1) + 1) + 1) + 1))) fun r1 => if inR (List.length x0) x2 = true then (if inR (List.length x0) x2 = true then (c (W (W (W (W (W (W (x1 + 1) + 1) + 1) + 1) + 1) + 1))) else (none)) else (none)) else (none)) else (none)) else (none)) else (none)) (g := z108) hn (szL_len hz) h0 h1 (fun i hi x1 q0 q1 => ?_) (fun m k i => rfl)
  have hin : inR (List.length x0) (i : Int) = true := by rw [inR_nat]; simpa using hi
  have hzl : z108 x0[i] ≤ 1048576 := szL_le (g := z108) (List.getElem_mem hi) hz
  have hzi : z108 x0[i] = (List.length (x0[i].2.2.2.1) + (List.length (x0[i].2.2.2.2.1) + 0)) := rfl
  try dsimp only at q1 hzl ⊢
  obtain ⟨s0, t0⟩ := MT n hn (((((x1 + 1) + 1) + 1))) (by omega) (by omega)
  obtain ⟨s1, t1⟩ := MT n hn ((((((x1 + 1) + 1) + 1) + 1))) (by omega) (by omega)
  refine ⟨((((((x1 + 1) + 1) + 1) + 1) + 1) + 1), by omega, by omega, fun c => ?_⟩
  simp (disch := omega) only [hin, if_true, obind_some, W_same, t0, t1]
/- laws.markActSS -/
theorem K100036 (n : Nat) (hn : 1048577 ≤ n) (x0 : List (List D108)) (x1 : Int) (h0 : 0 ≤ x1) (hz : szL (fun l : List (D108) => szL z108 l) x0 ≤ 1048576) (h1 : x1 + 16 * ((szL (fun l : List (D108) => szL z108 l) x0 : Nat) : Int) ≤ 1152921504606846976) : mkR x1 (szL (fun l : List (D108) => szL z108 l) x0) (f100036 n x0 x1) := by
  refine mk_slice (L := f100036L0 n) (G := fun (x2 x1 : Int) (c : Int → Option (Int × Unit)) => if inR (List.length x0) x2 = true then (obind (f100035 n (rd x0 x2) x1) fun r0 => c (r0.fst)) else (none)) (g := (fun l : List (D108) => szL z108 l)) hn (szL_len hz) h0 h1 (fun i hi x1 q0 q1 => ?_) (fun m k i => rfl)
  have hin : inR (List.length x0) (i : Int) = true := by rw [inR_nat]; simpa using hi
  have hr : rd x0 (i : Int) = x0[i] := rd_get hi
  have hzl : (fun l : List (D108) => szL z108 l) x0[i] ≤ 1048576 := szL_le (g := (fun l : List (D108) => szL z108 l)) (List.getElem_mem hi) hz
  try dsimp only at q1 hzl ⊢
  obtain ⟨v0, e0, a0, b0⟩ := K100035 n hn x0[i] (x1) (by omega) (by omega) (by omega)
  refine ⟨v0, by omega, by omega, fun c => ?_⟩
  simp (disch := omega) only [hin, hr, if_true, obind_some, e0]
/- laws.markWorld -/
theorem K100010 (n : Nat) (hn : 1048577 ≤ n) (x0 : Int) (x1 : List Bool) (x2 : List Bool) (x3 : List (List UInt8)) (x4 : List D66) (x5 : List D104) (x6 : List D101) (x7 : List D108) (x8 : List (List D108)) (x9 : Int) (h0 : 0 ≤ x9) (hz : ((List.length x1 + (List.length x2 + (szL (fun s : List UInt8 => s.length) x3 + 0))) + (szL z66 x4 + (szL z104 x5 + (szL z101 x6 + (szL z108 x7 + (szL (fun l : List (D108) => szL z108 l) x8 + 0)))))) ≤ 1048576) (h1 : x9 + 16 * ((((List.length x1 + (List.length x2 + (szL (fun s : List UInt8 => s.length) x3 + 0))) + (szL z66 x4 + (szL z104 x5 + (szL z101 x6 + (szL z108 x7 + (szL (fun l : List (D108) => szL z108 l) x8 + 0)))))) : Nat) : Int) ≤ 1152921504606846976) : mkR x9 (((List.length x1 + (List.length x2 + (szL (fun s : List UInt8 => s.length) x3 + 0))) + (szL z66 x4 + (szL z104 x5 + (szL z101 x6 + (szL z108 x7 + (szL (fun l : List (D108) => szL z108 l) x8 + 0))))))) (f100010 n x0 x1 x2 x3 x4 x5 x6 x7 x8 x9) := by
  unfold f100010
  obtain ⟨v0, e0, a0, b0⟩ := K100031 n hn x0 x1 x2 x3 (x9) (by omega) (by omega) (by omega)
  obtain ⟨v1, e1, a1, b1⟩ := K100032 n hn x4 (v0) (by omega) (by omega) (by omega)
  obtain ⟨v2, e2, a2, b2⟩ := K100033 n hn x5 (v1) (by omega) (by omega) (by omega)
  obtain ⟨v3, e3, a3, b3⟩ := K100034 n hn x6 (v2) (by omega) (by omega) (by omega)
  obtain ⟨v4, e4, a4, b4⟩ := K100035 n hn x7 (v3) (by omega) (by omega) (by omega)
  obtain ⟨v5, e5, a5, b5⟩ := K100036 n hn x8 (v4) (by omega) (by omega) (by omega)
  exact ⟨v5, by simp (disch := omega) only [obind_some, e0, e1, e2, e3, e4, e5], by omega, by omega⟩
end Go.Sym

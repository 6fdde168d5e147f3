import Derived.Test.YtmogjjnghkfmnaaGreatPFnExactAsideAll0
import Derived.Test.YtmogjjnghkfmnaaGreatM2
/-! Laws of sizes, copies and comparisons. -/
namespace Go.Sym
open Go
set_option maxRecDepth 100000
set_option linter.unusedVariables false
/- szBoolS -/
theorem Z43 (n : Nat) (hn : 1048577 ≤ n) (x0 : List (Bool)) (left : Int) (h0 : 0 ≤ left) (h1 : left ≤ 1048576) (hf0 : Ty.Fit (.sl (.bool)) x0) : f43 n x0 left = szR left (List.length x0) := by
  exact szR_last h0 h1 hf0.1
/- szStringS -/
theorem Z44 (n : Nat) (hn : 1048577 ≤ n) (x0 : List (List UInt8)) (left : Int) (h0 : 0 ≤ left) (h1 : left ≤ 1048576) (hf0 : Ty.Fit (.sl (.str)) x0) : f44 n x0 left = szR left (szL (fun s : List UInt8 => s.length) x0) := by
  refine szR_slice_str (L := f44L0 n) hn h0 h1 hf0.1 (fun x hx => hf0.2 x hx) (fun m left i => rfl)
/- szLead -/
theorem Z13 (n : Nat) (hn : 1048577 ≤ n) (x0 : Int) (x1 : List (Bool)) (x2 : List (Bool)) (x3 : List (List UInt8)) (left : Int) (h0 : 0 ≤ left) (h1 : left ≤ 1048576) (hf1 : Ty.Fit (.sl (.bool)) x1) (hf2 : Ty.Fit (.sl (.bool)) x2) (hf3 : Ty.Fit (.sl (.str)) x3) : f13 n x0 x1 x2 x3 left = szR left ((List.length x1 + (List.length x2 + (szL (fun s : List UInt8 => s.length) x3 + 0)))) := by
  unfold f13
  rw [Z43 n hn x1 left h0 h1 hf1]
  refine szR_bindK h0 (fun v1 hv1a hv1b => ?_)
  dsimp only
  rw [Z43 n hn x2 v1 hv1a (Int.le_trans hv1b h1) hf2]
  refine szR_bindK hv1a (fun v2 hv2a hv2b => ?_)
  dsimp only
  rw [Z44 n hn x3 v2 hv2a (Int.le_trans hv2b (Int.le_trans hv1b h1)) hf3]
  refine szR_bindK hv2a (fun v3 hv3a hv3b => ?_)
  dsimp only
  exact szR_zero hv3a
/- szByteS -/
theorem Z114 (n : Nat) (hn : 1048577 ≤ n) (x0 : List (UInt8)) (left : Int) (h0 : 0 ≤ left) (h1 : left ≤ 1048576) (hf0 : Ty.Fit (.sl (.u8)) x0) : f114 n x0 left = szR left (List.length x0) := by
  exact szR_last h0 h1 hf0.1
/- szByteSS -/
theorem Z101 (n : Nat) (hn : 1048577 ≤ n) (x0 : List (List (UInt8))) (left : Int) (h0 : 0 ≤ left) (h1 : left ≤ 1048576) (hf0 : Ty.Fit (.sl (.sl (.u8))) x0) : f101 n x0 left = szR left (szL (fun l : List (UInt8) => l.length) x0) := by
  exact szR_slice (L := f101L0 n) (F := fun x v => f114 n x v) (g := (fun l : List (UInt8) => l.length)) hn h0 h1 hf0.1 (fun x hx v hv0 hv1 => Z114 n hn x v hv0 hv1 (hf0.2 x hx)) (fun m left i => rfl)
/- szWr -/
theorem Z115 (n : Nat) (hn : 1048577 ≤ n) (x0 : Int) (x1 : List (UInt8)) (left : Int) (h0 : 0 ≤ left) (h1 : left ≤ 1048576) (hf1 : Ty.Fit (.sl (.u8)) x1) : f115 n x0 x1 left = szR left ((List.length x1 + 0)) := by
  unfold f115
  rw [Z114 n hn x1 left h0 h1 hf1]
  refine szR_bindK h0 (fun v1 hv1a hv1b => ?_)
  dsimp only
  exact szR_zero hv1a
def z114 (x : D114) : Nat := (List.length (x.2) + 0)
/- szWrS -/
theorem Z102 (n : Nat) (hn : 1048577 ≤ n) (x0 : List (D114)) (left : Int) (h0 : 0 ≤ left) (h1 : left ≤ 1048576) (hf0 : Ty.Fit (.sl (ty114)) x0) : f102 n x0 left = szR left (szL z114 x0) := by
  exact szR_slice (L := f102L0 n) (F := fun x v => f115 n (x.1) (x.2) v) (g := z114) hn h0 h1 hf0.1 (fun x hx v hv0 hv1 => Z115 n hn (x.1) (x.2) v hv0 hv1 (hf0.2 x hx).2) (fun m left i => rfl)
/- szDev -/
theorem Z86 (n : Nat) (hn : 1048577 ≤ n) (x0 : List (List (UInt8))) (x1 : List (D114)) (x2 : Int) (x3 : Bool) (left : Int) (h0 : 0 ≤ left) (h1 : left ≤ 1048576) (hf0 : Ty.Fit (.sl (.sl (.u8))) x0) (hf1 : Ty.Fit (.sl (ty114)) x1) : f86 n x0 x1 x2 x3 left = szR left ((szL (fun l : List (UInt8) => l.length) x0 + (szL z114 x1 + 0))) := by
  unfold f86
  rw [Z101 n hn x0 left h0 h1 hf0]
  refine szR_bindK h0 (fun v1 hv1a hv1b => ?_)
  dsimp only
  rw [Z102 n hn x1 v1 hv1a (Int.le_trans hv1b h1) hf1]
  refine szR_bindK hv1a (fun v2 hv2a hv2b => ?_)
  dsimp only
  exact szR_zero hv2a
/- szCell -/
theorem Z125 (n : Nat) (hn : 1048577 ≤ n) (x0 : Int) (x1 : List (UInt8)) (left : Int) (h0 : 0 ≤ left) (h1 : left ≤ 1048576) (hf1 : Ty.Fit (.sl (.u8)) x1) : f125 n x0 x1 left = szR left ((List.length x1 + 0)) := by
  unfold f125
  rw [Z114 n hn x1 left h0 h1 hf1]
  refine szR_bindK h0 (fun v1 hv1a hv1b => ?_)
  dsimp only
  exact szR_zero hv1a
/- szRow -/
theorem Z116 (n : Nat) (hn : 1048577 ≤ n) (x0 : List UInt8) (x1 : Int) (x2 : List (UInt8)) (x3 : Int) (x4 : List (UInt8)) (x5 : Int) (x6 : Bool) (left : Int) (h0 : 0 ≤ left) (h1 : left ≤ 1048576) (hf0 : Ty.Fit (.str) x0) (hf2 : Ty.Fit (.sl (.u8)) x2) (hf4 : Ty.Fit (.sl (.u8)) x4) : f116 n x0 x1 x2 x3 x4 x5 x6 left = szR left ((List.length x0 + ((List.length x2 + 0) + ((List.length x4 + 0) + 0)))) := by
  unfold f116
  refine szR_lenK h0 h1 hf0 (fun v1 hv1 hv1a hv1b => ?_)
  rw [← hv1]
  rw [Z125 n hn x1 x2 v1 hv1a (Int.le_trans hv1b h1) hf2]
  refine szR_bindK hv1a (fun v2 hv2a hv2b => ?_)
  dsimp only
  rw [Z125 n hn x3 x4 v2 hv2a (Int.le_trans hv2b (Int.le_trans hv1b h1)) hf4]
  refine szR_bindK hv2a (fun v3 hv3a hv3b => ?_)
  dsimp only
  exact szR_zero hv3a
def z116 (x : D116) : Nat := (List.length (x.1) + ((List.length (x.2.1.2) + 0) + ((List.length (x.2.2.1.2) + 0) + 0)))
/- szRowS -/
theorem Z103 (n : Nat) (hn : 1048577 ≤ n) (x0 : List (D116)) (left : Int) (h0 : 0 ≤ left) (h1 : left ≤ 1048576) (hf0 : Ty.Fit (.sl (ty116)) x0) : f103 n x0 left = szR left (szL z116 x0) := by
  exact szR_slice (L := f103L0 n) (F := fun x v => f116 n (x.1) (x.2.1.1) (x.2.1.2) (x.2.2.1.1) (x.2.2.1.2) (x.2.2.2.1) (x.2.2.2.2) v) (g := z116) hn h0 h1 hf0.1 (fun x hx v hv0 hv1 => Z116 n hn (x.1) (x.2.1.1) (x.2.1.2) (x.2.2.1.1) (x.2.2.1.2) (x.2.2.2.1) (x.2.2.2.2) v hv0 hv1 (hf0.2 x hx).1 (hf0.2 x hx).2.1.2 (hf0.2 x hx).2.2.1.2) (fun m left i => rfl)
/- szMarkS -/
theorem Z104 (n : Nat) (hn : 1048577 ≤ n) (x0 : List (D163)) (left : Int) (h0 : 0 ≤ left) (h1 : left ≤ 1048576) (hf0 : Ty.Fit (.sl (ty163)) x0) : f104 n x0 left = szR left (List.length x0) := by
  exact szR_last h0 h1 hf0.1
/- szTab -/
theorem Z87 (n : Nat) (hn : 1048577 ≤ n) (x0 : List (D116)) (x1 : Int) (x2 : List (D163)) (left : Int) (h0 : 0 ≤ left) (h1 : left ≤ 1048576) (hf0 : Ty.Fit (.sl (ty116)) x0) (hf2 : Ty.Fit (.sl (ty163)) x2) : f87 n x0 x1 x2 left = szR left ((szL z116 x0 + (List.length x2 + 0))) := by
  unfold f87
  rw [Z103 n hn x0 left h0 h1 hf0]
  refine szR_bindK h0 (fun v1 hv1a hv1b => ?_)
  dsimp only
  rw [Z104 n hn x2 v1 hv1a (Int.le_trans hv1b h1) hf2]
  refine szR_bindK hv1a (fun v2 hv2a hv2b => ?_)
  dsimp only
  exact szR_zero hv2a
/- szStore -/
theorem Z68 (n : Nat) (hn : 1048577 ≤ n) (x0 : List (List (UInt8))) (x1 : List (D114)) (x2 : Int) (x3 : Bool) (x4 : List (D116)) (x5 : Int) (x6 : List (D163)) (x7 : Int) (x8 : Int) (left : Int) (h0 : 0 ≤ left) (h1 : left ≤ 1048576) (hf0 : Ty.Fit (.sl (.sl (.u8))) x0) (hf1 : Ty.Fit (.sl (ty114)) x1) (hf4 : Ty.Fit (.sl (ty116)) x4) (hf6 : Ty.Fit (.sl (ty163)) x6) : f68 n x0 x1 x2 x3 x4 x5 x6 x7 x8 left = szR left (((szL (fun l : List (UInt8) => l.length) x0 + (szL z114 x1 + 0)) + ((szL z116 x4 + (List.length x6 + 0)) + 0))) := by
  unfold f68
  rw [Z86 n hn x0 x1 x2 x3 left h0 h1 hf0 hf1]
  refine szR_bindK h0 (fun v1 hv1a hv1b => ?_)
  dsimp only
  rw [Z87 n hn x4 x5 x6 v1 hv1a (Int.le_trans hv1b h1) hf4 hf6]
  refine szR_bindK hv1a (fun v2 hv2a hv2b => ?_)
  dsimp only
  exact szR_zero hv2a
/- szNode -/
theorem Z45 (n : Nat) (hn : 1048577 ≤ n) (x0 : List (List (UInt8))) (x1 : List (D114)) (x2 : Int) (x3 : Bool) (x4 : List (D116)) (x5 : Int) (x6 : List (D163)) (x7 : Int) (x8 : Int) (x9 : Int) (left : Int) (h0 : 0 ≤ left) (h1 : left ≤ 1048576) (hf0 : Ty.Fit (.sl (.sl (.u8))) x0) (hf1 : Ty.Fit (.sl (ty114)) x1) (hf4 : Ty.Fit (.sl (ty116)) x4) (hf6 : Ty.Fit (.sl (ty163)) x6) : f45 n x0 x1 x2 x3 x4 x5 x6 x7 x8 x9 left = szR left ((((szL (fun l : List (UInt8) => l.length) x0 + (szL z114 x1 + 0)) + ((szL z116 x4 + (List.length x6 + 0)) + 0)) + 0)) := by
  unfold f45
  rw [Z68 n hn x0 x1 x2 x3 x4 x5 x6 x7 x8 left h0 h1 hf0 hf1 hf4 hf6]
  refine szR_bindK h0 (fun v1 hv1a hv1b => ?_)
  dsimp only
  exact szR_zero hv1a
def z66 (x : D66) : Nat := (((szL (fun l : List (UInt8) => l.length) (x.1.1.1) + (szL z114 (x.1.1.2.1) + 0)) + ((szL z116 (x.1.2.1.1) + (List.length (x.1.2.1.2.2) + 0)) + 0)) + 0)
/- szNodeS -/
theorem Z14 (n : Nat) (hn : 1048577 ≤ n) (x0 : List (D66)) (left : Int) (h0 : 0 ≤ left) (h1 : left ≤ 1048576) (hf0 : Ty.Fit (.sl (ty66)) x0) : f14 n x0 left = szR left (szL z66 x0) := by
  exact szR_slice (L := f14L0 n) (F := fun x v => f45 n (x.1.1.1) (x.1.1.2.1) (x.1.1.2.2.1) (x.1.1.2.2.2) (x.1.2.1.1) (x.1.2.1.2.1) (x.1.2.1.2.2) (x.1.2.2.1) (x.1.2.2.2) (x.2) v) (g := z66) hn h0 h1 hf0.1 (fun x hx v hv0 hv1 => Z45 n hn (x.1.1.1) (x.1.1.2.1) (x.1.1.2.2.1) (x.1.1.2.2.2) (x.1.2.1.1) (x.1.2.1.2.1) (x.1.2.1.2.2) (x.1.2.2.1) (x.1.2.2.2) (x.2) v hv0 hv1 (hf0.2 x hx).1.1.1 (hf0.2 x hx).1.1.2.1 (hf0.2 x hx).1.2.1.1 (hf0.2 x hx).1.2.1.2.2) (fun m left i => rfl)
/- szMsg -/
theorem Z47 (n : Nat) (hn : 1048577 ≤ n) (x0 : Int) (x1 : Int) (x2 : Int) (x3 : Int) (x4 : List UInt8) (x5 : List UInt8) (x6 : Int) (x7 : Int) (left : Int) (h0 : 0 ≤ left) (h1 : left ≤ 1048576) (hf4 : Ty.Fit (.str) x4) (hf5 : Ty.Fit (.str) x5) : f47 n x0 x1 x2 x3 x4 x5 x6 x7 left = szR left ((List.length x4 + (List.length x5 + 0))) := by
  unfold f47
  refine szR_lenK h0 h1 hf4 (fun v1 hv1 hv1a hv1b => ?_)
  rw [← hv1]
  refine szR_lenK hv1a (Int.le_trans hv1b h1) hf5 (fun v2 hv2 hv2a hv2b => ?_)
  rw [← hv2]
  exact szR_zero hv2a
/- szDone -/
theorem Z88 (n : Nat) (hn : 1048577 ≤ n) (x0 : Int) (x1 : Int) (x2 : List UInt8) (x3 : List UInt8) (x4 : Int) (left : Int) (h0 : 0 ≤ left) (h1 : left ≤ 1048576) (hf2 : Ty.Fit (.str) x2) (hf3 : Ty.Fit (.str) x3) : f88 n x0 x1 x2 x3 x4 left = szR left ((List.length x2 + (List.length x3 + 0))) := by
  unfold f88
  refine szR_lenK h0 h1 hf2 (fun v1 hv1 hv1a hv1b => ?_)
  rw [← hv1]
  refine szR_lenK hv1a (Int.le_trans hv1b h1) hf3 (fun v2 hv2 hv2a hv2b => ?_)
  rw [← hv2]
  exact szR_zero hv2a
def z165 (x : D165) : Nat := (List.length (x.2.2.1) + (List.length (x.2.2.2.1) + 0))
/- szDoneS -/
theorem Z69 (n : Nat) (hn : 1048577 ≤ n) (x0 : List (D165)) (left : Int) (h0 : 0 ≤ left) (h1 : left ≤ 1048576) (hf0 : Ty.Fit (.sl (ty165)) x0) : f69 n x0 left = szR left (szL z165 x0) := by
  exact szR_slice (L := f69L0 n) (F := fun x v => f88 n (x.1) (x.2.1) (x.2.2.1) (x.2.2.2.1) (x.2.2.2.2) v) (g := z165) hn h0 h1 hf0.1 (fun x hx v hv0 hv1 => Z88 n hn (x.1) (x.2.1) (x.2.2.1) (x.2.2.2.1) (x.2.2.2.2) v hv0 hv1 (hf0.2 x hx).2.2.1 (hf0.2 x hx).2.2.2.1) (fun m left i => rfl)
/- szClient -/
theorem Z46 (n : Nat) (hn : 1048577 ≤ n) (x0 : Int) (x1 : Int) (x2 : Bool) (x3 : Int) (x4 : Int) (x5 : Int) (x6 : Int) (x7 : List UInt8) (x8 : List UInt8) (x9 : Int) (x10 : Int) (x11 : List (D165)) (left : Int) (h0 : 0 ≤ left) (h1 : left ≤ 1048576) (hf7 : Ty.Fit (.str) x7) (hf8 : Ty.Fit (.str) x8) (hf11 : Ty.Fit (.sl (ty165)) x11) : f46 n x0 x1 x2 x3 x4 x5 x6 x7 x8 x9 x10 x11 left = szR left (((List.length x7 + (List.length x8 + 0)) + (szL z165 x11 + 0))) := by
  unfold f46
  rw [Z47 n hn x3 x4 x5 x6 x7 x8 x9 x10 left h0 h1 hf7 hf8]
  refine szR_bindK h0 (fun v1 hv1a hv1b => ?_)
  dsimp only
  rw [Z69 n hn x11 v1 hv1a (Int.le_trans hv1b h1) hf11]
  refine szR_bindK hv1a (fun v2 hv2a hv2b => ?_)
  dsimp only
  exact szR_zero hv2a
def z107 (x : D107) : Nat := ((List.length (x.2.2.2.1.2.2.2.2.1) + (List.length (x.2.2.2.1.2.2.2.2.2.1) + 0)) + (szL z165 (x.2.2.2.2) + 0))
/- szClientS -/
theorem Z15 (n : Nat) (hn : 1048577 ≤ n) (x0 : List (D107)) (left : Int) (h0 : 0 ≤ left) (h1 : left ≤ 1048576) (hf0 : Ty.Fit (.sl (ty107)) x0) : f15 n x0 left = szR left (szL z107 x0) := by
  exact szR_slice (L := f15L0 n) (F := fun x v => f46 n (x.1) (x.2.1) (x.2.2.1) (x.2.2.2.1.1) (x.2.2.2.1.2.1) (x.2.2.2.1.2.2.1) (x.2.2.2.1.2.2.2.1) (x.2.2.2.1.2.2.2.2.1) (x.2.2.2.1.2.2.2.2.2.1) (x.2.2.2.1.2.2.2.2.2.2.1) (x.2.2.2.1.2.2.2.2.2.2.2) (x.2.2.2.2) v) (g := z107) hn h0 h1 hf0.1 (fun x hx v hv0 hv1 => Z46 n hn (x.1) (x.2.1) (x.2.2.1) (x.2.2.2.1.1) (x.2.2.2.1.2.1) (x.2.2.2.1.2.2.1) (x.2.2.2.1.2.2.2.1) (x.2.2.2.1.2.2.2.2.1) (x.2.2.2.1.2.2.2.2.2.1) (x.2.2.2.1.2.2.2.2.2.2.1) (x.2.2.2.1.2.2.2.2.2.2.2) (x.2.2.2.2) v hv0 hv1 (hf0.2 x hx).2.2.2.1.2.2.2.2.1 (hf0.2 x hx).2.2.2.1.2.2.2.2.2.1 (hf0.2 x hx).2.2.2.2) (fun m left i => rfl)
def z104 (x : D104) : Nat := (List.length (x.2.2.2.2.1) + (List.length (x.2.2.2.2.2.1) + 0))
/- szMsgS -/
theorem Z16 (n : Nat) (hn : 1048577 ≤ n) (x0 : List (D104)) (left : Int) (h0 : 0 ≤ left) (h1 : left ≤ 1048576) (hf0 : Ty.Fit (.sl (ty104)) x0) : f16 n x0 left = szR left (szL z104 x0) := by
  exact szR_slice (L := f16L0 n) (F := fun x v => f47 n (x.1) (x.2.1) (x.2.2.1) (x.2.2.2.1) (x.2.2.2.2.1) (x.2.2.2.2.2.1) (x.2.2.2.2.2.2.1) (x.2.2.2.2.2.2.2) v) (g := z104) hn h0 h1 hf0.1 (fun x hx v hv0 hv1 => Z47 n hn (x.1) (x.2.1) (x.2.2.1) (x.2.2.2.1) (x.2.2.2.2.1) (x.2.2.2.2.2.1) (x.2.2.2.2.2.2.1) (x.2.2.2.2.2.2.2) v hv0 hv1 (hf0.2 x hx).2.2.2.2.1 (hf0.2 x hx).2.2.2.2.2.1) (fun m left i => rfl)
/- szAct -/
theorem Z48 (n : Nat) (hn : 1048577 ≤ n) (x0 : Int) (x1 : Int) (x2 : Int) (x3 : List UInt8) (x4 : List UInt8) (x5 : Int) (left : Int) (h0 : 0 ≤ left) (h1 : left ≤ 1048576) (hf3 : Ty.Fit (.str) x3) (hf4 : Ty.Fit (.str) x4) : f48 n x0 x1 x2 x3 x4 x5 left = szR left ((List.length x3 + (List.length x4 + 0))) := by
  unfold f48
  refine szR_lenK h0 h1 hf3 (fun v1 hv1 hv1a hv1b => ?_)
  rw [← hv1]
  refine szR_lenK hv1a (Int.le_trans hv1b h1) hf4 (fun v2 hv2 hv2a hv2b => ?_)
  rw [← hv2]
  exact szR_zero hv2a
def z111 (x : D111) : Nat := (List.length (x.2.2.2.1) + (List.length (x.2.2.2.2.1) + 0))
/- szActS -/
theorem Z17 (n : Nat) (hn : 1048577 ≤ n) (x0 : List (D111)) (left : Int) (h0 : 0 ≤ left) (h1 : left ≤ 1048576) (hf0 : Ty.Fit (.sl (ty111)) x0) : f17 n x0 left = szR left (szL z111 x0) := by
  exact szR_slice (L := f17L0 n) (F := fun x v => f48 n (x.1) (x.2.1) (x.2.2.1) (x.2.2.2.1) (x.2.2.2.2.1) (x.2.2.2.2.2) v) (g := z111) hn h0 h1 hf0.1 (fun x hx v hv0 hv1 => Z48 n hn (x.1) (x.2.1) (x.2.2.1) (x.2.2.2.1) (x.2.2.2.2.1) (x.2.2.2.2.2) v hv0 hv1 (hf0.2 x hx).2.2.2.1 (hf0.2 x hx).2.2.2.2.1) (fun m left i => rfl)
/- szActSS -/
theorem Z18 (n : Nat) (hn : 1048577 ≤ n) (x0 : List (List (D111))) (left : Int) (h0 : 0 ≤ left) (h1 : left ≤ 1048576) (hf0 : Ty.Fit (.sl (.sl (ty111))) x0) : f18 n x0 left = szR left (szL (fun l : List (D111) => szL z111 l) x0) := by
  exact szR_slice (L := f18L0 n) (F := fun x v => f17 n x v) (g := (fun l : List (D111) => szL z111 l)) hn h0 h1 hf0.1 (fun x hx v hv0 hv1 => Z17 n hn x v hv0 hv1 (hf0.2 x hx)) (fun m left i => rfl)
/- szWorld -/
theorem Z4 (n : Nat) (hn : 1048577 ≤ n) (x0 : Int) (x1 : List (Bool)) (x2 : List (Bool)) (x3 : List (List UInt8)) (x4 : List (D66)) (x5 : List (D107)) (x6 : List (D104)) (x7 : List (D111)) (x8 : List (List (D111))) (left : Int) (h0 : 0 ≤ left) (h1 : left ≤ 1048576) (hf1 : Ty.Fit (.sl (.bool)) x1) (hf2 : Ty.Fit (.sl (.bool)) x2) (hf3 : Ty.Fit (.sl (.str)) x3) (hf4 : Ty.Fit (.sl (ty66)) x4) (hf5 : Ty.Fit (.sl (ty107)) x5) (hf6 : Ty.Fit (.sl (ty104)) x6) (hf7 : Ty.Fit (.sl (ty111)) x7) (hf8 : Ty.Fit (.sl (.sl (ty111))) x8) : f4 n x0 x1 x2 x3 x4 x5 x6 x7 x8 left = szR left (((List.length x1 + (List.length x2 + (szL (fun s : List UInt8 => s.length) x3 + 0))) + (szL z66 x4 + (szL z107 x5 + (szL z104 x6 + (szL z111 x7 + (szL (fun l : List (D111) => szL z111 l) x8 + 0))))))) := by
  unfold f4
  rw [Z13 n hn x0 x1 x2 x3 left h0 h1 hf1 hf2 hf3]
  refine szR_bindK h0 (fun v1 hv1a hv1b => ?_)
  dsimp only
  rw [Z14 n hn x4 v1 hv1a (Int.le_trans hv1b h1) hf4]
  refine szR_bindK hv1a (fun v2 hv2a hv2b => ?_)
  dsimp only
  rw [Z15 n hn x5 v2 hv2a (Int.le_trans hv2b (Int.le_trans hv1b h1)) hf5]
  refine szR_bindK hv2a (fun v3 hv3a hv3b => ?_)
  dsimp only
  rw [Z16 n hn x6 v3 hv3a (Int.le_trans hv3b (Int.le_trans hv2b (Int.le_trans hv1b h1))) hf6]
  refine szR_bindK hv3a (fun v4 hv4a hv4b => ?_)
  dsimp only
  rw [Z17 n hn x7 v4 hv4a (Int.le_trans hv4b (Int.le_trans hv3b (Int.le_trans hv2b (Int.le_trans hv1b h1)))) hf7]
  refine szR_bindK hv4a (fun v5 hv5a hv5b => ?_)
  dsimp only
  rw [Z18 n hn x8 v5 hv5a (Int.le_trans hv5b (Int.le_trans hv4b (Int.le_trans hv3b (Int.le_trans hv2b (Int.le_trans hv1b h1))))) hf8]
  refine szR_bindK hv5a (fun v6 hv6a hv6b => ?_)
  dsimp only
  exact szR_zero hv6a
/- toBoolS -/
theorem T49 (n : Nat) (hn : 1048577 ≤ n) (x0 : List (Bool)) (hz : List.length x0 ≤ 1048576) : f49 n x0 = some (x0, ()) := by
  exact to_slice (L := f49L0 n) (F := fun x k => k x) (b := 1) hn (by decide) hz (fun _ _ _ => rfl) (fun m i out => rfl)
/- toStringS -/
theorem T50 (n : Nat) (hn : 1048577 ≤ n) (x0 : List (List UInt8)) (hz : szL (fun s : List UInt8 => s.length) x0 ≤ 1048576) : f50 n x0 = some (x0, ()) := by
  exact to_slice (L := f50L0 n) (F := fun x k => k x) (b := 16) hn (by decide) (szL_len hz) (fun _ _ _ => rfl) (fun m i out => rfl)
/- toLead -/
theorem T21 (n : Nat) (hn : 1048577 ≤ n) (x0 : Int) (x1 : List (Bool)) (x2 : List (Bool)) (x3 : List (List UInt8)) (hz : (List.length x1 + (List.length x2 + (szL (fun s : List UInt8 => s.length) x3 + 0))) ≤ 1048576) : f21 n x0 x1 x2 x3 = some (x0, x1, x2, x3, ()) := by
  unfold f21
  rw [T49 n hn x1 (by have h1 := hz; first | exact h1 | omega), obind_some]
  rw [T49 n hn x2 (by have h1 := hz; first | exact h1 | omega), obind_some]
  rw [T50 n hn x3 (by have h1 := hz; first | exact h1 | omega), obind_some]
/- toByteS -/
theorem T117 (n : Nat) (hn : 1048577 ≤ n) (x0 : List (UInt8)) (hz : List.length x0 ≤ 1048576) : f117 n x0 = some (x0, ()) := by
  exact to_slice (L := f117L0 n) (F := fun x k => k x) (b := 1) hn (by decide) hz (fun _ _ _ => rfl) (fun m i out => rfl)
/- toByteSS -/
theorem T105 (n : Nat) (hn : 1048577 ≤ n) (x0 : List (List (UInt8))) (hz : szL (fun l : List (UInt8) => l.length) x0 ≤ 1048576) : f105 n x0 = some (x0, ()) := by
  exact to_slice (L := f105L0 n) (F := fun x k => obind (f117 n x) fun r => k r.1) (b := 24) hn (by decide) (szL_len hz) (fun x hx k => by rw [T117 n hn x (szL_le (g := (fun l : List (UInt8) => l.length)) hx hz), obind_some]) (fun m i out => rfl)
/- toWr -/
theorem T118 (n : Nat) (hn : 1048577 ≤ n) (x0 : Int) (x1 : List (UInt8)) (hz : (List.length x1 + 0) ≤ 1048576) : f118 n x0 x1 = some (x0, x1, ()) := by
  unfold f118
  rw [T117 n hn x1 (by have h1 := hz; first | exact h1 | omega), obind_some]
/- toWrS -/
theorem T106 (n : Nat) (hn : 1048577 ≤ n) (x0 : List (D114)) (hz : szL z114 x0 ≤ 1048576) : f106 n x0 = some (x0, ()) := by
  exact to_slice (L := f106L0 n) (F := fun x k => obind (f118 n (x.1) (x.2)) fun r => k (r.1, r.2.1)) (b := 32) hn (by decide) (szL_len hz) (fun x hx k => by rw [T118 n hn (x.1) (x.2) (szL_le (g := z114) hx hz), obind_some]) (fun m i out => rfl)
/- toDev -/
theorem T89 (n : Nat) (hn : 1048577 ≤ n) (x0 : List (List (UInt8))) (x1 : List (D114)) (x2 : Int) (x3 : Bool) (hz : (szL (fun l : List (UInt8) => l.length) x0 + (szL z114 x1 + 0)) ≤ 1048576) : f89 n x0 x1 x2 x3 = some (x2, x3, x0, x1, ()) := by
  unfold f89
  rw [T105 n hn x0 (by have h1 := hz; first | exact h1 | omega), obind_some]
  rw [T106 n hn x1 (by have h1 := hz; first | exact h1 | omega), obind_some]
/- toCell -/
theorem T126 (n : Nat) (hn : 1048577 ≤ n) (x0 : Int) (x1 : List (UInt8)) (hz : (List.length x1 + 0) ≤ 1048576) : f126 n x0 x1 = some (x0, x1, ()) := by
  unfold f126
  rw [T117 n hn x1 (by have h1 := hz; first | exact h1 | omega), obind_some]
/- toRow -/
theorem T119 (n : Nat) (hn : 1048577 ≤ n) (x0 : List UInt8) (x1 : Int) (x2 : List (UInt8)) (x3 : Int) (x4 : List (UInt8)) (x5 : Int) (x6 : Bool) (hz : (List.length x0 + ((List.length x2 + 0) + ((List.length x4 + 0) + 0))) ≤ 1048576) : f119 n x0 x1 x2 x3 x4 x5 x6 = some (x0, x1, x3, x5, x6, x2, x4, ()) := by
  unfold f119
  rw [T126 n hn x1 x2 (by have h1 := hz; first | exact h1 | omega), obind_some]
  rw [T126 n hn x3 x4 (by have h1 := hz; first | exact h1 | omega), obind_some]
/- toRowS -/
theorem T107 (n : Nat) (hn : 1048577 ≤ n) (x0 : List (D116)) (hz : szL z116 x0 ≤ 1048576) : f107 n x0 = some (x0, ()) := by
  exact to_slice (L := f107L0 n) (F := fun x k => obind (f119 n (x.1) (x.2.1.1) (x.2.1.2) (x.2.2.1.1) (x.2.2.1.2) (x.2.2.2.1) (x.2.2.2.2)) fun r => k (r.1, (r.2.1, r.2.2.2.2.2.1), (r.2.2.1, r.2.2.2.2.2.2.1), r.2.2.2.1, r.2.2.2.2.1)) (b := 96) hn (by decide) (szL_len hz) (fun x hx k => by rw [T119 n hn (x.1) (x.2.1.1) (x.2.1.2) (x.2.2.1.1) (x.2.2.1.2) (x.2.2.2.1) (x.2.2.2.2) (szL_le (g := z116) hx hz), obind_some]) (fun m i out => rfl)
/- toMark -/
theorem T120 (n : Nat) (hn : 1048577 ≤ n) (x0 : Int) (x1 : Int) (x2 : Int) (hz : 0 ≤ 1048576) : f120 n x0 x1 x2 = some (x0, x1, x2, ()) := by
  rfl
/- toMarkS -/
theorem T108 (n : Nat) (hn : 1048577 ≤ n) (x0 : List (D163)) (hz : List.length x0 ≤ 1048576) : f108 n x0 = some (x0, ()) := by
  exact to_slice (L := f108L0 n) (F := fun x k => obind (f120 n (x.1) (x.2.1) (x.2.2)) fun r => k (r.1, r.2.1, r.2.2.1)) (b := 24) hn (by decide) hz (fun x hx k => by rw [T120 n hn (x.1) (x.2.1) (x.2.2) (Nat.zero_le _), obind_some]) (fun m i out => rfl)
/- toTab -/
theorem T90 (n : Nat) (hn : 1048577 ≤ n) (x0 : List (D116)) (x1 : Int) (x2 : List (D163)) (hz : (szL z116 x0 + (List.length x2 + 0)) ≤ 1048576) : f90 n x0 x1 x2 = some (x1, x0, x2, ()) := by
  unfold f90
  rw [T107 n hn x0 (by have h1 := hz; first | exact h1 | omega), obind_some]
  rw [T108 n hn x2 (by have h1 := hz; first | exact h1 | omega), obind_some]
/- toStore -/
theorem T70 (n : Nat) (hn : 1048577 ≤ n) (x0 : List (List (UInt8))) (x1 : List (D114)) (x2 : Int) (x3 : Bool) (x4 : List (D116)) (x5 : Int) (x6 : List (D163)) (x7 : Int) (x8 : Int) (hz : ((szL (fun l : List (UInt8) => l.length) x0 + (szL z114 x1 + 0)) + ((szL z116 x4 + (List.length x6 + 0)) + 0)) ≤ 1048576) : f70 n x0 x1 x2 x3 x4 x5 x6 x7 x8 = some (x2, x3, x5, x7, x8, x0, x1, x4, x6, ()) := by
  unfold f70
  rw [T89 n hn x0 x1 x2 x3 (by have h1 := hz; first | exact h1 | omega), obind_some]
  rw [T90 n hn x4 x5 x6 (by have h1 := hz; first | exact h1 | omega), obind_some]
/- toNode -/
theorem T51 (n : Nat) (hn : 1048577 ≤ n) (x0 : List (List (UInt8))) (x1 : List (D114)) (x2 : Int) (x3 : Bool) (x4 : List (D116)) (x5 : Int) (x6 : List (D163)) (x7 : Int) (x8 : Int) (x9 : Int) (hz : (((szL (fun l : List (UInt8) => l.length) x0 + (szL z114 x1 + 0)) + ((szL z116 x4 + (List.length x6 + 0)) + 0)) + 0) ≤ 1048576) : f51 n x0 x1 x2 x3 x4 x5 x6 x7 x8 x9 = some (x2, x3, x5, x7, x8, x9, x0, x1, x4, x6, ()) := by
  unfold f51
  rw [T70 n hn x0 x1 x2 x3 x4 x5 x6 x7 x8 (by have h1 := hz; first | exact h1 | omega), obind_some]
/- toNodeS -/
theorem T22 (n : Nat) (hn : 1048577 ≤ n) (x0 : List (D66)) (hz : szL z66 x0 ≤ 1048576) : f22 n x0 = some (x0, ()) := by
  exact to_slice (L := f22L0 n) (F := fun x k => obind (f51 n (x.1.1.1) (x.1.1.2.1) (x.1.1.2.2.1) (x.1.1.2.2.2) (x.1.2.1.1) (x.1.2.1.2.1) (x.1.2.1.2.2) (x.1.2.2.1) (x.1.2.2.2) (x.2)) fun r => k (((r.2.2.2.2.2.2.1, r.2.2.2.2.2.2.2.1, r.1, r.2.1), (r.2.2.2.2.2.2.2.2.1, r.2.2.1, r.2.2.2.2.2.2.2.2.2.1), r.2.2.2.1, r.2.2.2.2.1), r.2.2.2.2.2.1)) (b := 144) hn (by decide) (szL_len hz) (fun x hx k => by rw [T51 n hn (x.1.1.1) (x.1.1.2.1) (x.1.1.2.2.1) (x.1.1.2.2.2) (x.1.2.1.1) (x.1.2.1.2.1) (x.1.2.1.2.2) (x.1.2.2.1) (x.1.2.2.2) (x.2) (szL_le (g := z66) hx hz), obind_some]) (fun m i out => rfl)
/- toMsg -/
theorem T53 (n : Nat) (hn : 1048577 ≤ n) (x0 : Int) (x1 : Int) (x2 : Int) (x3 : Int) (x4 : List UInt8) (x5 : List UInt8) (x6 : Int) (x7 : Int) (hz : (List.length x4 + (List.length x5 + 0)) ≤ 1048576) : f53 n x0 x1 x2 x3 x4 x5 x6 x7 = some (x0, x1, x2, x3, x4, x5, x6, x7, ()) := by
  rfl
/- toDone -/
theorem T91 (n : Nat) (hn : 1048577 ≤ n) (x0 : Int) (x1 : Int) (x2 : List UInt8) (x3 : List UInt8) (x4 : Int) (hz : (List.length x2 + (List.length x3 + 0)) ≤ 1048576) : f91 n x0 x1 x2 x3 x4 = some (x0, x1, x2, x3, x4, ()) := by
  rfl
/- toDoneS -/
theorem T71 (n : Nat) (hn : 1048577 ≤ n) (x0 : List (D165)) (hz : szL z165 x0 ≤ 1048576) : f71 n x0 = some (x0, ()) := by
  exact to_slice (L := f71L0 n) (F := fun x k => obind (f91 n (x.1) (x.2.1) (x.2.2.1) (x.2.2.2.1) (x.2.2.2.2)) fun r => k (r.1, r.2.1, r.2.2.1, r.2.2.2.1, r.2.2.2.2.1)) (b := 56) hn (by decide) (szL_len hz) (fun x hx k => by rw [T91 n hn (x.1) (x.2.1) (x.2.2.1) (x.2.2.2.1) (x.2.2.2.2) (szL_le (g := z165) hx hz), obind_some]) (fun m i out => rfl)
/- toClient -/
theorem T52 (n : Nat) (hn : 1048577 ≤ n) (x0 : Int) (x1 : Int) (x2 : Bool) (x3 : Int) (x4 : Int) (x5 : Int) (x6 : Int) (x7 : List UInt8) (x8 : List UInt8) (x9 : Int) (x10 : Int) (x11 : List (D165)) (hz : ((List.length x7 + (List.length x8 + 0)) + (szL z165 x11 + 0)) ≤ 1048576) : f52 n x0 x1 x2 x3 x4 x5 x6 x7 x8 x9 x10 x11 = some (x0, x1, x2, x3, x4, x5, x6, x7, x8, x9, x10, x11, ()) := by
  unfold f52
  rw [T53 n hn x3 x4 x5 x6 x7 x8 x9 x10 (by have h1 := hz; first | exact h1 | omega), obind_some]
  rw [T71 n hn x11 (by have h1 := hz; first | exact h1 | omega), obind_some]
/- toClientS -/
theorem T23 (n : Nat) (hn : 1048577 ≤ n) (x0 : List (D107)) (hz : szL z107 x0 ≤ 1048576) : f23 n x0 = some (x0, ()) := by
  exact to_slice (L := f23L0 n) (F := fun x k => obind (f52 n (x.1) (x.2.1) (x.2.2.1) (x.2.2.2.1.1) (x.2.2.2.1.2.1) (x.2.2.2.1.2.2.1) (x.2.2.2.1.2.2.2.1) (x.2.2.2.1.2.2.2.2.1) (x.2.2.2.1.2.2.2.2.2.1) (x.2.2.2.1.2.2.2.2.2.2.1) (x.2.2.2.1.2.2.2.2.2.2.2) (x.2.2.2.2)) fun r => k (r.1, r.2.1, r.2.2.1, (r.2.2.2.1, r.2.2.2.2.1, r.2.2.2.2.2.1, r.2.2.2.2.2.2.1, r.2.2.2.2.2.2.2.1, r.2.2.2.2.2.2.2.2.1, r.2.2.2.2.2.2.2.2.2.1, r.2.2.2.2.2.2.2.2.2.2.1), r.2.2.2.2.2.2.2.2.2.2.2.1)) (b := 128) hn (by decide) (szL_len hz) (fun x hx k => by rw [T52 n hn (x.1) (x.2.1) (x.2.2.1) (x.2.2.2.1.1) (x.2.2.2.1.2.1) (x.2.2.2.1.2.2.1) (x.2.2.2.1.2.2.2.1) (x.2.2.2.1.2.2.2.2.1) (x.2.2.2.1.2.2.2.2.2.1) (x.2.2.2.1.2.2.2.2.2.2.1) (x.2.2.2.1.2.2.2.2.2.2.2) (x.2.2.2.2) (szL_le (g := z107) hx hz), obind_some]) (fun m i out => rfl)
/- toMsgS -/
theorem T24 (n : Nat) (hn : 1048577 ≤ n) (x0 : List (D104)) (hz : szL z104 x0 ≤ 1048576) : f24 n x0 = some (x0, ()) := by
  exact to_slice (L := f24L0 n) (F := fun x k => obind (f53 n (x.1) (x.2.1) (x.2.2.1) (x.2.2.2.1) (x.2.2.2.2.1) (x.2.2.2.2.2.1) (x.2.2.2.2.2.2.1) (x.2.2.2.2.2.2.2)) fun r => k (r.1, r.2.1, r.2.2.1, r.2.2.2.1, r.2.2.2.2.1, r.2.2.2.2.2.1, r.2.2.2.2.2.2.1, r.2.2.2.2.2.2.2.1)) (b := 80) hn (by decide) (szL_len hz) (fun x hx k => by rw [T53 n hn (x.1) (x.2.1) (x.2.2.1) (x.2.2.2.1) (x.2.2.2.2.1) (x.2.2.2.2.2.1) (x.2.2.2.2.2.2.1) (x.2.2.2.2.2.2.2) (szL_le (g := z104) hx hz), obind_some]) (fun m i out => rfl)
/- toAct -/
theorem T54 (n : Nat) (hn : 1048577 ≤ n) (x0 : Int) (x1 : Int) (x2 : Int) (x3 : List UInt8) (x4 : List UInt8) (x5 : Int) (hz : (List.length x3 + (List.length x4 + 0)) ≤ 1048576) : f54 n x0 x1 x2 x3 x4 x5 = some (x0, x1, x2, x3, x4, x5, ()) := by
  rfl
/- toActS -/
theorem T25 (n : Nat) (hn : 1048577 ≤ n) (x0 : List (D111)) (hz : szL z111 x0 ≤ 1048576) : f25 n x0 = some (x0, ()) := by
  exact to_slice (L := f25L0 n) (F := fun x k => obind (f54 n (x.1) (x.2.1) (x.2.2.1) (x.2.2.2.1) (x.2.2.2.2.1) (x.2.2.2.2.2)) fun r => k (r.1, r.2.1, r.2.2.1, r.2.2.2.1, r.2.2.2.2.1, r.2.2.2.2.2.1)) (b := 64) hn (by decide) (szL_len hz) (fun x hx k => by rw [T54 n hn (x.1) (x.2.1) (x.2.2.1) (x.2.2.2.1) (x.2.2.2.2.1) (x.2.2.2.2.2) (szL_le (g := z111) hx hz), obind_some]) (fun m i out => rfl)
/- toActSS -/
theorem T26 (n : Nat) (hn : 1048577 ≤ n) (x0 : List (List (D111))) (hz : szL (fun l : List (D111) => szL z111 l) x0 ≤ 1048576) : f26 n x0 = some (x0, ()) := by
  exact to_slice (L := f26L0 n) (F := fun x k => obind (f25 n x) fun r => k r.1) (b := 24) hn (by decide) (szL_len hz) (fun x hx k => by rw [T25 n hn x (szL_le (g := (fun l : List (D111) => szL z111 l)) hx hz), obind_some]) (fun m i out => rfl)
/- toWorld -/
theorem T6 (n : Nat) (hn : 1048577 ≤ n) (x0 : Int) (x1 : List (Bool)) (x2 : List (Bool)) (x3 : List (List UInt8)) (x4 : List (D66)) (x5 : List (D107)) (x6 : List (D104)) (x7 : List (D111)) (x8 : List (List (D111))) (hz : ((List.length x1 + (List.length x2 + (szL (fun s : List UInt8 => s.length) x3 + 0))) + (szL z66 x4 + (szL z107 x5 + (szL z104 x6 + (szL z111 x7 + (szL (fun l : List (D111) => szL z111 l) x8 + 0)))))) ≤ 1048576) : f6 n x0 x1 x2 x3 x4 x5 x6 x7 x8 = some (x0, x1, x2, x3, x4, x5, x6, x7, x8, ()) := by
  unfold f6
  rw [T21 n hn x0 x1 x2 x3 (by have h1 := hz; first | exact h1 | omega), obind_some]
  rw [T22 n hn x4 (by have h1 := hz; first | exact h1 | omega), obind_some]
  rw [T23 n hn x5 (by have h1 := hz; first | exact h1 | omega), obind_some]
  rw [T24 n hn x6 (by have h1 := hz; first | exact h1 | omega), obind_some]
  rw [T25 n hn x7 (by have h1 := hz; first | exact h1 | omega), obind_some]
  rw [T26 n hn x8 (by have h1 := hz; first | exact h1 | omega), obind_some]
/- eqStringS -/
theorem Q8 (n : Nat) (hn : 1048577 ≤ n) (x0 : List (List UInt8)) (hz : szL (fun s : List UInt8 => s.length) x0 ≤ 1048576) : f8 n x0 x0 = some (true, ()) := by
  exact eq_slice (L := f8L0 n) (E := fun x y k => if (!x == y) = true then some (false, ()) else k) hn (szL_len hz) (fun x _ k => by simp) (fun m i => rfl)
/- eqBoolS -/
theorem Q57 (n : Nat) (hn : 1048577 ≤ n) (x0 : List (Bool)) (hz : List.length x0 ≤ 1048576) : f57 n x0 x0 = some (true, ()) := by
  exact eq_slice (L := f57L0 n) (E := fun x y k => if (!x == y) = true then some (false, ()) else k) hn hz (fun x _ k => by simp) (fun m i => rfl)
/- eqLead -/
theorem Q30 (n : Nat) (hn : 1048577 ≤ n) (x0 : Int) (x1 : List (Bool)) (x2 : List (Bool)) (x3 : List (List UInt8)) (hz : (List.length x1 + (List.length x2 + (szL (fun s : List UInt8 => s.length) x3 + 0))) ≤ 1048576) : f30 n x0 x1 x2 x3 x0 x1 x2 x3 = some (true, ()) := by
  unfold f30
  rw [Q57 n hn x1 (by have h1 := hz; first | exact h1 | omega)]
  rw [Q57 n hn x2 (by have h1 := hz; first | exact h1 | omega)]
  rw [Q8 n hn x3 (by have h1 := hz; first | exact h1 | omega)]
  simp [obind_some]
/- eqByteS -/
theorem Q121 (n : Nat) (hn : 1048577 ≤ n) (x0 : List (UInt8)) (hz : List.length x0 ≤ 1048576) : f121 n x0 x0 = some (true, ()) := by
  exact eq_slice (L := f121L0 n) (E := fun x y k => if ((↑x.toNat : Int) != (↑y.toNat : Int)) = true then some (false, ()) else k) hn hz (fun x _ k => by simp) (fun m i => rfl)
/- eqByteSS -/
theorem Q110 (n : Nat) (hn : 1048577 ≤ n) (x0 : List (List (UInt8))) (hz : szL (fun l : List (UInt8) => l.length) x0 ≤ 1048576) : f110 n x0 x0 = some (true, ()) := by
  exact eq_slice (L := f110L0 n) (E := fun x y k => obind (f121 n x y) fun r => if (!r.1) = true then some (false, ()) else k) hn (szL_len hz) (fun x hx k => by rw [Q121 n hn x (szL_le (g := (fun l : List (UInt8) => l.length)) hx hz), obind_some]; rfl) (fun m i => rfl)
/- eqWr -/
theorem Q122 (n : Nat) (hn : 1048577 ≤ n) (x0 : Int) (x1 : List (UInt8)) (hz : (List.length x1 + 0) ≤ 1048576) : f122 n x0 x1 x0 x1 = some (true, ()) := by
  unfold f122
  rw [Q121 n hn x1 (by have h1 := hz; first | exact h1 | omega)]
  simp [obind_some]
/- eqWrS -/
theorem Q111 (n : Nat) (hn : 1048577 ≤ n) (x0 : List (D114)) (hz : szL z114 x0 ≤ 1048576) : f111 n x0 x0 = some (true, ()) := by
  exact eq_slice (L := f111L0 n) (E := fun x y k => obind (f122 n (x.1) (x.2) (y.1) (y.2)) fun r => if (!r.1) = true then some (false, ()) else k) hn (szL_len hz) (fun x hx k => by rw [Q122 n hn (x.1) (x.2) (szL_le (g := z114) hx hz), obind_some]; rfl) (fun m i => rfl)
/- eqDev -/
theorem Q98 (n : Nat) (hn : 1048577 ≤ n) (x0 : List (List (UInt8))) (x1 : List (D114)) (x2 : Int) (x3 : Bool) (hz : (szL (fun l : List (UInt8) => l.length) x0 + (szL z114 x1 + 0)) ≤ 1048576) : f98 n x0 x1 x2 x3 x0 x1 x2 x3 = some (true, ()) := by
  unfold f98
  rw [Q110 n hn x0 (by have h1 := hz; first | exact h1 | omega)]
  rw [Q111 n hn x1 (by have h1 := hz; first | exact h1 | omega)]
  simp [obind_some]
/- eqCell -/
theorem Q127 (n : Nat) (hn : 1048577 ≤ n) (x0 : Int) (x1 : List (UInt8)) (hz : (List.length x1 + 0) ≤ 1048576) : f127 n x0 x1 x0 x1 = some (true, ()) := by
  unfold f127
  rw [Q121 n hn x1 (by have h1 := hz; first | exact h1 | omega)]
  simp [obind_some]
/- eqRow -/
theorem Q123 (n : Nat) (hn : 1048577 ≤ n) (x0 : List UInt8) (x1 : Int) (x2 : List (UInt8)) (x3 : Int) (x4 : List (UInt8)) (x5 : Int) (x6 : Bool) (hz : (List.length x0 + ((List.length x2 + 0) + ((List.length x4 + 0) + 0))) ≤ 1048576) : f123 n x0 x1 x2 x3 x4 x5 x6 x0 x1 x2 x3 x4 x5 x6 = some (true, ()) := by
  unfold f123
  rw [Q127 n hn x1 x2 (by have h1 := hz; first | exact h1 | omega)]
  rw [Q127 n hn x3 x4 (by have h1 := hz; first | exact h1 | omega)]
  simp [obind_some]
/- eqRowS -/
theorem Q112 (n : Nat) (hn : 1048577 ≤ n) (x0 : List (D116)) (hz : szL z116 x0 ≤ 1048576) : f112 n x0 x0 = some (true, ()) := by
  exact eq_slice (L := f112L0 n) (E := fun x y k => obind (f123 n (x.1) (x.2.1.1) (x.2.1.2) (x.2.2.1.1) (x.2.2.1.2) (x.2.2.2.1) (x.2.2.2.2) (y.1) (y.2.1.1) (y.2.1.2) (y.2.2.1.1) (y.2.2.1.2) (y.2.2.2.1) (y.2.2.2.2)) fun r => if (!r.1) = true then some (false, ()) else k) hn (szL_len hz) (fun x hx k => by rw [Q123 n hn (x.1) (x.2.1.1) (x.2.1.2) (x.2.2.1.1) (x.2.2.1.2) (x.2.2.2.1) (x.2.2.2.2) (szL_le (g := z116) hx hz), obind_some]; rfl) (fun m i => rfl)
/- eqMark -/
theorem Q124 (n : Nat) (hn : 1048577 ≤ n) (x0 : Int) (x1 : Int) (x2 : Int) (hz : 0 ≤ 1048576) : f124 n x0 x1 x2 x0 x1 x2 = some (true, ()) := by
  unfold f124
  simp
/- eqMarkS -/
theorem Q113 (n : Nat) (hn : 1048577 ≤ n) (x0 : List (D163)) (hz : List.length x0 ≤ 1048576) : f113 n x0 x0 = some (true, ()) := by
  exact eq_slice (L := f113L0 n) (E := fun x y k => obind (f124 n (x.1) (x.2.1) (x.2.2) (y.1) (y.2.1) (y.2.2)) fun r => if (!r.1) = true then some (false, ()) else k) hn hz (fun x hx k => by rw [Q124 n hn (x.1) (x.2.1) (x.2.2) (Nat.zero_le _), obind_some]; rfl) (fun m i => rfl)
/- eqTab -/
theorem Q99 (n : Nat) (hn : 1048577 ≤ n) (x0 : List (D116)) (x1 : Int) (x2 : List (D163)) (hz : (szL z116 x0 + (List.length x2 + 0)) ≤ 1048576) : f99 n x0 x1 x2 x0 x1 x2 = some (true, ()) := by
  unfold f99
  rw [Q112 n hn x0 (by have h1 := hz; first | exact h1 | omega)]
  rw [Q113 n hn x2 (by have h1 := hz; first | exact h1 | omega)]
  simp [obind_some]
/- eqStore -/
theorem Q83 (n : Nat) (hn : 1048577 ≤ n) (x0 : List (List (UInt8))) (x1 : List (D114)) (x2 : Int) (x3 : Bool) (x4 : List (D116)) (x5 : Int) (x6 : List (D163)) (x7 : Int) (x8 : Int) (hz : ((szL (fun l : List (UInt8) => l.length) x0 + (szL z114 x1 + 0)) + ((szL z116 x4 + (List.length x6 + 0)) + 0)) ≤ 1048576) : f83 n x0 x1 x2 x3 x4 x5 x6 x7 x8 x0 x1 x2 x3 x4 x5 x6 x7 x8 = some (true, ()) := by
  unfold f83
  rw [Q98 n hn x0 x1 x2 x3 (by have h1 := hz; first | exact h1 | omega)]
  rw [Q99 n hn x4 x5 x6 (by have h1 := hz; first | exact h1 | omega)]
  simp [obind_some]
/- eqNode -/
theorem Q58 (n : Nat) (hn : 1048577 ≤ n) (x0 : List (List (UInt8))) (x1 : List (D114)) (x2 : Int) (x3 : Bool) (x4 : List (D116)) (x5 : Int) (x6 : List (D163)) (x7 : Int) (x8 : Int) (x9 : Int) (hz : (((szL (fun l : List (UInt8) => l.length) x0 + (szL z114 x1 + 0)) + ((szL z116 x4 + (List.length x6 + 0)) + 0)) + 0) ≤ 1048576) : f58 n x0 x1 x2 x3 x4 x5 x6 x7 x8 x9 x0 x1 x2 x3 x4 x5 x6 x7 x8 x9 = some (true, ()) := by
  unfold f58
  rw [Q83 n hn x0 x1 x2 x3 x4 x5 x6 x7 x8 (by have h1 := hz; first | exact h1 | omega)]
  simp [obind_some]
/- eqNodeS -/
theorem Q31 (n : Nat) (hn : 1048577 ≤ n) (x0 : List (D66)) (hz : szL z66 x0 ≤ 1048576) : f31 n x0 x0 = some (true, ()) := by
  exact eq_slice (L := f31L0 n) (E := fun x y k => obind (f58 n (x.1.1.1) (x.1.1.2.1) (x.1.1.2.2.1) (x.1.1.2.2.2) (x.1.2.1.1) (x.1.2.1.2.1) (x.1.2.1.2.2) (x.1.2.2.1) (x.1.2.2.2) (x.2) (y.1.1.1) (y.1.1.2.1) (y.1.1.2.2.1) (y.1.1.2.2.2) (y.1.2.1.1) (y.1.2.1.2.1) (y.1.2.1.2.2) (y.1.2.2.1) (y.1.2.2.2) (y.2)) fun r => if (!r.1) = true then some (false, ()) else k) hn (szL_len hz) (fun x hx k => by rw [Q58 n hn (x.1.1.1) (x.1.1.2.1) (x.1.1.2.2.1) (x.1.1.2.2.2) (x.1.2.1.1) (x.1.2.1.2.1) (x.1.2.1.2.2) (x.1.2.2.1) (x.1.2.2.2) (x.2) (szL_le (g := z66) hx hz), obind_some]; rfl) (fun m i => rfl)
/- eqMsg -/
theorem Q60 (n : Nat) (hn : 1048577 ≤ n) (x0 : Int) (x1 : Int) (x2 : Int) (x3 : Int) (x4 : List UInt8) (x5 : List UInt8) (x6 : Int) (x7 : Int) (hz : (List.length x4 + (List.length x5 + 0)) ≤ 1048576) : f60 n x0 x1 x2 x3 x4 x5 x6 x7 x0 x1 x2 x3 x4 x5 x6 x7 = some (true, ()) := by
  unfold f60
  simp
/- eqDone -/
theorem Q100 (n : Nat) (hn : 1048577 ≤ n) (x0 : Int) (x1 : Int) (x2 : List UInt8) (x3 : List UInt8) (x4 : Int) (hz : (List.length x2 + (List.length x3 + 0)) ≤ 1048576) : f100 n x0 x1 x2 x3 x4 x0 x1 x2 x3 x4 = some (true, ()) := by
  unfold f100
  simp
/- eqDoneS -/
theorem Q84 (n : Nat) (hn : 1048577 ≤ n) (x0 : List (D165)) (hz : szL z165 x0 ≤ 1048576) : f84 n x0 x0 = some (true, ()) := by
  exact eq_slice (L := f84L0 n) (E := fun x y k => obind (f100 n (x.1) (x.2.1) (x.2.2.1) (x.2.2.2.1) (x.2.2.2.2) (y.1) (y.2.1) (y.2.2.1) (y.2.2.2.1) (y.2.2.2.2)) fun r => if (!r.1) = true then some (false, ()) else k) hn (szL_len hz) (fun x hx k => by rw [Q100 n hn (x.1) (x.2.1) (x.2.2.1) (x.2.2.2.1) (x.2.2.2.2) (szL_le (g := z165) hx hz), obind_some]; rfl) (fun m i => rfl)
/- eqClient -/
theorem Q59 (n : Nat) (hn : 1048577 ≤ n) (x0 : Int) (x1 : Int) (x2 : Bool) (x3 : Int) (x4 : Int) (x5 : Int) (x6 : Int) (x7 : List UInt8) (x8 : List UInt8) (x9 : Int) (x10 : Int) (x11 : List (D165)) (hz : ((List.length x7 + (List.length x8 + 0)) + (szL z165 x11 + 0)) ≤ 1048576) : f59 n x0 x1 x2 x3 x4 x5 x6 x7 x8 x9 x10 x11 x0 x1 x2 x3 x4 x5 x6 x7 x8 x9 x10 x11 = some (true, ()) := by
  unfold f59
  rw [Q60 n hn x3 x4 x5 x6 x7 x8 x9 x10 (by have h1 := hz; first | exact h1 | omega)]
  rw [Q84 n hn x11 (by have h1 := hz; first | exact h1 | omega)]
  simp [obind_some]
/- eqClientS -/
theorem Q32 (n : Nat) (hn : 1048577 ≤ n) (x0 : List (D107)) (hz : szL z107 x0 ≤ 1048576) : f32 n x0 x0 = some (true, ()) := by
  exact eq_slice (L := f32L0 n) (E := fun x y k => obind (f59 n (x.1) (x.2.1) (x.2.2.1) (x.2.2.2.1.1) (x.2.2.2.1.2.1) (x.2.2.2.1.2.2.1) (x.2.2.2.1.2.2.2.1) (x.2.2.2.1.2.2.2.2.1) (x.2.2.2.1.2.2.2.2.2.1) (x.2.2.2.1.2.2.2.2.2.2.1) (x.2.2.2.1.2.2.2.2.2.2.2) (x.2.2.2.2) (y.1) (y.2.1) (y.2.2.1) (y.2.2.2.1.1) (y.2.2.2.1.2.1) (y.2.2.2.1.2.2.1) (y.2.2.2.1.2.2.2.1) (y.2.2.2.1.2.2.2.2.1) (y.2.2.2.1.2.2.2.2.2.1) (y.2.2.2.1.2.2.2.2.2.2.1) (y.2.2.2.1.2.2.2.2.2.2.2) (y.2.2.2.2)) fun r => if (!r.1) = true then some (false, ()) else k) hn (szL_len hz) (fun x hx k => by rw [Q59 n hn (x.1) (x.2.1) (x.2.2.1) (x.2.2.2.1.1) (x.2.2.2.1.2.1) (x.2.2.2.1.2.2.1) (x.2.2.2.1.2.2.2.1) (x.2.2.2.1.2.2.2.2.1) (x.2.2.2.1.2.2.2.2.2.1) (x.2.2.2.1.2.2.2.2.2.2.1) (x.2.2.2.1.2.2.2.2.2.2.2) (x.2.2.2.2) (szL_le (g := z107) hx hz), obind_some]; rfl) (fun m i => rfl)
/- eqMsgS -/
theorem Q33 (n : Nat) (hn : 1048577 ≤ n) (x0 : List (D104)) (hz : szL z104 x0 ≤ 1048576) : f33 n x0 x0 = some (true, ()) := by
  exact eq_slice (L := f33L0 n) (E := fun x y k => obind (f60 n (x.1) (x.2.1) (x.2.2.1) (x.2.2.2.1) (x.2.2.2.2.1) (x.2.2.2.2.2.1) (x.2.2.2.2.2.2.1) (x.2.2.2.2.2.2.2) (y.1) (y.2.1) (y.2.2.1) (y.2.2.2.1) (y.2.2.2.2.1) (y.2.2.2.2.2.1) (y.2.2.2.2.2.2.1) (y.2.2.2.2.2.2.2)) fun r => if (!r.1) = true then some (false, ()) else k) hn (szL_len hz) (fun x hx k => by rw [Q60 n hn (x.1) (x.2.1) (x.2.2.1) (x.2.2.2.1) (x.2.2.2.2.1) (x.2.2.2.2.2.1) (x.2.2.2.2.2.2.1) (x.2.2.2.2.2.2.2) (szL_le (g := z104) hx hz), obind_some]; rfl) (fun m i => rfl)
/- eqAct -/
theorem Q61 (n : Nat) (hn : 1048577 ≤ n) (x0 : Int) (x1 : Int) (x2 : Int) (x3 : List UInt8) (x4 : List UInt8) (x5 : Int) (hz : (List.length x3 + (List.length x4 + 0)) ≤ 1048576) : f61 n x0 x1 x2 x3 x4 x5 x0 x1 x2 x3 x4 x5 = some (true, ()) := by
  unfold f61
  simp
/- eqActS -/
theorem Q34 (n : Nat) (hn : 1048577 ≤ n) (x0 : List (D111)) (hz : szL z111 x0 ≤ 1048576) : f34 n x0 x0 = some (true, ()) := by
  exact eq_slice (L := f34L0 n) (E := fun x y k => obind (f61 n (x.1) (x.2.1) (x.2.2.1) (x.2.2.2.1) (x.2.2.2.2.1) (x.2.2.2.2.2) (y.1) (y.2.1) (y.2.2.1) (y.2.2.2.1) (y.2.2.2.2.1) (y.2.2.2.2.2)) fun r => if (!r.1) = true then some (false, ()) else k) hn (szL_len hz) (fun x hx k => by rw [Q61 n hn (x.1) (x.2.1) (x.2.2.1) (x.2.2.2.1) (x.2.2.2.2.1) (x.2.2.2.2.2) (szL_le (g := z111) hx hz), obind_some]; rfl) (fun m i => rfl)
/- eqActSS -/
theorem Q35 (n : Nat) (hn : 1048577 ≤ n) (x0 : List (List (D111))) (hz : szL (fun l : List (D111) => szL z111 l) x0 ≤ 1048576) : f35 n x0 x0 = some (true, ()) := by
  exact eq_slice (L := f35L0 n) (E := fun x y k => obind (f34 n x y) fun r => if (!r.1) = true then some (false, ()) else k) hn (szL_len hz) (fun x hx k => by rw [Q34 n hn x (szL_le (g := (fun l : List (D111) => szL z111 l)) hx hz), obind_some]; rfl) (fun m i => rfl)
/- eqWorld -/
theorem Q9 (n : Nat) (hn : 1048577 ≤ n) (x0 : Int) (x1 : List (Bool)) (x2 : List (Bool)) (x3 : List (List UInt8)) (x4 : List (D66)) (x5 : List (D107)) (x6 : List (D104)) (x7 : List (D111)) (x8 : List (List (D111))) (hz : ((List.length x1 + (List.length x2 + (szL (fun s : List UInt8 => s.length) x3 + 0))) + (szL z66 x4 + (szL z107 x5 + (szL z104 x6 + (szL z111 x7 + (szL (fun l : List (D111) => szL z111 l) x8 + 0)))))) ≤ 1048576) : f9 n x0 x1 x2 x3 x4 x5 x6 x7 x8 x0 x1 x2 x3 x4 x5 x6 x7 x8 = some (true, ()) := by
  unfold f9
  rw [Q30 n hn x0 x1 x2 x3 (by have h1 := hz; first | exact h1 | omega)]
  rw [Q31 n hn x4 (by have h1 := hz; first | exact h1 | omega)]
  rw [Q32 n hn x5 (by have h1 := hz; first | exact h1 | omega)]
  rw [Q33 n hn x6 (by have h1 := hz; first | exact h1 | omega)]
  rw [Q34 n hn x7 (by have h1 := hz; first | exact h1 | omega)]
  rw [Q35 n hn x8 (by have h1 := hz; first | exact h1 | omega)]
  simp [obind_some]
theorem MT (n : Nat) (hn : 1048577 ≤ n) (k : Int) (h0 : 0 ≤ k) (h1 : k ≤ 1152921504606846976) : ∃ r, f42 n k = some (r, ()) := by
  unfold f42
  by_cases hk : k ≤ 0
  · rw [if_pos (by simpa using hk)]
    exact ⟨_, rfl⟩
  · rw [if_neg (by simpa using hk)]
    exact text_loop (L := f42L0 n) (D := fun k => [UInt8.ofNat (IntKind.u8.wrap (W (48 + Int.tmod k 10))).toNat]) (A := #[109].toList) (fun _ => rfl) (by decide) (fun m k s => rfl) 61 n k _ h0 (by omega) h1 (by omega) (by simp)
/- laws.markStringS -/
theorem K100011 (n : Nat) (hn : 1048577 ≤ n) (x0 : List (List UInt8)) (x1 : Int) (h0 : 0 ≤ x1) (hz : szL (fun s : List UInt8 => s.length) x0 ≤ 1048576) (h1 : x1 + 16 * ((szL (fun s : List UInt8 => s.length) x0 : Nat) : Int) ≤ 1152921504606846976) : mkR x1 (szL (fun s : List UInt8 => s.length) x0) (f100011 n x0 x1) := by
  refine mk_slice (L := f100011L0 n) (G := fun (x2 x1 : Int) (c : Int → Option (Int × Unit)) => obind (f42 n x1) fun r0 => if inR (List.length x0) x2 = true then (c (W (x1 + 1))) else (none)) (g := (fun s : List UInt8 => s.length)) hn (szL_len hz) h0 h1 (fun i hi x1 q0 q1 => ?_) (fun m k i => rfl)
  have hin : inR (List.length x0) (i : Int) = true := by rw [inR_nat]; simpa using hi
  have hzl : (fun s : List UInt8 => s.length) x0[i] ≤ 1048576 := szL_le (g := (fun s : List UInt8 => s.length)) (List.getElem_mem hi) hz
  try dsimp only at q1 hzl ⊢
  obtain ⟨s0, t0⟩ := MT n hn (x1) (by omega) (by omega)
  refine ⟨(x1 + 1), by omega, by omega, fun c => ?_⟩
  simp (disch := omega) only [hin, if_true, obind_some, W_same, t0]
/- laws.markBoolS -/
theorem K100062 (n : Nat) (hn : 1048577 ≤ n) (x0 : List Bool) (x1 : Int) (h0 : 0 ≤ x1) (hz : List.length x0 ≤ 1048576) (h1 : x1 + 16 * ((List.length x0 : Nat) : Int) ≤ 1152921504606846976) : mkR x1 (List.length x0) (f100062 n x0 x1) := by
  rw [← szL_zero x0] at h1 hz ⊢
  refine mk_slice (L := f100062L0 n) (G := fun (x2 x1 : Int) (c : Int → Option (Int × Unit)) => if inR (List.length x0) x2 = true then (c (W (x1 + 1))) else (none)) (g := (fun _ => 0)) hn (szL_len hz) h0 h1 (fun i hi x1 q0 q1 => ?_) (fun m k i => rfl)
  have hin : inR (List.length x0) (i : Int) = true := by rw [inR_nat]; simpa using hi
  have hzl : (fun _ => 0) x0[i] ≤ 1048576 := szL_le (g := (fun _ => 0)) (List.getElem_mem hi) hz
  try dsimp only at q1 hzl ⊢
  refine ⟨(x1 + 1), by omega, by omega, fun c => ?_⟩
  simp (disch := omega) only [hin, if_true, W_same]
/- laws.markLead -/
theorem K100036 (n : Nat) (hn : 1048577 ≤ n) (x0 : Int) (x1 : List Bool) (x2 : List Bool) (x3 : List (List UInt8)) (x4 : Int) (h0 : 0 ≤ x4) (hz : (List.length x1 + (List.length x2 + (szL (fun s : List UInt8 => s.length) x3 + 0))) ≤ 1048576) (h1 : x4 + 16 * (((List.length x1 + (List.length x2 + (szL (fun s : List UInt8 => s.length) x3 + 0))) : Nat) : Int) ≤ 1152921504606846976) : mkR x4 ((List.length x1 + (List.length x2 + (szL (fun s : List UInt8 => s.length) x3 + 0)))) (f100036 n x0 x1 x2 x3 x4) := by
  unfold f100036
  obtain ⟨v0, e0, a0, b0⟩ := K100062 n hn x1 (x4) (by omega) (by omega) (by omega)
  obtain ⟨v1, e1, a1, b1⟩ := K100062 n hn x2 (v0) (by omega) (by omega) (by omega)
  obtain ⟨v2, e2, a2, b2⟩ := K100011 n hn x3 (v1) (by omega) (by omega) (by omega)
  exact ⟨v2, by simp (disch := omega) only [obind_some, e0, e1, e2], by omega, by omega⟩
/- laws.markByteS -/
theorem K100085 (n : Nat) (hn : 1048577 ≤ n) (x0 : List UInt8) (x1 : Int) (h0 : 0 ≤ x1) (hz : List.length x0 ≤ 1048576) (h1 : x1 + 16 * ((List.length x0 : Nat) : Int) ≤ 1152921504606846976) : mkR x1 (List.length x0) (f100085 n x0 x1) := by
  rw [← szL_zero x0] at h1 hz ⊢
  refine mk_slice (L := f100085L0 n) (G := fun (x2 x1 : Int) (c : Int → Option (Int × Unit)) => if inR (List.length x0) x2 = true then (c (W (x1 + 1))) else (none)) (g := (fun _ => 0)) hn (szL_len hz) h0 h1 (fun i hi x1 q0 q1 => ?_) (fun m k i => rfl)
  have hin : inR (List.length x0) (i : Int) = true := by rw [inR_nat]; simpa using hi
  have hzl : (fun _ => 0) x0[i] ≤ 1048576 := szL_le (g := (fun _ => 0)) (List.getElem_mem hi) hz
  try dsimp only at q1 hzl ⊢
  refine ⟨(x1 + 1), by omega, by omega, fun c => ?_⟩
  simp (disch := omega) only [hin, if_true, W_same]
/- laws.markByteSS -/
theorem K100063 (n : Nat) (hn : 1048577 ≤ n) (x0 : List (List UInt8)) (x1 : Int) (h0 : 0 ≤ x1) (hz : szL (fun l : List (UInt8) => l.length) x0 ≤ 1048576) (h1 : x1 + 16 * ((szL (fun l : List (UInt8) => l.length) x0 : Nat) : Int) ≤ 1152921504606846976) : mkR x1 (szL (fun l : List (UInt8) => l.length) x0) (f100063 n x0 x1) := by
  refine mk_slice (L := f100063L0 n) (G := fun (x2 x1 : Int) (c : Int → Option (Int × Unit)) => if inR (List.length x0) x2 = true then (obind (f100085 n (rd x0 x2) x1) fun r0 => c (r0.fst)) else (none)) (g := (fun l : List (UInt8) => l.length)) hn (szL_len hz) h0 h1 (fun i hi x1 q0 q1 => ?_) (fun m k i => rfl)
  have hin : inR (List.length x0) (i : Int) = true := by rw [inR_nat]; simpa using hi
  have hr : rd x0 (i : Int) = x0[i] := rd_get hi
  have hzl : (fun l : List (UInt8) => l.length) x0[i] ≤ 1048576 := szL_le (g := (fun l : List (UInt8) => l.length)) (List.getElem_mem hi) hz
  try dsimp only at q1 hzl ⊢
  obtain ⟨v0, e0, a0, b0⟩ := K100085 n hn x0[i] (x1) (by omega) (by omega) (by omega)
  refine ⟨v0, by omega, by omega, fun c => ?_⟩
  simp (disch := omega) only [hin, hr, if_true, obind_some, e0]
/- laws.markWrS -/
theorem K100064 (n : Nat) (hn : 1048577 ≤ n) (x0 : List D114) (x1 : Int) (h0 : 0 ≤ x1) (hz : szL z114 x0 ≤ 1048576) (h1 : x1 + 16 * ((szL z114 x0 : Nat) : Int) ≤ 1152921504606846976) : mkR x1 (szL z114 x0) (f100064 n x0 x1) := by
  refine mk_slice (L := f100064L0 n) (G := fun (x2 x1 : Int) (c : Int → Option (Int × Unit)) => if inR (List.length x0) x2 = true then (if inR (List.length x0) x2 = true then (obind (f100085 n ((rd x0 x2).snd) (W (x1 + 1))) fun r0 => c (r0.fst)) else (none)) else (none)) (g := z114) hn (szL_len hz) h0 h1 (fun i hi x1 q0 q1 => ?_) (fun m k i => rfl)
  have hin : inR (List.length x0) (i : Int) = true := by rw [inR_nat]; simpa using hi
  have hr : rd x0 (i : Int) = x0[i] := rd_get hi
  have hzl : z114 x0[i] ≤ 1048576 := szL_le (g := z114) (List.getElem_mem hi) hz
  have hzi : z114 x0[i] = (List.length (x0[i].2) + 0) := rfl
  try dsimp only at q1 hzl ⊢
  obtain ⟨v0, e0, a0, b0⟩ := K100085 n hn (x0[i].snd) (((x1 + 1))) (by omega) (by omega) (by omega)
  refine ⟨v0, by omega, by omega, fun c => ?_⟩
  simp (disch := omega) only [hin, hr, if_true, obind_some, W_same, e0]
/- laws.markRowS -/
theorem K100065 (n : Nat) (hn : 1048577 ≤ n) (x0 : List D116) (x1 : Int) (h0 : 0 ≤ x1) (hz : szL z116 x0 ≤ 1048576) (h1 : x1 + 16 * ((szL z116 x0 : Nat) : Int) ≤ 1152921504606846976) : mkR x1 (szL z116 x0) (f100065 n x0 x1) := by
  refine mk_slice (L := f100065L0 n) (G := fun (x2 x1 : Int) (c : Int → Option (Int × Unit)) => obind (f42 n x1) fun r0 => if inR (List.length x0) x2 = true then (if inR (List.length x0) x2 = true then (if inR (List.length x0) x2 = true then (obind (f100085 n ((rd x0 x2).snd.fst.snd) (W (W (x1 + 1) + 1))) fun r1 => if inR (List.length x0) x2 = true then (if inR (List.length x0) x2 = true then (obind (f100085 n ((rd x0 x2).snd.snd.fst.snd) (W (r1.fst + 1))) fun r2 => if inR (List.length x0) x2 = true then (if inR (List.length x0) x2 = true then (c (W (W (r2.fst + 1) + 1))) else (none)) else (none)) else (none)) else (none)) else (none)) else (none)) else (none)) (g := z116) hn (szL_len hz) h0 h1 (fun i hi x1 q0 q1 => ?_) (fun m k i => rfl)
  have hin : inR (List.length x0) (i : Int) = true := by rw [inR_nat]; simpa using hi
  have hr : rd x0 (i : Int) = x0[i] := rd_get hi
  have hzl : z116 x0[i] ≤ 1048576 := szL_le (g := z116) (List.getElem_mem hi) hz
  have hzi : z116 x0[i] = (List.length (x0[i].1) + ((List.length (x0[i].2.1.2) + 0) + ((List.length (x0[i].2.2.1.2) + 0) + 0))) := rfl
  try dsimp only at q1 hzl ⊢
  obtain ⟨s0, t0⟩ := MT n hn (x1) (by omega) (by omega)
  obtain ⟨v1, e1, a1, b1⟩ := K100085 n hn (x0[i].snd.fst.snd) ((((x1 + 1) + 1))) (by omega) (by omega) (by omega)
  obtain ⟨v2, e2, a2, b2⟩ := K100085 n hn (x0[i].snd.snd.fst.snd) (((v1 + 1))) (by omega) (by omega) (by omega)
  refine ⟨((v2 + 1) + 1), by omega, by omega, fun c => ?_⟩
  simp (disch := omega) only [hin, hr, if_true, obind_some, W_same, t0, e1, e2]
/- laws.markMarkS -/
theorem K100066 (n : Nat) (hn : 1048577 ≤ n) (x0 : List D163) (x1 : Int) (h0 : 0 ≤ x1) (hz : List.length x0 ≤ 1048576) (h1 : x1 + 16 * ((List.length x0 : Nat) : Int) ≤ 1152921504606846976) : mkR x1 (List.length x0) (f100066 n x0 x1) := by
  rw [← szL_zero x0] at h1 hz ⊢
  refine mk_slice (L := f100066L0 n) (G := fun (x2 x1 : Int) (c : Int → Option (Int × Unit)) => if inR (List.length x0) x2 = true then (if inR (List.length x0) x2 = true then (if inR (List.length x0) x2 = true then (c (W (W (W (x1 + 1) + 1) + 1))) else (none)) else (none)) else (none)) (g := (fun _ => 0)) hn (szL_len hz) h0 h1 (fun i hi x1 q0 q1 => ?_) (fun m k i => rfl)
  have hin : inR (List.length x0) (i : Int) = true := by rw [inR_nat]; simpa using hi
  have hzl : (fun _ => 0) x0[i] ≤ 1048576 := szL_le (g := (fun _ => 0)) (List.getElem_mem hi) hz
  try dsimp only at q1 hzl ⊢
  refine ⟨(((x1 + 1) + 1) + 1), by omega, by omega, fun c => ?_⟩
  simp (disch := omega) only [hin, if_true, W_same]
/- laws.markNodeS -/
theorem K100037 (n : Nat) (hn : 1048577 ≤ n) (x0 : List D66) (x1 : Int) (h0 : 0 ≤ x1) (hz : szL z66 x0 ≤ 1048576) (h1 : x1 + 16 * ((szL z66 x0 : Nat) : Int) ≤ 1152921504606846976) : mkR x1 (szL z66 x0) (f100037 n x0 x1) := by
  refine mk_slice (L := f100037L0 n) (G := fun (x2 x1 : Int) (c : Int → Option (Int × Unit)) => if inR (List.length x0) x2 = true then (obind (f100063 n ((rd x0 x2).fst.fst.fst) x1) fun r0 => if inR (List.length x0) x2 = true then (obind (f100064 n ((rd x0 x2).fst.fst.snd.fst) r0.fst) fun r1 => if inR (List.length x0) x2 = true then (if inR (List.length x0) x2 = true then (if inR (List.length x0) x2 = true then (obind (f100065 n ((rd x0 x2).fst.snd.fst.fst) (W (W (r1.fst + 1) + 1))) fun r2 => if inR (List.length x0) x2 = true then (if inR (List.length x0) x2 = true then (obind (f100066 n ((rd x0 x2).fst.snd.fst.snd.snd) (W (r2.fst + 1))) fun r3 => if inR (List.length x0) x2 = true then (if inR (List.length x0) x2 = true then (if inR (List.length x0) x2 = true then (c (W (W (W (r3.fst + 1) + 1) + 1))) else (none)) else (none)) else (none)) else (none)) else (none)) else (none)) else (none)) else (none)) else (none)) else (none)) (g := z66) hn (szL_len hz) h0 h1 (fun i hi x1 q0 q1 => ?_) (fun m k i => rfl)
  have hin : inR (List.length x0) (i : Int) = true := by rw [inR_nat]; simpa using hi
  have hr : rd x0 (i : Int) = x0[i] := rd_get hi
  have hzl : z66 x0[i] ≤ 1048576 := szL_le (g := z66) (List.getElem_mem hi) hz
  have hzi : z66 x0[i] = (((szL (fun l : List (UInt8) => l.length) (x0[i].1.1.1) + (szL z114 (x0[i].1.1.2.1) + 0)) + ((szL z116 (x0[i].1.2.1.1) + (List.length (x0[i].1.2.1.2.2) + 0)) + 0)) + 0) := rfl
  try dsimp only at q1 hzl ⊢
  obtain ⟨v0, e0, a0, b0⟩ := K100063 n hn (x0[i].fst.fst.fst) (x1) (by omega) (by omega) (by omega)
  obtain ⟨v1, e1, a1, b1⟩ := K100064 n hn (x0[i].fst.fst.snd.fst) (v0) (by omega) (by omega) (by omega)
  obtain ⟨v2, e2, a2, b2⟩ := K100065 n hn (x0[i].fst.snd.fst.fst) ((((v1 + 1) + 1))) (by omega) (by omega) (by omega)
  obtain ⟨v3, e3, a3, b3⟩ := K100066 n hn (x0[i].fst.snd.fst.snd.snd) (((v2 + 1))) (by omega) (by omega) (by omega)
  refine ⟨(((v3 + 1) + 1) + 1), by omega, by omega, fun c => ?_⟩
  simp (disch := omega) only [hin, hr, if_true, obind_some, W_same, e0, e1, e2, e3]
/- laws.markDoneS -/
theorem K100067 (n : Nat) (hn : 1048577 ≤ n) (x0 : List D165) (x1 : Int) (h0 : 0 ≤ x1) (hz : szL z165 x0 ≤ 1048576) (h1 : x1 + 16 * ((szL z165 x0 : Nat) : Int) ≤ 1152921504606846976) : mkR x1 (szL z165 x0) (f100067 n x0 x1) := by
  refine mk_slice (L := f100067L0 n) (G := fun (x2 x1 : Int) (c : Int → Option (Int × Unit)) => if inR (List.length x0) x2 = true then (if inR (List.length x0) x2 = true then (obind (f42 n (W (W (x1 + 1) + 1))) fun r0 => if inR (List.length x0) x2 = true then (obind (f42 n (W (W (W (x1 + 1) + 1) + 1))) fun r1 => if inR (List.length x0) x2 = true then (if inR (List.length x0) x2 = true then (c (W (W (W (W (W (x1 + 1) + 1) + 1) + 1) + 1))) else (none)) else (none)) else (none)) else (none)) else (none)) (g := z165) hn (szL_len hz) h0 h1 (fun i hi x1 q0 q1 => ?_) (fun m k i => rfl)
  have hin : inR (List.length x0) (i : Int) = true := by rw [inR_nat]; simpa using hi
  have hzl : z165 x0[i] ≤ 1048576 := szL_le (g := z165) (List.getElem_mem hi) hz
  have hzi : z165 x0[i] = (List.length (x0[i].2.2.1) + (List.length (x0[i].2.2.2.1) + 0)) := rfl
  try dsimp only at q1 hzl ⊢
  obtain ⟨s0, t0⟩ := MT n hn ((((x1 + 1) + 1))) (by omega) (by omega)
  obtain ⟨s1, t1⟩ := MT n hn (((((x1 + 1) + 1) + 1))) (by omega) (by omega)
  refine ⟨(((((x1 + 1) + 1) + 1) + 1) + 1), by omega, by omega, fun c => ?_⟩
  simp (disch := omega) only [hin, if_true, obind_some, W_same, t0, t1]
/- laws.markClientS -/
theorem K100038 (n : Nat) (hn : 1048577 ≤ n) (x0 : List D107) (x1 : Int) (h0 : 0 ≤ x1) (hz : szL z107 x0 ≤ 1048576) (h1 : x1 + 16 * ((szL z107 x0 : Nat) : Int) ≤ 1152921504606846976) : mkR x1 (szL z107 x0) (f100038 n x0 x1) := by
  refine mk_slice (L := f100038L0 n) (G := fun (x2 x1 : Int) (c : Int → Option (Int × Unit)) => if inR (List.length x0) x2 = true then (if inR (List.length x0) x2 = true then (if inR (List.length x0) x2 = true then (if inR (List.length x0) x2 = true then (if inR (List.length x0) x2 = true then (if inR (List.length x0) x2 = true then (if inR (List.length x0) x2 = true then (obind (f42 n (W (W (W (W (W (W (W (x1 + 1) + 1) + 1) + 1) + 1) + 1) + 1))) fun r0 => if inR (List.length x0) x2 = true then (obind (f42 n (W (W (W (W (W (W (W (W (x1 + 1) + 1) + 1) + 1) + 1) + 1) + 1) + 1))) fun r1 => if inR (List.length x0) x2 = true then (if inR (List.length x0) x2 = true then (if inR (List.length x0) x2 = true then (if inR (List.length x0) x2 = true then (obind (f100067 n ((rd x0 x2).snd.snd.snd.snd) (W (W (W (W (W (W (W (W (W (W (W (x1 + 1) + 1) + 1) + 1) + 1) + 1) + 1) + 1) + 1) + 1) + 1))) fun r2 => c (r2.fst)) else (none)) else (none)) else (none)) else (none)) else (none)) else (none)) else (none)) else (none)) else (none)) else (none)) else (none)) else (none)) (g := z107) hn (szL_len hz) h0 h1 (fun i hi x1 q0 q1 => ?_) (fun m k i => rfl)
  have hin : inR (List.length x0) (i : Int) = true := by rw [inR_nat]; simpa using hi
  have hr : rd x0 (i : Int) = x0[i] := rd_get hi
  have hzl : z107 x0[i] ≤ 1048576 := szL_le (g := z107) (List.getElem_mem hi) hz
  have hzi : z107 x0[i] = ((List.length (x0[i].2.2.2.1.2.2.2.2.1) + (List.length (x0[i].2.2.2.1.2.2.2.2.2.1) + 0)) + (szL z165 (x0[i].2.2.2.2) + 0)) := rfl
  try dsimp only at q1 hzl ⊢
  obtain ⟨s0, t0⟩ := MT n hn (((((((((x1 + 1) + 1) + 1) + 1) + 1) + 1) + 1))) (by omega) (by omega)
  obtain ⟨s1, t1⟩ := MT n hn ((((((((((x1 + 1) + 1) + 1) + 1) + 1) + 1) + 1) + 1))) (by omega) (by omega)
  obtain ⟨v2, e2, a2, b2⟩ := K100067 n hn (x0[i].snd.snd.snd.snd) (((((((((((((x1 + 1) + 1) + 1) + 1) + 1) + 1) + 1) + 1) + 1) + 1) + 1))) (by omega) (by omega) (by omega)
  refine ⟨v2, by omega, by omega, fun c => ?_⟩
  simp (disch := omega) only [hin, hr, if_true, obind_some, W_same, t0, t1, e2]
/- laws.markMsgS -/
theorem K100039 (n : Nat) (hn : 1048577 ≤ n) (x0 : List D104) (x1 : Int) (h0 : 0 ≤ x1) (hz : szL z104 x0 ≤ 1048576) (h1 : x1 + 16 * ((szL z104 x0 : Nat) : Int) ≤ 1152921504606846976) : mkR x1 (szL z104 x0) (f100039 n x0 x1) := by
  refine mk_slice (L := f100039L0 n) (G := fun (x2 x1 : Int) (c : Int → Option (Int × Unit)) => if inR (List.length x0) x2 = true then (if inR (List.length x0) x2 = true then (if inR (List.length x0) x2 = true then (if inR (List.length x0) x2 = true then (obind (f42 n (W (W (W (W (x1 + 1) + 1) + 1) + 1))) fun r0 => if inR (List.length x0) x2 = true then (obind (f42 n (W (W (W (W (W (x1 + 1) + 1) + 1) + 1) + 1))) fun r1 => if inR (List.length x0) x2 = true then (if inR (List.length x0) x2 = true then (if inR (List.length x0) x2 = true then (c (W (W (W (W (W (W (W (W (x1 + 1) + 1) + 1) + 1) + 1) + 1) + 1) + 1))) else (none)) else (none)) else (none)) else (none)) else (none)) else (none)) else (none)) else (none)) (g := z104) hn (szL_len hz) h0 h1 (fun i hi x1 q0 q1 => ?_) (fun m k i => rfl)
  have hin : inR (List.length x0) (i : Int) = true := by rw [inR_nat]; simpa using hi
  have hzl : z104 x0[i] ≤ 1048576 := szL_le (g := z104) (List.getElem_mem hi) hz
  have hzi : z104 x0[i] = (List.length (x0[i].2.2.2.2.1) + (List.length (x0[i].2.2.2.2.2.1) + 0)) := rfl
  try dsimp only at q1 hzl ⊢
  obtain ⟨s0, t0⟩ := MT n hn ((((((x1 + 1) + 1) + 1) + 1))) (by omega) (by omega)
  obtain ⟨s1, t1⟩ := MT n hn (((((((x1 + 1) + 1) + 1) + 1) + 1))) (by omega) (by omega)
  refine ⟨((((((((x1 + 1) + 1) + 1) + 1) + 1) + 1) + 1) + 1), by omega, by omega, fun c => ?_⟩
  simp (disch := omega) only [hin, if_true, obind_some, W_same, t0, t1]
/- laws.markActS -/
theorem K100040 (n : Nat) (hn : 1048577 ≤ n) (x0 : List D111) (x1 : Int) (h0 : 0 ≤ x1) (hz : szL z111 x0 ≤ 1048576) (h1 : x1 + 16 * ((szL z111 x0 : Nat) : Int) ≤ 1152921504606846976) : mkR x1 (szL z111 x0) (f100040 n x0 x1) := by
  refine mk_slice (L := f100040L0 n) (G := fun (x2 x1 : Int) (c : Int → Option (Int × Unit)) => if inR (List.length x0) x2 = true then (if inR (List.length x0) x2 = true then (if inR (List.length x0) x2 = true then (obind (f42 n (W (W (W (x1 + 1) + 1) + 1))) fun r0 => if inR (List.length x0) x2 = true then (obind (f42 n (W (W (W (W (x1 + 1) + 1) + 1) + 1))) fun r1 => if inR (List.length x0) x2 = true then (if inR (List.length x0) x2 = true then (c (W (W (W (W (W (W (x1 + 1) + 1) + 1) + 1) + 1) + 1))) else (none)) else (none)) else (none)) else (none)) else (none)) else (none)) (g := z111) hn (szL_len hz) h0 h1 (fun i hi x1 q0 q1 => ?_) (fun m k i => rfl)
  have hin : inR (List.length x0) (i : Int) = true := by rw [inR_nat]; simpa using hi
  have hzl : z111 x0[i] ≤ 1048576 := szL_le (g := z111) (List.getElem_mem hi) hz
  have hzi : z111 x0[i] = (List.length (x0[i].2.2.2.1) + (List.length (x0[i].2.2.2.2.1) + 0)) := rfl
  try dsimp only at q1 hzl ⊢
  obtain ⟨s0, t0⟩ := MT n hn (((((x1 + 1) + 1) + 1))) (by omega) (by omega)
  obtain ⟨s1, t1⟩ := MT n hn ((((((x1 + 1) + 1) + 1) + 1))) (by omega) (by omega)
  refine ⟨((((((x1 + 1) + 1) + 1) + 1) + 1) + 1), by omega, by omega, fun c => ?_⟩
  simp (disch := omega) only [hin, if_true, obind_some, W_same, t0, t1]
/- laws.markActSS -/
theorem K100041 (n : Nat) (hn : 1048577 ≤ n) (x0 : List (List D111)) (x1 : Int) (h0 : 0 ≤ x1) (hz : szL (fun l : List (D111) => szL z111 l) x0 ≤ 1048576) (h1 : x1 + 16 * ((szL (fun l : List (D111) => szL z111 l) x0 : Nat) : Int) ≤ 1152921504606846976) : mkR x1 (szL (fun l : List (D111) => szL z111 l) x0) (f100041 n x0 x1) := by
  refine mk_slice (L := f100041L0 n) (G := fun (x2 x1 : Int) (c : Int → Option (Int × Unit)) => if inR (List.length x0) x2 = true then (obind (f100040 n (rd x0 x2) x1) fun r0 => c (r0.fst)) else (none)) (g := (fun l : List (D111) => szL z111 l)) hn (szL_len hz) h0 h1 (fun i hi x1 q0 q1 => ?_) (fun m k i => rfl)
  have hin : inR (List.length x0) (i : Int) = true := by rw [inR_nat]; simpa using hi
  have hr : rd x0 (i : Int) = x0[i] := rd_get hi
  have hzl : (fun l : List (D111) => szL z111 l) x0[i] ≤ 1048576 := szL_le (g := (fun l : List (D111) => szL z111 l)) (List.getElem_mem hi) hz
  try dsimp only at q1 hzl ⊢
  obtain ⟨v0, e0, a0, b0⟩ := K100040 n hn x0[i] (x1) (by omega) (by omega) (by omega)
  refine ⟨v0, by omega, by omega, fun c => ?_⟩
  simp (disch := omega) only [hin, hr, if_true, obind_some, e0]
/- laws.markWorld -/
theorem K100010 (n : Nat) (hn : 1048577 ≤ n) (x0 : Int) (x1 : List Bool) (x2 : List Bool) (x3 : List (List UInt8)) (x4 : List D66) (x5 : List D107) (x6 : List D104) (x7 : List D111) (x8 : List (List D111)) (x9 : Int) (h0 : 0 ≤ x9) (hz : ((List.length x1 + (List.length x2 + (szL (fun s : List UInt8 => s.length) x3 + 0))) + (szL z66 x4 + (szL z107 x5 + (szL z104 x6 + (szL z111 x7 + (szL (fun l : List (D111) => szL z111 l) x8 + 0)))))) ≤ 1048576) (h1 : x9 + 16 * ((((List.length x1 + (List.length x2 + (szL (fun s : List UInt8 => s.length) x3 + 0))) + (szL z66 x4 + (szL z107 x5 + (szL z104 x6 + (szL z111 x7 + (szL (fun l : List (D111) => szL z111 l) x8 + 0)))))) : Nat) : Int) ≤ 1152921504606846976) : mkR x9 (((List.length x1 + (List.length x2 + (szL (fun s : List UInt8 => s.length) x3 + 0))) + (szL z66 x4 + (szL z107 x5 + (szL z104 x6 + (szL z111 x7 + (szL (fun l : List (D111) => szL z111 l) x8 + 0))))))) (f100010 n x0 x1 x2 x3 x4 x5 x6 x7 x8 x9) := by
  unfold f100010
  obtain ⟨v0, e0, a0, b0⟩ := K100036 n hn x0 x1 x2 x3 (x9) (by omega) (by omega) (by omega)
  obtain ⟨v1, e1, a1, b1⟩ := K100037 n hn x4 (v0) (by omega) (by omega) (by omega)
  obtain ⟨v2, e2, a2, b2⟩ := K100038 n hn x5 (v1) (by omega) (by omega) (by omega)
  obtain ⟨v3, e3, a3, b3⟩ := K100039 n hn x6 (v2) (by omega) (by omega) (by omega)
  obtain ⟨v4, e4, a4, b4⟩ := K100040 n hn x7 (v3) (by omega) (by omega) (by omega)
  obtain ⟨v5, e5, a5, b5⟩ := K100041 n hn x8 (v4) (by omega) (by omega) (by omega)
  exact ⟨v5, by simp (disch := omega) only [obind_some, e0, e1, e2, e3, e4, e5], by omega, by omega⟩
end Go.Sym

import Derived.Test.YtpbfjemedfnkeaaPFnExactShare0
import Derived.Test.YtpbfjemedfnkeaaM1
/-! Laws of sizes, copies and comparisons. -/
namespace Go.Sym
open Go
set_option maxRecDepth 100000
set_option linter.unusedVariables false
/- szByteS -/
theorem Z87 (n : Nat) (hn : 1048577 ≤ n) (x0 : List (UInt8)) (left : Int) (h0 : 0 ≤ left) (h1 : left ≤ 1048576) (hf0 : Ty.Fit (.sl (.u8)) x0) : f87 n x0 left = szR left (List.length x0) := by
  exact szR_last h0 h1 hf0.1
/- szCell -/
theorem Z45 (n : Nat) (hn : 1048577 ≤ n) (x0 : Int) (x1 : List (UInt8)) (left : Int) (h0 : 0 ≤ left) (h1 : left ≤ 1048576) (hf1 : Ty.Fit (.sl (.u8)) x1) : f45 n x0 x1 left = szR left ((List.length x1 + 0)) := by
  unfold f45
  rw [Z87 n hn x1 left h0 h1 hf1]
  refine szR_bindK h0 (fun v1 hv1a hv1b => ?_)
  dsimp only
  exact szR_zero hv1a
/- szRow -/
theorem Z10 (n : Nat) (hn : 1048577 ≤ n) (x0 : List UInt8) (x1 : Int) (x2 : List (UInt8)) (x3 : Int) (x4 : List (UInt8)) (x5 : Int) (x6 : Bool) (left : Int) (h0 : 0 ≤ left) (h1 : left ≤ 1048576) (hf0 : Ty.Fit (.str) x0) (hf2 : Ty.Fit (.sl (.u8)) x2) (hf4 : Ty.Fit (.sl (.u8)) x4) : f10 n x0 x1 x2 x3 x4 x5 x6 left = szR left ((List.length x0 + ((List.length x2 + 0) + ((List.length x4 + 0) + 0)))) := by
  unfold f10
  refine szR_lenK h0 h1 hf0 (fun v1 hv1 hv1a hv1b => ?_)
  rw [← hv1]
  rw [Z45 n hn x1 x2 v1 hv1a (Int.le_trans hv1b h1) hf2]
  refine szR_bindK hv1a (fun v2 hv2a hv2b => ?_)
  dsimp only
  rw [Z45 n hn x3 x4 v2 hv2a (Int.le_trans hv2b (Int.le_trans hv1b h1)) hf4]
  refine szR_bindK hv2a (fun v3 hv3a hv3b => ?_)
  dsimp only
  exact szR_zero hv3a
/- toByteS -/
theorem T90 (n : Nat) (hn : 1048577 ≤ n) (x0 : List (UInt8)) (hz : List.length x0 ≤ 1048576) : f90 n x0 = some (x0, ()) := by
  exact to_slice (L := f90L0 n) (F := fun x k => k x) (b := 1) hn (by decide) hz (fun _ _ _ => rfl) (fun m i out => rfl)
/- toCell -/
theorem T49 (n : Nat) (hn : 1048577 ≤ n) (x0 : Int) (x1 : List (UInt8)) (hz : (List.length x1 + 0) ≤ 1048576) : f49 n x0 x1 = some (x0, x1, ()) := by
  unfold f49
  rw [T90 n hn x1 (by have h1 := hz; first | exact h1 | omega), obind_some]
/- toRow -/
theorem T12 (n : Nat) (hn : 1048577 ≤ n) (x0 : List UInt8) (x1 : Int) (x2 : List (UInt8)) (x3 : Int) (x4 : List (UInt8)) (x5 : Int) (x6 : Bool) (hz : (List.length x0 + ((List.length x2 + 0) + ((List.length x4 + 0) + 0))) ≤ 1048576) : f12 n x0 x1 x2 x3 x4 x5 x6 = some (x0, x1, x3, x5, x6, x2, x4, ()) := by
  unfold f12
  rw [T49 n hn x1 x2 (by have h1 := hz; first | exact h1 | omega), obind_some]
  rw [T49 n hn x3 x4 (by have h1 := hz; first | exact h1 | omega), obind_some]
/- eqByteS -/
theorem Q96 (n : Nat) (hn : 1048577 ≤ n) (x0 : List (UInt8)) (hz : List.length x0 ≤ 1048576) : f96 n x0 x0 = some (true, ()) := by
  exact eq_slice (L := f96L0 n) (E := fun x y k => if ((↑x.toNat : Int) != (↑y.toNat : Int)) = true then some (false, ()) else k) hn hz (fun x _ k => by simp) (fun m i => rfl)
/- eqCell -/
theorem Q52 (n : Nat) (hn : 1048577 ≤ n) (x0 : Int) (x1 : List (UInt8)) (hz : (List.length x1 + 0) ≤ 1048576) : f52 n x0 x1 x0 x1 = some (true, ()) := by
  unfold f52
  rw [Q96 n hn x1 (by have h1 := hz; first | exact h1 | omega)]
  simp [obind_some]
/- eqRow -/
theorem Q14 (n : Nat) (hn : 1048577 ≤ n) (x0 : List UInt8) (x1 : Int) (x2 : List (UInt8)) (x3 : Int) (x4 : List (UInt8)) (x5 : Int) (x6 : Bool) (hz : (List.length x0 + ((List.length x2 + 0) + ((List.length x4 + 0) + 0))) ≤ 1048576) : f14 n x0 x1 x2 x3 x4 x5 x6 x0 x1 x2 x3 x4 x5 x6 = some (true, ()) := by
  unfold f14
  rw [Q52 n hn x1 x2 (by have h1 := hz; first | exact h1 | omega)]
  rw [Q52 n hn x3 x4 (by have h1 := hz; first | exact h1 | omega)]
  simp [obind_some]
/- szAct -/
theorem Z53 (n : Nat) (hn : 1048577 ≤ n) (x0 : Int) (x1 : Int) (x2 : Int) (x3 : List UInt8) (x4 : List UInt8) (x5 : Int) (left : Int) (h0 : 0 ≤ left) (h1 : left ≤ 1048576) (hf3 : Ty.Fit (.str) x3) (hf4 : Ty.Fit (.str) x4) : f53 n x0 x1 x2 x3 x4 x5 left = szR left ((List.length x3 + (List.length x4 + 0))) := by
  unfold f53
  refine szR_lenK h0 h1 hf3 (fun v1 hv1 hv1a hv1b => ?_)
  rw [← hv1]
  refine szR_lenK hv1a (Int.le_trans hv1b h1) hf4 (fun v2 hv2 hv2a hv2b => ?_)
  rw [← hv2]
  exact szR_zero hv2a
def z112 (x : D112) : Nat := (List.length (x.2.2.2.1) + (List.length (x.2.2.2.2.1) + 0))
/- szActS -/
theorem Z15 (n : Nat) (hn : 1048577 ≤ n) (x0 : List (D112)) (left : Int) (h0 : 0 ≤ left) (h1 : left ≤ 1048576) (hf0 : Ty.Fit (.sl (ty112)) x0) : f15 n x0 left = szR left (szL z112 x0) := by
  exact szR_slice (L := f15L0 n) (F := fun x v => f53 n (x.1) (x.2.1) (x.2.2.1) (x.2.2.2.1) (x.2.2.2.2.1) (x.2.2.2.2.2) v) (g := z112) hn h0 h1 hf0.1 (fun x hx v hv0 hv1 => Z53 n hn (x.1) (x.2.1) (x.2.2.1) (x.2.2.2.1) (x.2.2.2.2.1) (x.2.2.2.2.2) v hv0 hv1 (hf0.2 x hx).2.2.2.1 (hf0.2 x hx).2.2.2.2.1) (fun m left i => rfl)
/- toAct -/
theorem T56 (n : Nat) (hn : 1048577 ≤ n) (x0 : Int) (x1 : Int) (x2 : Int) (x3 : List UInt8) (x4 : List UInt8) (x5 : Int) (hz : (List.length x3 + (List.length x4 + 0)) ≤ 1048576) : f56 n x0 x1 x2 x3 x4 x5 = some (x0, x1, x2, x3, x4, x5, ()) := by
  rfl
/- toActS -/
theorem T17 (n : Nat) (hn : 1048577 ≤ n) (x0 : List (D112)) (hz : szL z112 x0 ≤ 1048576) : f17 n x0 = some (x0, ()) := by
  exact to_slice (L := f17L0 n) (F := fun x k => obind (f56 n (x.1) (x.2.1) (x.2.2.1) (x.2.2.2.1) (x.2.2.2.2.1) (x.2.2.2.2.2)) fun r => k (r.1, r.2.1, r.2.2.1, r.2.2.2.1, r.2.2.2.2.1, r.2.2.2.2.2.1)) (b := 64) hn (by decide) (szL_len hz) (fun x hx k => by rw [T56 n hn (x.1) (x.2.1) (x.2.2.1) (x.2.2.2.1) (x.2.2.2.2.1) (x.2.2.2.2.2) (szL_le (g := z112) hx hz), obind_some]) (fun m i out => rfl)
/- eqAct -/
theorem Q62 (n : Nat) (hn : 1048577 ≤ n) (x0 : Int) (x1 : Int) (x2 : Int) (x3 : List UInt8) (x4 : List UInt8) (x5 : Int) (hz : (List.length x3 + (List.length x4 + 0)) ≤ 1048576) : f62 n x0 x1 x2 x3 x4 x5 x0 x1 x2 x3 x4 x5 = some (true, ()) := by
  unfold f62
  simp
/- eqActS -/
theorem Q20 (n : Nat) (hn : 1048577 ≤ n) (x0 : List (D112)) (hz : szL z112 x0 ≤ 1048576) : f20 n x0 x0 = some (true, ()) := by
  exact eq_slice (L := f20L0 n) (E := fun x y k => obind (f62 n (x.1) (x.2.1) (x.2.2.1) (x.2.2.2.1) (x.2.2.2.2.1) (x.2.2.2.2.2) (y.1) (y.2.1) (y.2.2.1) (y.2.2.2.1) (y.2.2.2.2.1) (y.2.2.2.2.2)) fun r => if (!r.1) = true then some (false, ()) else k) hn (szL_len hz) (fun x hx k => by rw [Q62 n hn (x.1) (x.2.1) (x.2.2.1) (x.2.2.2.1) (x.2.2.2.2.1) (x.2.2.2.2.2) (szL_le (g := z112) hx hz), obind_some]; rfl) (fun m i => rfl)
/- szByteSS -/
theorem Z124 (n : Nat) (hn : 1048577 ≤ n) (x0 : List (List (UInt8))) (left : Int) (h0 : 0 ≤ left) (h1 : left ≤ 1048576) (hf0 : Ty.Fit (.sl (.sl (.u8))) x0) : f124 n x0 left = szR left (szL (fun l : List (UInt8) => l.length) x0) := by
  exact szR_slice (L := f124L0 n) (F := fun x v => f87 n x v) (g := (fun l : List (UInt8) => l.length)) hn h0 h1 hf0.1 (fun x hx v hv0 hv1 => Z87 n hn x v hv0 hv1 (hf0.2 x hx)) (fun m left i => rfl)
/- szWr -/
theorem Z146 (n : Nat) (hn : 1048577 ≤ n) (x0 : Int) (x1 : List (UInt8)) (left : Int) (h0 : 0 ≤ left) (h1 : left ≤ 1048576) (hf1 : Ty.Fit (.sl (.u8)) x1) : f146 n x0 x1 left = szR left ((List.length x1 + 0)) := by
  unfold f146
  rw [Z87 n hn x1 left h0 h1 hf1]
  refine szR_bindK h0 (fun v1 hv1a hv1b => ?_)
  dsimp only
  exact szR_zero hv1a
def z23 (x : D23) : Nat := (List.length (x.2) + 0)
/- szWrS -/
theorem Z125 (n : Nat) (hn : 1048577 ≤ n) (x0 : List (D23)) (left : Int) (h0 : 0 ≤ left) (h1 : left ≤ 1048576) (hf0 : Ty.Fit (.sl (ty23)) x0) : f125 n x0 left = szR left (szL z23 x0) := by
  exact szR_slice (L := f125L0 n) (F := fun x v => f146 n (x.1) (x.2) v) (g := z23) hn h0 h1 hf0.1 (fun x hx v hv0 hv1 => Z146 n hn (x.1) (x.2) v hv0 hv1 (hf0.2 x hx).2) (fun m left i => rfl)
/- szDev -/
theorem Z100 (n : Nat) (hn : 1048577 ≤ n) (x0 : List (List (UInt8))) (x1 : List (D23)) (x2 : Int) (x3 : Bool) (left : Int) (h0 : 0 ≤ left) (h1 : left ≤ 1048576) (hf0 : Ty.Fit (.sl (.sl (.u8))) x0) (hf1 : Ty.Fit (.sl (ty23)) x1) : f100 n x0 x1 x2 x3 left = szR left ((szL (fun l : List (UInt8) => l.length) x0 + (szL z23 x1 + 0))) := by
  unfold f100
  rw [Z124 n hn x0 left h0 h1 hf0]
  refine szR_bindK h0 (fun v1 hv1a hv1b => ?_)
  dsimp only
  rw [Z125 n hn x1 v1 hv1a (Int.le_trans hv1b h1) hf1]
  refine szR_bindK hv1a (fun v2 hv2a hv2b => ?_)
  dsimp only
  exact szR_zero hv2a
def z25 (x : D25) : Nat := (List.length (x.1) + ((List.length (x.2.1.2) + 0) + ((List.length (x.2.2.1.2) + 0) + 0)))
/- szRowS -/
theorem Z126 (n : Nat) (hn : 1048577 ≤ n) (x0 : List (D25)) (left : Int) (h0 : 0 ≤ left) (h1 : left ≤ 1048576) (hf0 : Ty.Fit (.sl (ty25)) x0) : f126 n x0 left = szR left (szL z25 x0) := by
  exact szR_slice (L := f126L0 n) (F := fun x v => f10 n (x.1) (x.2.1.1) (x.2.1.2) (x.2.2.1.1) (x.2.2.1.2) (x.2.2.2.1) (x.2.2.2.2) v) (g := z25) hn h0 h1 hf0.1 (fun x hx v hv0 hv1 => Z10 n hn (x.1) (x.2.1.1) (x.2.1.2) (x.2.2.1.1) (x.2.2.1.2) (x.2.2.2.1) (x.2.2.2.2) v hv0 hv1 (hf0.2 x hx).1 (hf0.2 x hx).2.1.2 (hf0.2 x hx).2.2.1.2) (fun m left i => rfl)
/- szMarkS -/
theorem Z127 (n : Nat) (hn : 1048577 ≤ n) (x0 : List (D219)) (left : Int) (h0 : 0 ≤ left) (h1 : left ≤ 1048576) (hf0 : Ty.Fit (.sl (ty219)) x0) : f127 n x0 left = szR left (List.length x0) := by
  exact szR_last h0 h1 hf0.1
/- szTab -/
theorem Z101 (n : Nat) (hn : 1048577 ≤ n) (x0 : List (D25)) (x1 : Int) (x2 : List (D219)) (left : Int) (h0 : 0 ≤ left) (h1 : left ≤ 1048576) (hf0 : Ty.Fit (.sl (ty25)) x0) (hf2 : Ty.Fit (.sl (ty219)) x2) : f101 n x0 x1 x2 left = szR left ((szL z25 x0 + (List.length x2 + 0))) := by
  unfold f101
  rw [Z126 n hn x0 left h0 h1 hf0]
  refine szR_bindK h0 (fun v1 hv1a hv1b => ?_)
  dsimp only
  rw [Z127 n hn x2 v1 hv1a (Int.le_trans hv1b h1) hf2]
  refine szR_bindK hv1a (fun v2 hv2a hv2b => ?_)
  dsimp only
  exact szR_zero hv2a
/- szStore -/
theorem Z64 (n : Nat) (hn : 1048577 ≤ n) (x0 : List (List (UInt8))) (x1 : List (D23)) (x2 : Int) (x3 : Bool) (x4 : List (D25)) (x5 : Int) (x6 : List (D219)) (x7 : Int) (x8 : Int) (left : Int) (h0 : 0 ≤ left) (h1 : left ≤ 1048576) (hf0 : Ty.Fit (.sl (.sl (.u8))) x0) (hf1 : Ty.Fit (.sl (ty23)) x1) (hf4 : Ty.Fit (.sl (ty25)) x4) (hf6 : Ty.Fit (.sl (ty219)) x6) : f64 n x0 x1 x2 x3 x4 x5 x6 x7 x8 left = szR left (((szL (fun l : List (UInt8) => l.length) x0 + (szL z23 x1 + 0)) + ((szL z25 x4 + (List.length x6 + 0)) + 0))) := by
  unfold f64
  rw [Z100 n hn x0 x1 x2 x3 left h0 h1 hf0 hf1]
  refine szR_bindK h0 (fun v1 hv1a hv1b => ?_)
  dsimp only
  rw [Z101 n hn x4 x5 x6 v1 hv1a (Int.le_trans hv1b h1) hf4 hf6]
  refine szR_bindK hv1a (fun v2 hv2a hv2b => ?_)
  dsimp only
  exact szR_zero hv2a
/- szNode -/
theorem Z24 (n : Nat) (hn : 1048577 ≤ n) (x0 : List (List (UInt8))) (x1 : List (D23)) (x2 : Int) (x3 : Bool) (x4 : List (D25)) (x5 : Int) (x6 : List (D219)) (x7 : Int) (x8 : Int) (x9 : Int) (left : Int) (h0 : 0 ≤ left) (h1 : left ≤ 1048576) (hf0 : Ty.Fit (.sl (.sl (.u8))) x0) (hf1 : Ty.Fit (.sl (ty23)) x1) (hf4 : Ty.Fit (.sl (ty25)) x4) (hf6 : Ty.Fit (.sl (ty219)) x6) : f24 n x0 x1 x2 x3 x4 x5 x6 x7 x8 x9 left = szR left ((((szL (fun l : List (UInt8) => l.length) x0 + (szL z23 x1 + 0)) + ((szL z25 x4 + (List.length x6 + 0)) + 0)) + 0)) := by
  unfold f24
  rw [Z64 n hn x0 x1 x2 x3 x4 x5 x6 x7 x8 left h0 h1 hf0 hf1 hf4 hf6]
  refine szR_bindK h0 (fun v1 hv1a hv1b => ?_)
  dsimp only
  exact szR_zero hv1a
/- toByteSS -/
theorem T128 (n : Nat) (hn : 1048577 ≤ n) (x0 : List (List (UInt8))) (hz : szL (fun l : List (UInt8) => l.length) x0 ≤ 1048576) : f128 n x0 = some (x0, ()) := by
  exact to_slice (L := f128L0 n) (F := fun x k => obind (f90 n x) fun r => k r.1) (b := 24) hn (by decide) (szL_len hz) (fun x hx k => by rw [T90 n hn x (szL_le (g := (fun l : List (UInt8) => l.length)) hx hz), obind_some]) (fun m i out => rfl)
/- toWr -/
theorem T147 (n : Nat) (hn : 1048577 ≤ n) (x0 : Int) (x1 : List (UInt8)) (hz : (List.length x1 + 0) ≤ 1048576) : f147 n x0 x1 = some (x0, x1, ()) := by
  unfold f147
  rw [T90 n hn x1 (by have h1 := hz; first | exact h1 | omega), obind_some]
/- toWrS -/
theorem T129 (n : Nat) (hn : 1048577 ≤ n) (x0 : List (D23)) (hz : szL z23 x0 ≤ 1048576) : f129 n x0 = some (x0, ()) := by
  exact to_slice (L := f129L0 n) (F := fun x k => obind (f147 n (x.1) (x.2)) fun r => k (r.1, r.2.1)) (b := 32) hn (by decide) (szL_len hz) (fun x hx k => by rw [T147 n hn (x.1) (x.2) (szL_le (g := z23) hx hz), obind_some]) (fun m i out => rfl)
/- toDev -/
theorem T103 (n : Nat) (hn : 1048577 ≤ n) (x0 : List (List (UInt8))) (x1 : List (D23)) (x2 : Int) (x3 : Bool) (hz : (szL (fun l : List (UInt8) => l.length) x0 + (szL z23 x1 + 0)) ≤ 1048576) : f103 n x0 x1 x2 x3 = some (x2, x3, x0, x1, ()) := by
  unfold f103
  rw [T128 n hn x0 (by have h1 := hz; first | exact h1 | omega), obind_some]
  rw [T129 n hn x1 (by have h1 := hz; first | exact h1 | omega), obind_some]
/- toRowS -/
theorem T130 (n : Nat) (hn : 1048577 ≤ n) (x0 : List (D25)) (hz : szL z25 x0 ≤ 1048576) : f130 n x0 = some (x0, ()) := by
  exact to_slice (L := f130L0 n) (F := fun x k => obind (f12 n (x.1) (x.2.1.1) (x.2.1.2) (x.2.2.1.1) (x.2.2.1.2) (x.2.2.2.1) (x.2.2.2.2)) fun r => k (r.1, (r.2.1, r.2.2.2.2.2.1), (r.2.2.1, r.2.2.2.2.2.2.1), r.2.2.2.1, r.2.2.2.2.1)) (b := 96) hn (by decide) (szL_len hz) (fun x hx k => by rw [T12 n hn (x.1) (x.2.1.1) (x.2.1.2) (x.2.2.1.1) (x.2.2.1.2) (x.2.2.2.1) (x.2.2.2.2) (szL_le (g := z25) hx hz), obind_some]) (fun m i out => rfl)
/- toMark -/
theorem T148 (n : Nat) (hn : 1048577 ≤ n) (x0 : Int) (x1 : Int) (x2 : Int) (hz : 0 ≤ 1048576) : f148 n x0 x1 x2 = some (x0, x1, x2, ()) := by
  rfl
/- toMarkS -/
theorem T131 (n : Nat) (hn : 1048577 ≤ n) (x0 : List (D219)) (hz : List.length x0 ≤ 1048576) : f131 n x0 = some (x0, ()) := by
  exact to_slice (L := f131L0 n) (F := fun x k => obind (f148 n (x.1) (x.2.1) (x.2.2)) fun r => k (r.1, r.2.1, r.2.2.1)) (b := 24) hn (by decide) hz (fun x hx k => by rw [T148 n hn (x.1) (x.2.1) (x.2.2) (Nat.zero_le _), obind_some]) (fun m i out => rfl)
/- toTab -/
theorem T104 (n : Nat) (hn : 1048577 ≤ n) (x0 : List (D25)) (x1 : Int) (x2 : List (D219)) (hz : (szL z25 x0 + (List.length x2 + 0)) ≤ 1048576) : f104 n x0 x1 x2 = some (x1, x0, x2, ()) := by
  unfold f104
  rw [T130 n hn x0 (by have h1 := hz; first | exact h1 | omega), obind_some]
  rw [T131 n hn x2 (by have h1 := hz; first | exact h1 | omega), obind_some]
/- toStore -/
theorem T66 (n : Nat) (hn : 1048577 ≤ n) (x0 : List (List (UInt8))) (x1 : List (D23)) (x2 : Int) (x3 : Bool) (x4 : List (D25)) (x5 : Int) (x6 : List (D219)) (x7 : Int) (x8 : Int) (hz : ((szL (fun l : List (UInt8) => l.length) x0 + (szL z23 x1 + 0)) + ((szL z25 x4 + (List.length x6 + 0)) + 0)) ≤ 1048576) : f66 n x0 x1 x2 x3 x4 x5 x6 x7 x8 = some (x2, x3, x5, x7, x8, x0, x1, x4, x6, ()) := by
  unfold f66
  rw [T103 n hn x0 x1 x2 x3 (by have h1 := hz; first | exact h1 | omega), obind_some]
  rw [T104 n hn x4 x5 x6 (by have h1 := hz; first | exact h1 | omega), obind_some]
/- toNode -/
theorem T26 (n : Nat) (hn : 1048577 ≤ n) (x0 : List (List (UInt8))) (x1 : List (D23)) (x2 : Int) (x3 : Bool) (x4 : List (D25)) (x5 : Int) (x6 : List (D219)) (x7 : Int) (x8 : Int) (x9 : Int) (hz : (((szL (fun l : List (UInt8) => l.length) x0 + (szL z23 x1 + 0)) + ((szL z25 x4 + (List.length x6 + 0)) + 0)) + 0) ≤ 1048576) : f26 n x0 x1 x2 x3 x4 x5 x6 x7 x8 x9 = some (x2, x3, x5, x7, x8, x9, x0, x1, x4, x6, ()) := by
  unfold f26
  rw [T66 n hn x0 x1 x2 x3 x4 x5 x6 x7 x8 (by have h1 := hz; first | exact h1 | omega), obind_some]
/- eqByteSS -/
theorem Q132 (n : Nat) (hn : 1048577 ≤ n) (x0 : List (List (UInt8))) (hz : szL (fun l : List (UInt8) => l.length) x0 ≤ 1048576) : f132 n x0 x0 = some (true, ()) := by
  exact eq_slice (L := f132L0 n) (E := fun x y k => obind (f96 n x y) fun r => if (!r.1) = true then some (false, ()) else k) hn (szL_len hz) (fun x hx k => by rw [Q96 n hn x (szL_le (g := (fun l : List (UInt8) => l.length)) hx hz), obind_some]; rfl) (fun m i => rfl)
/- eqWr -/
theorem Q149 (n : Nat) (hn : 1048577 ≤ n) (x0 : Int) (x1 : List (UInt8)) (hz : (List.length x1 + 0) ≤ 1048576) : f149 n x0 x1 x0 x1 = some (true, ()) := by
  unfold f149
  rw [Q96 n hn x1 (by have h1 := hz; first | exact h1 | omega)]
  simp [obind_some]
/- eqWrS -/
theorem Q133 (n : Nat) (hn : 1048577 ≤ n) (x0 : List (D23)) (hz : szL z23 x0 ≤ 1048576) : f133 n x0 x0 = some (true, ()) := by
  exact eq_slice (L := f133L0 n) (E := fun x y k => obind (f149 n (x.1) (x.2) (y.1) (y.2)) fun r => if (!r.1) = true then some (false, ()) else k) hn (szL_len hz) (fun x hx k => by rw [Q149 n hn (x.1) (x.2) (szL_le (g := z23) hx hz), obind_some]; rfl) (fun m i => rfl)
/- eqDev -/
theorem Q105 (n : Nat) (hn : 1048577 ≤ n) (x0 : List (List (UInt8))) (x1 : List (D23)) (x2 : Int) (x3 : Bool) (hz : (szL (fun l : List (UInt8) => l.length) x0 + (szL z23 x1 + 0)) ≤ 1048576) : f105 n x0 x1 x2 x3 x0 x1 x2 x3 = some (true, ()) := by
  unfold f105
  rw [Q132 n hn x0 (by have h1 := hz; first | exact h1 | omega)]
  rw [Q133 n hn x1 (by have h1 := hz; first | exact h1 | omega)]
  simp [obind_some]
/- eqRowS -/
theorem Q134 (n : Nat) (hn : 1048577 ≤ n) (x0 : List (D25)) (hz : szL z25 x0 ≤ 1048576) : f134 n x0 x0 = some (true, ()) := by
  exact eq_slice (L := f134L0 n) (E := fun x y k => obind (f14 n (x.1) (x.2.1.1) (x.2.1.2) (x.2.2.1.1) (x.2.2.1.2) (x.2.2.2.1) (x.2.2.2.2) (y.1) (y.2.1.1) (y.2.1.2) (y.2.2.1.1) (y.2.2.1.2) (y.2.2.2.1) (y.2.2.2.2)) fun r => if (!r.1) = true then some (false, ()) else k) hn (szL_len hz) (fun x hx k => by rw [Q14 n hn (x.1) (x.2.1.1) (x.2.1.2) (x.2.2.1.1) (x.2.2.1.2) (x.2.2.2.1) (x.2.2.2.2) (szL_le (g := z25) hx hz), obind_some]; rfl) (fun m i => rfl)
/- eqMark -/
theorem Q150 (n : Nat) (hn : 1048577 ≤ n) (x0 : Int) (x1 : Int) (x2 : Int) (hz : 0 ≤ 1048576) : f150 n x0 x1 x2 x0 x1 x2 = some (true, ()) := by
  unfold f150
  simp
/- eqMarkS -/
theorem Q135 (n : Nat) (hn : 1048577 ≤ n) (x0 : List (D219)) (hz : List.length x0 ≤ 1048576) : f135 n x0 x0 = some (true, ()) := by
  exact eq_slice (L := f135L0 n) (E := fun x y k => obind (f150 n (x.1) (x.2.1) (x.2.2) (y.1) (y.2.1) (y.2.2)) fun r => if (!r.1) = true then some (false, ()) else k) hn hz (fun x hx k => by rw [Q150 n hn (x.1) (x.2.1) (x.2.2) (Nat.zero_le _), obind_some]; rfl) (fun m i => rfl)
/- eqTab -/
theorem Q106 (n : Nat) (hn : 1048577 ≤ n) (x0 : List (D25)) (x1 : Int) (x2 : List (D219)) (hz : (szL z25 x0 + (List.length x2 + 0)) ≤ 1048576) : f106 n x0 x1 x2 x0 x1 x2 = some (true, ()) := by
  unfold f106
  rw [Q134 n hn x0 (by have h1 := hz; first | exact h1 | omega)]
  rw [Q135 n hn x2 (by have h1 := hz; first | exact h1 | omega)]
  simp [obind_some]
/- eqStore -/
theorem Q69 (n : Nat) (hn : 1048577 ≤ n) (x0 : List (List (UInt8))) (x1 : List (D23)) (x2 : Int) (x3 : Bool) (x4 : List (D25)) (x5 : Int) (x6 : List (D219)) (x7 : Int) (x8 : Int) (hz : ((szL (fun l : List (UInt8) => l.length) x0 + (szL z23 x1 + 0)) + ((szL z25 x4 + (List.length x6 + 0)) + 0)) ≤ 1048576) : f69 n x0 x1 x2 x3 x4 x5 x6 x7 x8 x0 x1 x2 x3 x4 x5 x6 x7 x8 = some (true, ()) := by
  unfold f69
  rw [Q105 n hn x0 x1 x2 x3 (by have h1 := hz; first | exact h1 | omega)]
  rw [Q106 n hn x4 x5 x6 (by have h1 := hz; first | exact h1 | omega)]
  simp [obind_some]
/- eqNode -/
theorem Q28 (n : Nat) (hn : 1048577 ≤ n) (x0 : List (List (UInt8))) (x1 : List (D23)) (x2 : Int) (x3 : Bool) (x4 : List (D25)) (x5 : Int) (x6 : List (D219)) (x7 : Int) (x8 : Int) (x9 : Int) (hz : (((szL (fun l : List (UInt8) => l.length) x0 + (szL z23 x1 + 0)) + ((szL z25 x4 + (List.length x6 + 0)) + 0)) + 0) ≤ 1048576) : f28 n x0 x1 x2 x3 x4 x5 x6 x7 x8 x9 x0 x1 x2 x3 x4 x5 x6 x7 x8 x9 = some (true, ()) := by
  unfold f28
  rw [Q69 n hn x0 x1 x2 x3 x4 x5 x6 x7 x8 (by have h1 := hz; first | exact h1 | omega)]
  simp [obind_some]
/- eqStringS -/
theorem Q34 (n : Nat) (hn : 1048577 ≤ n) (x0 : List (List UInt8)) (hz : szL (fun s : List UInt8 => s.length) x0 ≤ 1048576) : f34 n x0 x0 = some (true, ()) := by
  exact eq_slice (L := f34L0 n) (E := fun x y k => if (!x == y) = true then some (false, ()) else k) hn (szL_len hz) (fun x _ k => by simp) (fun m i => rfl)
/- szBoolS -/
theorem Z109 (n : Nat) (hn : 1048577 ≤ n) (x0 : List (Bool)) (left : Int) (h0 : 0 ≤ left) (h1 : left ≤ 1048576) (hf0 : Ty.Fit (.sl (.bool)) x0) : f109 n x0 left = szR left (List.length x0) := by
  exact szR_last h0 h1 hf0.1
/- szStringS -/
theorem Z110 (n : Nat) (hn : 1048577 ≤ n) (x0 : List (List UInt8)) (left : Int) (h0 : 0 ≤ left) (h1 : left ≤ 1048576) (hf0 : Ty.Fit (.sl (.str)) x0) : f110 n x0 left = szR left (szL (fun s : List UInt8 => s.length) x0) := by
  refine szR_slice_str (L := f110L0 n) hn h0 h1 hf0.1 (fun x hx => hf0.2 x hx) (fun m left i => rfl)
/- szLead -/
theorem Z71 (n : Nat) (hn : 1048577 ≤ n) (x0 : Int) (x1 : List (Bool)) (x2 : List (Bool)) (x3 : List (List UInt8)) (left : Int) (h0 : 0 ≤ left) (h1 : left ≤ 1048576) (hf1 : Ty.Fit (.sl (.bool)) x1) (hf2 : Ty.Fit (.sl (.bool)) x2) (hf3 : Ty.Fit (.sl (.str)) x3) : f71 n x0 x1 x2 x3 left = szR left ((List.length x1 + (List.length x2 + (szL (fun s : List UInt8 => s.length) x3 + 0)))) := by
  unfold f71
  rw [Z109 n hn x1 left h0 h1 hf1]
  refine szR_bindK h0 (fun v1 hv1a hv1b => ?_)
  dsimp only
  rw [Z109 n hn x2 v1 hv1a (Int.le_trans hv1b h1) hf2]
  refine szR_bindK hv1a (fun v2 hv2a hv2b => ?_)
  dsimp only
  rw [Z110 n hn x3 v2 hv2a (Int.le_trans hv2b (Int.le_trans hv1b h1)) hf3]
  refine szR_bindK hv2a (fun v3 hv3a hv3b => ?_)
  dsimp only
  exact szR_zero hv3a
def z56 (x : D56) : Nat := (((szL (fun l : List (UInt8) => l.length) (x.1.1.1) + (szL z23 (x.1.1.2.1) + 0)) + ((szL z25 (x.1.2.1.1) + (List.length (x.1.2.1.2.2) + 0)) + 0)) + 0)
/- szNodeS -/
theorem Z72 (n : Nat) (hn : 1048577 ≤ n) (x0 : List (D56)) (left : Int) (h0 : 0 ≤ left) (h1 : left ≤ 1048576) (hf0 : Ty.Fit (.sl (ty56)) x0) : f72 n x0 left = szR left (szL z56 x0) := by
  exact szR_slice (L := f72L0 n) (F := fun x v => f24 n (x.1.1.1) (x.1.1.2.1) (x.1.1.2.2.1) (x.1.1.2.2.2) (x.1.2.1.1) (x.1.2.1.2.1) (x.1.2.1.2.2) (x.1.2.2.1) (x.1.2.2.2) (x.2) v) (g := z56) hn h0 h1 hf0.1 (fun x hx v hv0 hv1 => Z24 n hn (x.1.1.1) (x.1.1.2.1) (x.1.1.2.2.1) (x.1.1.2.2.2) (x.1.2.1.1) (x.1.2.1.2.1) (x.1.2.1.2.2) (x.1.2.2.1) (x.1.2.2.2) (x.2) v hv0 hv1 (hf0.2 x hx).1.1.1 (hf0.2 x hx).1.1.2.1 (hf0.2 x hx).1.2.1.1 (hf0.2 x hx).1.2.1.2.2) (fun m left i => rfl)
/- szMsg -/
theorem Z112 (n : Nat) (hn : 1048577 ≤ n) (x0 : Int) (x1 : Int) (x2 : Int) (x3 : Int) (x4 : List UInt8) (x5 : List UInt8) (x6 : Int) (x7 : Int) (left : Int) (h0 : 0 ≤ left) (h1 : left ≤ 1048576) (hf4 : Ty.Fit (.str) x4) (hf5 : Ty.Fit (.str) x5) : f112 n x0 x1 x2 x3 x4 x5 x6 x7 left = szR left ((List.length x4 + (List.length x5 + 0))) := by
  unfold f112
  refine szR_lenK h0 h1 hf4 (fun v1 hv1 hv1a hv1b => ?_)
  rw [← hv1]
  refine szR_lenK hv1a (Int.le_trans hv1b h1) hf5 (fun v2 hv2 hv2a hv2b => ?_)
  rw [← hv2]
  exact szR_zero hv2a
/- szDone -/
theorem Z152 (n : Nat) (hn : 1048577 ≤ n) (x0 : Int) (x1 : Int) (x2 : List UInt8) (x3 : List UInt8) (x4 : Int) (left : Int) (h0 : 0 ≤ left) (h1 : left ≤ 1048576) (hf2 : Ty.Fit (.str) x2) (hf3 : Ty.Fit (.str) x3) : f152 n x0 x1 x2 x3 x4 left = szR left ((List.length x2 + (List.length x3 + 0))) := by
  unfold f152
  refine szR_lenK h0 h1 hf2 (fun v1 hv1 hv1a hv1b => ?_)
  rw [← hv1]
  refine szR_lenK hv1a (Int.le_trans hv1b h1) hf3 (fun v2 hv2 hv2a hv2b => ?_)
  rw [← hv2]
  exact szR_zero hv2a
def z226 (x : D226) : Nat := (List.length (x.2.2.1) + (List.length (x.2.2.2.1) + 0))
/- szDoneS -/
theorem Z140 (n : Nat) (hn : 1048577 ≤ n) (x0 : List (D226)) (left : Int) (h0 : 0 ≤ left) (h1 : left ≤ 1048576) (hf0 : Ty.Fit (.sl (ty226)) x0) : f140 n x0 left = szR left (szL z226 x0) := by
  exact szR_slice (L := f140L0 n) (F := fun x v => f152 n (x.1) (x.2.1) (x.2.2.1) (x.2.2.2.1) (x.2.2.2.2) v) (g := z226) hn h0 h1 hf0.1 (fun x hx v hv0 hv1 => Z152 n hn (x.1) (x.2.1) (x.2.2.1) (x.2.2.2.1) (x.2.2.2.2) v hv0 hv1 (hf0.2 x hx).2.2.1 (hf0.2 x hx).2.2.2.1) (fun m left i => rfl)
/- szClient -/
theorem Z111 (n : Nat) (hn : 1048577 ≤ n) (x0 : Int) (x1 : Int) (x2 : Bool) (x3 : Int) (x4 : Int) (x5 : Int) (x6 : Int) (x7 : List UInt8) (x8 : List UInt8) (x9 : Int) (x10 : Int) (x11 : List (D226)) (left : Int) (h0 : 0 ≤ left) (h1 : left ≤ 1048576) (hf7 : Ty.Fit (.str) x7) (hf8 : Ty.Fit (.str) x8) (hf11 : Ty.Fit (.sl (ty226)) x11) : f111 n x0 x1 x2 x3 x4 x5 x6 x7 x8 x9 x10 x11 left = szR left (((List.length x7 + (List.length x8 + 0)) + (szL z226 x11 + 0))) := by
  unfold f111
  rw [Z112 n hn x3 x4 x5 x6 x7 x8 x9 x10 left h0 h1 hf7 hf8]
  refine szR_bindK h0 (fun v1 hv1a hv1b => ?_)
  dsimp only
  rw [Z140 n hn x11 v1 hv1a (Int.le_trans hv1b h1) hf11]
  refine szR_bindK hv1a (fun v2 hv2a hv2b => ?_)
  dsimp only
  exact szR_zero hv2a
def z176 (x : D176) : Nat := ((List.length (x.2.2.2.1.2.2.2.2.1) + (List.length (x.2.2.2.1.2.2.2.2.2.1) + 0)) + (szL z226 (x.2.2.2.2) + 0))
/- szClientS -/
theorem Z73 (n : Nat) (hn : 1048577 ≤ n) (x0 : List (D176)) (left : Int) (h0 : 0 ≤ left) (h1 : left ≤ 1048576) (hf0 : Ty.Fit (.sl (ty176)) x0) : f73 n x0 left = szR left (szL z176 x0) := by
  exact szR_slice (L := f73L0 n) (F := fun x v => f111 n (x.1) (x.2.1) (x.2.2.1) (x.2.2.2.1.1) (x.2.2.2.1.2.1) (x.2.2.2.1.2.2.1) (x.2.2.2.1.2.2.2.1) (x.2.2.2.1.2.2.2.2.1) (x.2.2.2.1.2.2.2.2.2.1) (x.2.2.2.1.2.2.2.2.2.2.1) (x.2.2.2.1.2.2.2.2.2.2.2) (x.2.2.2.2) v) (g := z176) hn h0 h1 hf0.1 (fun x hx v hv0 hv1 => Z111 n hn (x.1) (x.2.1) (x.2.2.1) (x.2.2.2.1.1) (x.2.2.2.1.2.1) (x.2.2.2.1.2.2.1) (x.2.2.2.1.2.2.2.1) (x.2.2.2.1.2.2.2.2.1) (x.2.2.2.1.2.2.2.2.2.1) (x.2.2.2.1.2.2.2.2.2.2.1) (x.2.2.2.1.2.2.2.2.2.2.2) (x.2.2.2.2) v hv0 hv1 (hf0.2 x hx).2.2.2.1.2.2.2.2.1 (hf0.2 x hx).2.2.2.1.2.2.2.2.2.1 (hf0.2 x hx).2.2.2.2) (fun m left i => rfl)
def z173 (x : D173) : Nat := (List.length (x.2.2.2.2.1) + (List.length (x.2.2.2.2.2.1) + 0))
/- szMsgS -/
theorem Z74 (n : Nat) (hn : 1048577 ≤ n) (x0 : List (D173)) (left : Int) (h0 : 0 ≤ left) (h1 : left ≤ 1048576) (hf0 : Ty.Fit (.sl (ty173)) x0) : f74 n x0 left = szR left (szL z173 x0) := by
  exact szR_slice (L := f74L0 n) (F := fun x v => f112 n (x.1) (x.2.1) (x.2.2.1) (x.2.2.2.1) (x.2.2.2.2.1) (x.2.2.2.2.2.1) (x.2.2.2.2.2.2.1) (x.2.2.2.2.2.2.2) v) (g := z173) hn h0 h1 hf0.1 (fun x hx v hv0 hv1 => Z112 n hn (x.1) (x.2.1) (x.2.2.1) (x.2.2.2.1) (x.2.2.2.2.1) (x.2.2.2.2.2.1) (x.2.2.2.2.2.2.1) (x.2.2.2.2.2.2.2) v hv0 hv1 (hf0.2 x hx).2.2.2.2.1 (hf0.2 x hx).2.2.2.2.2.1) (fun m left i => rfl)
/- szActSS -/
theorem Z75 (n : Nat) (hn : 1048577 ≤ n) (x0 : List (List (D112))) (left : Int) (h0 : 0 ≤ left) (h1 : left ≤ 1048576) (hf0 : Ty.Fit (.sl (.sl (ty112))) x0) : f75 n x0 left = szR left (szL (fun l : List (D112) => szL z112 l) x0) := by
  exact szR_slice (L := f75L0 n) (F := fun x v => f15 n x v) (g := (fun l : List (D112) => szL z112 l)) hn h0 h1 hf0.1 (fun x hx v hv0 hv1 => Z15 n hn x v hv0 hv1 (hf0.2 x hx)) (fun m left i => rfl)
/- szWorld -/
theorem Z38 (n : Nat) (hn : 1048577 ≤ n) (x0 : Int) (x1 : List (Bool)) (x2 : List (Bool)) (x3 : List (List UInt8)) (x4 : List (D56)) (x5 : List (D176)) (x6 : List (D173)) (x7 : List (D112)) (x8 : List (List (D112))) (left : Int) (h0 : 0 ≤ left) (h1 : left ≤ 1048576) (hf1 : Ty.Fit (.sl (.bool)) x1) (hf2 : Ty.Fit (.sl (.bool)) x2) (hf3 : Ty.Fit (.sl (.str)) x3) (hf4 : Ty.Fit (.sl (ty56)) x4) (hf5 : Ty.Fit (.sl (ty176)) x5) (hf6 : Ty.Fit (.sl (ty173)) x6) (hf7 : Ty.Fit (.sl (ty112)) x7) (hf8 : Ty.Fit (.sl (.sl (ty112))) x8) : f38 n x0 x1 x2 x3 x4 x5 x6 x7 x8 left = szR left (((List.length x1 + (List.length x2 + (szL (fun s : List UInt8 => s.length) x3 + 0))) + (szL z56 x4 + (szL z176 x5 + (szL z173 x6 + (szL z112 x7 + (szL (fun l : List (D112) => szL z112 l) x8 + 0))))))) := by
  unfold f38
  rw [Z71 n hn x0 x1 x2 x3 left h0 h1 hf1 hf2 hf3]
  refine szR_bindK h0 (fun v1 hv1a hv1b => ?_)
  dsimp only
  rw [Z72 n hn x4 v1 hv1a (Int.le_trans hv1b h1) hf4]
  refine szR_bindK hv1a (fun v2 hv2a hv2b => ?_)
  dsimp only
  rw [Z73 n hn x5 v2 hv2a (Int.le_trans hv2b (Int.le_trans hv1b h1)) hf5]
  refine szR_bindK hv2a (fun v3 hv3a hv3b => ?_)
  dsimp only
  rw [Z74 n hn x6 v3 hv3a (Int.le_trans hv3b (Int.le_trans hv2b (Int.le_trans hv1b h1))) hf6]
  refine szR_bindK hv3a (fun v4 hv4a hv4b => ?_)
  dsimp only
  rw [Z15 n hn x7 v4 hv4a (Int.le_trans hv4b (Int.le_trans hv3b (Int.le_trans hv2b (Int.le_trans hv1b h1)))) hf7]
  refine szR_bindK hv4a (fun v5 hv5a hv5b => ?_)
  dsimp only
  rw [Z75 n hn x8 v5 hv5a (Int.le_trans hv5b (Int.le_trans hv4b (Int.le_trans hv3b (Int.le_trans hv2b (Int.le_trans hv1b h1))))) hf8]
  refine szR_bindK hv5a (fun v6 hv6a hv6b => ?_)
  dsimp only
  exact szR_zero hv6a
/- toBoolS -/
theorem T113 (n : Nat) (hn : 1048577 ≤ n) (x0 : List (Bool)) (hz : List.length x0 ≤ 1048576) : f113 n x0 = some (x0, ()) := by
  exact to_slice (L := f113L0 n) (F := fun x k => k x) (b := 1) hn (by decide) hz (fun _ _ _ => rfl) (fun m i out => rfl)
/- toStringS -/
theorem T114 (n : Nat) (hn : 1048577 ≤ n) (x0 : List (List UInt8)) (hz : szL (fun s : List UInt8 => s.length) x0 ≤ 1048576) : f114 n x0 = some (x0, ()) := by
  exact to_slice (L := f114L0 n) (F := fun x k => k x) (b := 16) hn (by decide) (szL_len hz) (fun _ _ _ => rfl) (fun m i out => rfl)
/- toLead -/
theorem T76 (n : Nat) (hn : 1048577 ≤ n) (x0 : Int) (x1 : List (Bool)) (x2 : List (Bool)) (x3 : List (List UInt8)) (hz : (List.length x1 + (List.length x2 + (szL (fun s : List UInt8 => s.length) x3 + 0))) ≤ 1048576) : f76 n x0 x1 x2 x3 = some (x0, x1, x2, x3, ()) := by
  unfold f76
  rw [T113 n hn x1 (by have h1 := hz; first | exact h1 | omega), obind_some]
  rw [T113 n hn x2 (by have h1 := hz; first | exact h1 | omega), obind_some]
  rw [T114 n hn x3 (by have h1 := hz; first | exact h1 | omega), obind_some]
/- toNodeS -/
theorem T77 (n : Nat) (hn : 1048577 ≤ n) (x0 : List (D56)) (hz : szL z56 x0 ≤ 1048576) : f77 n x0 = some (x0, ()) := by
  exact to_slice (L := f77L0 n) (F := fun x k => obind (f26 n (x.1.1.1) (x.1.1.2.1) (x.1.1.2.2.1) (x.1.1.2.2.2) (x.1.2.1.1) (x.1.2.1.2.1) (x.1.2.1.2.2) (x.1.2.2.1) (x.1.2.2.2) (x.2)) fun r => k (((r.2.2.2.2.2.2.1, r.2.2.2.2.2.2.2.1, r.1, r.2.1), (r.2.2.2.2.2.2.2.2.1, r.2.2.1, r.2.2.2.2.2.2.2.2.2.1), r.2.2.2.1, r.2.2.2.2.1), r.2.2.2.2.2.1)) (b := 144) hn (by decide) (szL_len hz) (fun x hx k => by rw [T26 n hn (x.1.1.1) (x.1.1.2.1) (x.1.1.2.2.1) (x.1.1.2.2.2) (x.1.2.1.1) (x.1.2.1.2.1) (x.1.2.1.2.2) (x.1.2.2.1) (x.1.2.2.2) (x.2) (szL_le (g := z56) hx hz), obind_some]) (fun m i out => rfl)
/- toMsg -/
theorem T116 (n : Nat) (hn : 1048577 ≤ n) (x0 : Int) (x1 : Int) (x2 : Int) (x3 : Int) (x4 : List UInt8) (x5 : List UInt8) (x6 : Int) (x7 : Int) (hz : (List.length x4 + (List.length x5 + 0)) ≤ 1048576) : f116 n x0 x1 x2 x3 x4 x5 x6 x7 = some (x0, x1, x2, x3, x4, x5, x6, x7, ()) := by
  rfl
/- toDone -/
theorem T153 (n : Nat) (hn : 1048577 ≤ n) (x0 : Int) (x1 : Int) (x2 : List UInt8) (x3 : List UInt8) (x4 : Int) (hz : (List.length x2 + (List.length x3 + 0)) ≤ 1048576) : f153 n x0 x1 x2 x3 x4 = some (x0, x1, x2, x3, x4, ()) := by
  rfl
/- toDoneS -/
theorem T141 (n : Nat) (hn : 1048577 ≤ n) (x0 : List (D226)) (hz : szL z226 x0 ≤ 1048576) : f141 n x0 = some (x0, ()) := by
  exact to_slice (L := f141L0 n) (F := fun x k => obind (f153 n (x.1) (x.2.1) (x.2.2.1) (x.2.2.2.1) (x.2.2.2.2)) fun r => k (r.1, r.2.1, r.2.2.1, r.2.2.2.1, r.2.2.2.2.1)) (b := 56) hn (by decide) (szL_len hz) (fun x hx k => by rw [T153 n hn (x.1) (x.2.1) (x.2.2.1) (x.2.2.2.1) (x.2.2.2.2) (szL_le (g := z226) hx hz), obind_some]) (fun m i out => rfl)
/- toClient -/
theorem T115 (n : Nat) (hn : 1048577 ≤ n) (x0 : Int) (x1 : Int) (x2 : Bool) (x3 : Int) (x4 : Int) (x5 : Int) (x6 : Int) (x7 : List UInt8) (x8 : List UInt8) (x9 : Int) (x10 : Int) (x11 : List (D226)) (hz : ((List.length x7 + (List.length x8 + 0)) + (szL z226 x11 + 0)) ≤ 1048576) : f115 n x0 x1 x2 x3 x4 x5 x6 x7 x8 x9 x10 x11 = some (x0, x1, x2, x3, x4, x5, x6, x7, x8, x9, x10, x11, ()) := by
  unfold f115
  rw [T116 n hn x3 x4 x5 x6 x7 x8 x9 x10 (by have h1 := hz; first | exact h1 | omega), obind_some]
  rw [T141 n hn x11 (by have h1 := hz; first | exact h1 | omega), obind_some]
/- toClientS -/
theorem T78 (n : Nat) (hn : 1048577 ≤ n) (x0 : List (D176)) (hz : szL z176 x0 ≤ 1048576) : f78 n x0 = some (x0, ()) := by
  exact to_slice (L := f78L0 n) (F := fun x k => obind (f115 n (x.1) (x.2.1) (x.2.2.1) (x.2.2.2.1.1) (x.2.2.2.1.2.1) (x.2.2.2.1.2.2.1) (x.2.2.2.1.2.2.2.1) (x.2.2.2.1.2.2.2.2.1) (x.2.2.2.1.2.2.2.2.2.1) (x.2.2.2.1.2.2.2.2.2.2.1) (x.2.2.2.1.2.2.2.2.2.2.2) (x.2.2.2.2)) fun r => k (r.1, r.2.1, r.2.2.1, (r.2.2.2.1, r.2.2.2.2.1, r.2.2.2.2.2.1, r.2.2.2.2.2.2.1, r.2.2.2.2.2.2.2.1, r.2.2.2.2.2.2.2.2.1, r.2.2.2.2.2.2.2.2.2.1, r.2.2.2.2.2.2.2.2.2.2.1), r.2.2.2.2.2.2.2.2.2.2.2.1)) (b := 128) hn (by decide) (szL_len hz) (fun x hx k => by rw [T115 n hn (x.1) (x.2.1) (x.2.2.1) (x.2.2.2.1.1) (x.2.2.2.1.2.1) (x.2.2.2.1.2.2.1) (x.2.2.2.1.2.2.2.1) (x.2.2.2.1.2.2.2.2.1) (x.2.2.2.1.2.2.2.2.2.1) (x.2.2.2.1.2.2.2.2.2.2.1) (x.2.2.2.1.2.2.2.2.2.2.2) (x.2.2.2.2) (szL_le (g := z176) hx hz), obind_some]) (fun m i out => rfl)
/- toMsgS -/
theorem T79 (n : Nat) (hn : 1048577 ≤ n) (x0 : List (D173)) (hz : szL z173 x0 ≤ 1048576) : f79 n x0 = some (x0, ()) := by
  exact to_slice (L := f79L0 n) (F := fun x k => obind (f116 n (x.1) (x.2.1) (x.2.2.1) (x.2.2.2.1) (x.2.2.2.2.1) (x.2.2.2.2.2.1) (x.2.2.2.2.2.2.1) (x.2.2.2.2.2.2.2)) fun r => k (r.1, r.2.1, r.2.2.1, r.2.2.2.1, r.2.2.2.2.1, r.2.2.2.2.2.1, r.2.2.2.2.2.2.1, r.2.2.2.2.2.2.2.1)) (b := 80) hn (by decide) (szL_len hz) (fun x hx k => by rw [T116 n hn (x.1) (x.2.1) (x.2.2.1) (x.2.2.2.1) (x.2.2.2.2.1) (x.2.2.2.2.2.1) (x.2.2.2.2.2.2.1) (x.2.2.2.2.2.2.2) (szL_le (g := z173) hx hz), obind_some]) (fun m i out => rfl)
/- toActSS -/
theorem T80 (n : Nat) (hn : 1048577 ≤ n) (x0 : List (List (D112))) (hz : szL (fun l : List (D112) => szL z112 l) x0 ≤ 1048576) : f80 n x0 = some (x0, ()) := by
  exact to_slice (L := f80L0 n) (F := fun x k => obind (f17 n x) fun r => k r.1) (b := 24) hn (by decide) (szL_len hz) (fun x hx k => by rw [T17 n hn x (szL_le (g := (fun l : List (D112) => szL z112 l)) hx hz), obind_some]) (fun m i out => rfl)
/- toWorld -/
theorem T40 (n : Nat) (hn : 1048577 ≤ n) (x0 : Int) (x1 : List (Bool)) (x2 : List (Bool)) (x3 : List (List UInt8)) (x4 : List (D56)) (x5 : List (D176)) (x6 : List (D173)) (x7 : List (D112)) (x8 : List (List (D112))) (hz : ((List.length x1 + (List.length x2 + (szL (fun s : List UInt8 => s.length) x3 + 0))) + (szL z56 x4 + (szL z176 x5 + (szL z173 x6 + (szL z112 x7 + (szL (fun l : List (D112) => szL z112 l) x8 + 0)))))) ≤ 1048576) : f40 n x0 x1 x2 x3 x4 x5 x6 x7 x8 = some (x0, x1, x2, x3, x4, x5, x6, x7, x8, ()) := by
  unfold f40
  rw [T76 n hn x0 x1 x2 x3 (by have h1 := hz; first | exact h1 | omega), obind_some]
  rw [T77 n hn x4 (by have h1 := hz; first | exact h1 | omega), obind_some]
  rw [T78 n hn x5 (by have h1 := hz; first | exact h1 | omega), obind_some]
  rw [T79 n hn x6 (by have h1 := hz; first | exact h1 | omega), obind_some]
  rw [T17 n hn x7 (by have h1 := hz; first | exact h1 | omega), obind_some]
  rw [T80 n hn x8 (by have h1 := hz; first | exact h1 | omega), obind_some]
/- eqBoolS -/
theorem Q117 (n : Nat) (hn : 1048577 ≤ n) (x0 : List (Bool)) (hz : List.length x0 ≤ 1048576) : f117 n x0 x0 = some (true, ()) := by
  exact eq_slice (L := f117L0 n) (E := fun x y k => if (!x == y) = true then some (false, ()) else k) hn hz (fun x _ k => by simp) (fun m i => rfl)
/- eqLead -/
theorem Q82 (n : Nat) (hn : 1048577 ≤ n) (x0 : Int) (x1 : List (Bool)) (x2 : List (Bool)) (x3 : List (List UInt8)) (hz : (List.length x1 + (List.length x2 + (szL (fun s : List UInt8 => s.length) x3 + 0))) ≤ 1048576) : f82 n x0 x1 x2 x3 x0 x1 x2 x3 = some (true, ()) := by
  unfold f82
  rw [Q117 n hn x1 (by have h1 := hz; first | exact h1 | omega)]
  rw [Q117 n hn x2 (by have h1 := hz; first | exact h1 | omega)]
  rw [Q34 n hn x3 (by have h1 := hz; first | exact h1 | omega)]
  simp [obind_some]
/- eqNodeS -/
theorem Q83 (n : Nat) (hn : 1048577 ≤ n) (x0 : List (D56)) (hz : szL z56 x0 ≤ 1048576) : f83 n x0 x0 = some (true, ()) := by
  exact eq_slice (L := f83L0 n) (E := fun x y k => obind (f28 n (x.1.1.1) (x.1.1.2.1) (x.1.1.2.2.1) (x.1.1.2.2.2) (x.1.2.1.1) (x.1.2.1.2.1) (x.1.2.1.2.2) (x.1.2.2.1) (x.1.2.2.2) (x.2) (y.1.1.1) (y.1.1.2.1) (y.1.1.2.2.1) (y.1.1.2.2.2) (y.1.2.1.1) (y.1.2.1.2.1) (y.1.2.1.2.2) (y.1.2.2.1) (y.1.2.2.2) (y.2)) fun r => if (!r.1) = true then some (false, ()) else k) hn (szL_len hz) (fun x hx k => by rw [Q28 n hn (x.1.1.1) (x.1.1.2.1) (x.1.1.2.2.1) (x.1.1.2.2.2) (x.1.2.1.1) (x.1.2.1.2.1) (x.1.2.1.2.2) (x.1.2.2.1) (x.1.2.2.2) (x.2) (szL_le (g := z56) hx hz), obind_some]; rfl) (fun m i => rfl)
/- eqMsg -/
theorem Q119 (n : Nat) (hn : 1048577 ≤ n) (x0 : Int) (x1 : Int) (x2 : Int) (x3 : Int) (x4 : List UInt8) (x5 : List UInt8) (x6 : Int) (x7 : Int) (hz : (List.length x4 + (List.length x5 + 0)) ≤ 1048576) : f119 n x0 x1 x2 x3 x4 x5 x6 x7 x0 x1 x2 x3 x4 x5 x6 x7 = some (true, ()) := by
  unfold f119
  simp
/- eqDone -/
theorem Q154 (n : Nat) (hn : 1048577 ≤ n) (x0 : Int) (x1 : Int) (x2 : List UInt8) (x3 : List UInt8) (x4 : Int) (hz : (List.length x2 + (List.length x3 + 0)) ≤ 1048576) : f154 n x0 x1 x2 x3 x4 x0 x1 x2 x3 x4 = some (true, ()) := by
  unfold f154
  simp
/- eqDoneS -/
theorem Q142 (n : Nat) (hn : 1048577 ≤ n) (x0 : List (D226)) (hz : szL z226 x0 ≤ 1048576) : f142 n x0 x0 = some (true, ()) := by
  exact eq_slice (L := f142L0 n) (E := fun x y k => obind (f154 n (x.1) (x.2.1) (x.2.2.1) (x.2.2.2.1) (x.2.2.2.2) (y.1) (y.2.1) (y.2.2.1) (y.2.2.2.1) (y.2.2.2.2)) fun r => if (!r.1) = true then some (false, ()) else k) hn (szL_len hz) (fun x hx k => by rw [Q154 n hn (x.1) (x.2.1) (x.2.2.1) (x.2.2.2.1) (x.2.2.2.2) (szL_le (g := z226) hx hz), obind_some]; rfl) (fun m i => rfl)
/- eqClient -/
theorem Q118 (n : Nat) (hn : 1048577 ≤ n) (x0 : Int) (x1 : Int) (x2 : Bool) (x3 : Int) (x4 : Int) (x5 : Int) (x6 : Int) (x7 : List UInt8) (x8 : List UInt8) (x9 : Int) (x10 : Int) (x11 : List (D226)) (hz : ((List.length x7 + (List.length x8 + 0)) + (szL z226 x11 + 0)) ≤ 1048576) : f118 n x0 x1 x2 x3 x4 x5 x6 x7 x8 x9 x10 x11 x0 x1 x2 x3 x4 x5 x6 x7 x8 x9 x10 x11 = some (true, ()) := by
  unfold f118
  rw [Q119 n hn x3 x4 x5 x6 x7 x8 x9 x10 (by have h1 := hz; first | exact h1 | omega)]
  rw [Q142 n hn x11 (by have h1 := hz; first | exact h1 | omega)]
  simp [obind_some]
/- eqClientS -/
theorem Q84 (n : Nat) (hn : 1048577 ≤ n) (x0 : List (D176)) (hz : szL z176 x0 ≤ 1048576) : f84 n x0 x0 = some (true, ()) := by
  exact eq_slice (L := f84L0 n) (E := fun x y k => obind (f118 n (x.1) (x.2.1) (x.2.2.1) (x.2.2.2.1.1) (x.2.2.2.1.2.1) (x.2.2.2.1.2.2.1) (x.2.2.2.1.2.2.2.1) (x.2.2.2.1.2.2.2.2.1) (x.2.2.2.1.2.2.2.2.2.1) (x.2.2.2.1.2.2.2.2.2.2.1) (x.2.2.2.1.2.2.2.2.2.2.2) (x.2.2.2.2) (y.1) (y.2.1) (y.2.2.1) (y.2.2.2.1.1) (y.2.2.2.1.2.1) (y.2.2.2.1.2.2.1) (y.2.2.2.1.2.2.2.1) (y.2.2.2.1.2.2.2.2.1) (y.2.2.2.1.2.2.2.2.2.1) (y.2.2.2.1.2.2.2.2.2.2.1) (y.2.2.2.1.2.2.2.2.2.2.2) (y.2.2.2.2)) fun r => if (!r.1) = true then some (false, ()) else k) hn (szL_len hz) (fun x hx k => by rw [Q118 n hn (x.1) (x.2.1) (x.2.2.1) (x.2.2.2.1.1) (x.2.2.2.1.2.1) (x.2.2.2.1.2.2.1) (x.2.2.2.1.2.2.2.1) (x.2.2.2.1.2.2.2.2.1) (x.2.2.2.1.2.2.2.2.2.1) (x.2.2.2.1.2.2.2.2.2.2.1) (x.2.2.2.1.2.2.2.2.2.2.2) (x.2.2.2.2) (szL_le (g := z176) hx hz), obind_some]; rfl) (fun m i => rfl)
/- eqMsgS -/
theorem Q85 (n : Nat) (hn : 1048577 ≤ n) (x0 : List (D173)) (hz : szL z173 x0 ≤ 1048576) : f85 n x0 x0 = some (true, ()) := by
  exact eq_slice (L := f85L0 n) (E := fun x y k => obind (f119 n (x.1) (x.2.1) (x.2.2.1) (x.2.2.2.1) (x.2.2.2.2.1) (x.2.2.2.2.2.1) (x.2.2.2.2.2.2.1) (x.2.2.2.2.2.2.2) (y.1) (y.2.1) (y.2.2.1) (y.2.2.2.1) (y.2.2.2.2.1) (y.2.2.2.2.2.1) (y.2.2.2.2.2.2.1) (y.2.2.2.2.2.2.2)) fun r => if (!r.1) = true then some (false, ()) else k) hn (szL_len hz) (fun x hx k => by rw [Q119 n hn (x.1) (x.2.1) (x.2.2.1) (x.2.2.2.1) (x.2.2.2.2.1) (x.2.2.2.2.2.1) (x.2.2.2.2.2.2.1) (x.2.2.2.2.2.2.2) (szL_le (g := z173) hx hz), obind_some]; rfl) (fun m i => rfl)
/- eqActSS -/
theorem Q86 (n : Nat) (hn : 1048577 ≤ n) (x0 : List (List (D112))) (hz : szL (fun l : List (D112) => szL z112 l) x0 ≤ 1048576) : f86 n x0 x0 = some (true, ()) := by
  exact eq_slice (L := f86L0 n) (E := fun x y k => obind (f20 n x y) fun r => if (!r.1) = true then some (false, ()) else k) hn (szL_len hz) (fun x hx k => by rw [Q20 n hn x (szL_le (g := (fun l : List (D112) => szL z112 l)) hx hz), obind_some]; rfl) (fun m i => rfl)
/- eqWorld -/
theorem Q42 (n : Nat) (hn : 1048577 ≤ n) (x0 : Int) (x1 : List (Bool)) (x2 : List (Bool)) (x3 : List (List UInt8)) (x4 : List (D56)) (x5 : List (D176)) (x6 : List (D173)) (x7 : List (D112)) (x8 : List (List (D112))) (hz : ((List.length x1 + (List.length x2 + (szL (fun s : List UInt8 => s.length) x3 + 0))) + (szL z56 x4 + (szL z176 x5 + (szL z173 x6 + (szL z112 x7 + (szL (fun l : List (D112) => szL z112 l) x8 + 0)))))) ≤ 1048576) : f42 n x0 x1 x2 x3 x4 x5 x6 x7 x8 x0 x1 x2 x3 x4 x5 x6 x7 x8 = some (true, ()) := by
  unfold f42
  rw [Q82 n hn x0 x1 x2 x3 (by have h1 := hz; first | exact h1 | omega)]
  rw [Q83 n hn x4 (by have h1 := hz; first | exact h1 | omega)]
  rw [Q84 n hn x5 (by have h1 := hz; first | exact h1 | omega)]
  rw [Q85 n hn x6 (by have h1 := hz; first | exact h1 | omega)]
  rw [Q20 n hn x7 (by have h1 := hz; first | exact h1 | omega)]
  rw [Q86 n hn x8 (by have h1 := hz; first | exact h1 | omega)]
  simp [obind_some]
end Go.Sym

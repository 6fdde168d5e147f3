import Derived.Test.YtpbfjemedfnkeaaPFnExactAsideOf0
import Derived.Test.YtpbfjemedfnkeaaM2
/-! Laws of sizes, copies and comparisons. -/
namespace Go.Sym
open Go
set_option maxRecDepth 100000
set_option linter.unusedVariables false
/- szByteS -/
theorem Z87 (n : Nat) (hn : 1048577 ≤ n) (x0 : List (UInt8)) (left : Int) (h0 : 0 ≤ left) (h1 : left ≤ 1048576) (hf0 : Ty.Fit (.sl (.u8)) x0) : f87 n x0 left = szR left (List.length x0) := by
  exact szR_last h0 h1 hf0.1
/- szCell -/
theorem Z45 (n : Nat) (hn : 1048577 ≤ n) (x0 : Int) (x1 : List (UInt8)) (left : Int) (h0 : 0 ≤ left) (h1 : left ≤ 1048576) (hf1 : Ty.Fit (.sl (.u8)) x1) : f45 n x0 x1 left = szR left ((List.length x1 + 0)) := by
  unfold f45
  rw [Z87 n hn x1 left h0 h1 hf1]
  refine szR_bindK h0 (fun v1 hv1a hv1b => ?_)
  dsimp only
  exact szR_zero hv1a
/- szRow -/
theorem Z10 (n : Nat) (hn : 1048577 ≤ n) (x0 : List UInt8) (x1 : Int) (x2 : List (UInt8)) (x3 : Int) (x4 : List (UInt8)) (x5 : Int) (x6 : Bool) (left : Int) (h0 : 0 ≤ left) (h1 : left ≤ 1048576) (hf0 : Ty.Fit (.str) x0) (hf2 : Ty.Fit (.sl (.u8)) x2) (hf4 : Ty.Fit (.sl (.u8)) x4) : f10 n x0 x1 x2 x3 x4 x5 x6 left = szR left ((List.length x0 + ((List.length x2 + 0) + ((List.length x4 + 0) + 0)))) := by
  unfold f10
  refine szR_lenK h0 h1 hf0 (fun v1 hv1 hv1a hv1b => ?_)
  rw [← hv1]
  rw [Z45 n hn x1 x2 v1 hv1a (Int.le_trans hv1b h1) hf2]
  refine szR_bindK hv1a (fun v2 hv2a hv2b => ?_)
  dsimp only
  rw [Z45 n hn x3 x4 v2 hv2a (Int.le_trans hv2b (Int.le_trans hv1b h1)) hf4]
  refine szR_bindK hv2a (fun v3 hv3a hv3b => ?_)
  dsimp only
  exact szR_zero hv3a
/- toByteS -/
theorem T90 (n : Nat) (hn : 1048577 ≤ n) (x0 : List (UInt8)) (hz : List.length x0 ≤ 1048576) : f90 n x0 = some (x0, ()) := by
  exact to_slice (L := f90L0 n) (F := fun x k => k x) (b := 1) hn (by decide) hz (fun _ _ _ => rfl) (fun m i out => rfl)
/- toCell -/
theorem T49 (n : Nat) (hn : 1048577 ≤ n) (x0 : Int) (x1 : List (UInt8)) (hz : (List.length x1 + 0) ≤ 1048576) : f49 n x0 x1 = some (x0, x1, ()) := by
  unfold f49
  rw [T90 n hn x1 (by have h1 := hz; first | exact h1 | omega), obind_some]
/- toRow -/
theorem T12 (n : Nat) (hn : 1048577 ≤ n) (x0 : List UInt8) (x1 : Int) (x2 : List (UInt8)) (x3 : Int) (x4 : List (UInt8)) (x5 : Int) (x6 : Bool) (hz : (List.length x0 + ((List.length x2 + 0) + ((List.length x4 + 0) + 0))) ≤ 1048576) : f12 n x0 x1 x2 x3 x4 x5 x6 = some (x0, x1, x3, x5, x6, x2, x4, ()) := by
  unfold f12
  rw [T49 n hn x1 x2 (by have h1 := hz; first | exact h1 | omega), obind_some]
  rw [T49 n hn x3 x4 (by have h1 := hz; first | exact h1 | omega), obind_some]
/- eqByteS -/
theorem Q96 (n : Nat) (hn : 1048577 ≤ n) (x0 : List (UInt8)) (hz : List.length x0 ≤ 1048576) : f96 n x0 x0 = some (true, ()) := by
  exact eq_slice (L := f96L0 n) (E := fun x y k => if ((↑x.toNat : Int) != (↑y.toNat : Int)) = true then some (false, ()) else k) hn hz (fun x _ k => by simp) (fun m i => rfl)
/- eqCell -/
theorem Q52 (n : Nat) (hn : 1048577 ≤ n) (x0 : Int) (x1 : List (UInt8)) (hz : (List.length x1 + 0) ≤ 1048576) : f52 n x0 x1 x0 x1 = some (true, ()) := by
  unfold f52
  rw [Q96 n hn x1 (by have h1 := hz; first | exact h1 | omega)]
  simp [obind_some]
/- eqRow -/
theorem Q14 (n : Nat) (hn : 1048577 ≤ n) (x0 : List UInt8) (x1 : Int) (x2 : List (UInt8)) (x3 : Int) (x4 : List (UInt8)) (x5 : Int) (x6 : Bool) (hz : (List.length x0 + ((List.length x2 + 0) + ((List.length x4 + 0) + 0))) ≤ 1048576) : f14 n x0 x1 x2 x3 x4 x5 x6 x0 x1 x2 x3 x4 x5 x6 = some (true, ()) := by
  unfold f14
  rw [Q52 n hn x1 x2 (by have h1 := hz; first | exact h1 | omega)]
  rw [Q52 n hn x3 x4 (by have h1 := hz; first | exact h1 | omega)]
  simp [obind_some]
/- szByteSS -/
theorem Z124 (n : Nat) (hn : 1048577 ≤ n) (x0 : List (List (UInt8))) (left : Int) (h0 : 0 ≤ left) (h1 : left ≤ 1048576) (hf0 : Ty.Fit (.sl (.sl (.u8))) x0) : f124 n x0 left = szR left (szL (fun l : List (UInt8) => l.length) x0) := by
  exact szR_slice (L := f124L0 n) (F := fun x v => f87 n x v) (g := (fun l : List (UInt8) => l.length)) hn h0 h1 hf0.1 (fun x hx v hv0 hv1 => Z87 n hn x v hv0 hv1 (hf0.2 x hx)) (fun m left i => rfl)
/- szWr -/
theorem Z146 (n : Nat) (hn : 1048577 ≤ n) (x0 : Int) (x1 : List (UInt8)) (left : Int) (h0 : 0 ≤ left) (h1 : left ≤ 1048576) (hf1 : Ty.Fit (.sl (.u8)) x1) : f146 n x0 x1 left = szR left ((List.length x1 + 0)) := by
  unfold f146
  rw [Z87 n hn x1 left h0 h1 hf1]
  refine szR_bindK h0 (fun v1 hv1a hv1b => ?_)
  dsimp only
  exact szR_zero hv1a
def z23 (x : D23) : Nat := (List.length (x.2) + 0)
/- szWrS -/
theorem Z125 (n : Nat) (hn : 1048577 ≤ n) (x0 : List (D23)) (left : Int) (h0 : 0 ≤ left) (h1 : left ≤ 1048576) (hf0 : Ty.Fit (.sl (ty23)) x0) : f125 n x0 left = szR left (szL z23 x0) := by
  exact szR_slice (L := f125L0 n) (F := fun x v => f146 n (x.1) (x.2) v) (g := z23) hn h0 h1 hf0.1 (fun x hx v hv0 hv1 => Z146 n hn (x.1) (x.2) v hv0 hv1 (hf0.2 x hx).2) (fun m left i => rfl)
/- szDev -/
theorem Z100 (n : Nat) (hn : 1048577 ≤ n) (x0 : List (List (UInt8))) (x1 : List (D23)) (x2 : Int) (x3 : Bool) (left : Int) (h0 : 0 ≤ left) (h1 : left ≤ 1048576) (hf0 : Ty.Fit (.sl (.sl (.u8))) x0) (hf1 : Ty.Fit (.sl (ty23)) x1) : f100 n x0 x1 x2 x3 left = szR left ((szL (fun l : List (UInt8) => l.length) x0 + (szL z23 x1 + 0))) := by
  unfold f100
  rw [Z124 n hn x0 left h0 h1 hf0]
  refine szR_bindK h0 (fun v1 hv1a hv1b => ?_)
  dsimp only
  rw [Z125 n hn x1 v1 hv1a (Int.le_trans hv1b h1) hf1]
  refine szR_bindK hv1a (fun v2 hv2a hv2b => ?_)
  dsimp only
  exact szR_zero hv2a
def z25 (x : D25) : Nat := (List.length (x.1) + ((List.length (x.2.1.2) + 0) + ((List.length (x.2.2.1.2) + 0) + 0)))
/- szRowS -/
theorem Z126 (n : Nat) (hn : 1048577 ≤ n) (x0 : List (D25)) (left : Int) (h0 : 0 ≤ left) (h1 : left ≤ 1048576) (hf0 : Ty.Fit (.sl (ty25)) x0) : f126 n x0 left = szR left (szL z25 x0) := by
  exact szR_slice (L := f126L0 n) (F := fun x v => f10 n (x.1) (x.2.1.1) (x.2.1.2) (x.2.2.1.1) (x.2.2.1.2) (x.2.2.2.1) (x.2.2.2.2) v) (g := z25) hn h0 h1 hf0.1 (fun x hx v hv0 hv1 => Z10 n hn (x.1) (x.2.1.1) (x.2.1.2) (x.2.2.1.1) (x.2.2.1.2) (x.2.2.2.1) (x.2.2.2.2) v hv0 hv1 (hf0.2 x hx).1 (hf0.2 x hx).2.1.2 (hf0.2 x hx).2.2.1.2) (fun m left i => rfl)
/- szMarkS -/
theorem Z127 (n : Nat) (hn : 1048577 ≤ n) (x0 : List (D219)) (left : Int) (h0 : 0 ≤ left) (h1 : left ≤ 1048576) (hf0 : Ty.Fit (.sl (ty219)) x0) : f127 n x0 left = szR left (List.length x0) := by
  exact szR_last h0 h1 hf0.1
/- szTab -/
theorem Z101 (n : Nat) (hn : 1048577 ≤ n) (x0 : List (D25)) (x1 : Int) (x2 : List (D219)) (left : Int) (h0 : 0 ≤ left) (h1 : left ≤ 1048576) (hf0 : Ty.Fit (.sl (ty25)) x0) (hf2 : Ty.Fit (.sl (ty219)) x2) : f101 n x0 x1 x2 left = szR left ((szL z25 x0 + (List.length x2 + 0))) := by
  unfold f101
  rw [Z126 n hn x0 left h0 h1 hf0]
  refine szR_bindK h0 (fun v1 hv1a hv1b => ?_)
  dsimp only
  rw [Z127 n hn x2 v1 hv1a (Int.le_trans hv1b h1) hf2]
  refine szR_bindK hv1a (fun v2 hv2a hv2b => ?_)
  dsimp only
  exact szR_zero hv2a
/- szStore -/
theorem Z64 (n : Nat) (hn : 1048577 ≤ n) (x0 : List (List (UInt8))) (x1 : List (D23)) (x2 : Int) (x3 : Bool) (x4 : List (D25)) (x5 : Int) (x6 : List (D219)) (x7 : Int) (x8 : Int) (left : Int) (h0 : 0 ≤ left) (h1 : left ≤ 1048576) (hf0 : Ty.Fit (.sl (.sl (.u8))) x0) (hf1 : Ty.Fit (.sl (ty23)) x1) (hf4 : Ty.Fit (.sl (ty25)) x4) (hf6 : Ty.Fit (.sl (ty219)) x6) : f64 n x0 x1 x2 x3 x4 x5 x6 x7 x8 left = szR left (((szL (fun l : List (UInt8) => l.length) x0 + (szL z23 x1 + 0)) + ((szL z25 x4 + (List.length x6 + 0)) + 0))) := by
  unfold f64
  rw [Z100 n hn x0 x1 x2 x3 left h0 h1 hf0 hf1]
  refine szR_bindK h0 (fun v1 hv1a hv1b => ?_)
  dsimp only
  rw [Z101 n hn x4 x5 x6 v1 hv1a (Int.le_trans hv1b h1) hf4 hf6]
  refine szR_bindK hv1a (fun v2 hv2a hv2b => ?_)
  dsimp only
  exact szR_zero hv2a
/- szNode -/
theorem Z24 (n : Nat) (hn : 1048577 ≤ n) (x0 : List (List (UInt8))) (x1 : List (D23)) (x2 : Int) (x3 : Bool) (x4 : List (D25)) (x5 : Int) (x6 : List (D219)) (x7 : Int) (x8 : Int) (x9 : Int) (left : Int) (h0 : 0 ≤ left) (h1 : left ≤ 1048576) (hf0 : Ty.Fit (.sl (.sl (.u8))) x0) (hf1 : Ty.Fit (.sl (ty23)) x1) (hf4 : Ty.Fit (.sl (ty25)) x4) (hf6 : Ty.Fit (.sl (ty219)) x6) : f24 n x0 x1 x2 x3 x4 x5 x6 x7 x8 x9 left = szR left ((((szL (fun l : List (UInt8) => l.length) x0 + (szL z23 x1 + 0)) + ((szL z25 x4 + (List.length x6 + 0)) + 0)) + 0)) := by
  unfold f24
  rw [Z64 n hn x0 x1 x2 x3 x4 x5 x6 x7 x8 left h0 h1 hf0 hf1 hf4 hf6]
  refine szR_bindK h0 (fun v1 hv1a hv1b => ?_)
  dsimp only
  exact szR_zero hv1a
/- toByteSS -/
theorem T128 (n : Nat) (hn : 1048577 ≤ n) (x0 : List (List (UInt8))) (hz : szL (fun l : List (UInt8) => l.length) x0 ≤ 1048576) : f128 n x0 = some (x0, ()) := by
  exact to_slice (L := f128L0 n) (F := fun x k => obind (f90 n x) fun r => k r.1) (b := 24) hn (by decide) (szL_len hz) (fun x hx k => by rw [T90 n hn x (szL_le (g := (fun l : List (UInt8) => l.length)) hx hz), obind_some]) (fun m i out => rfl)
/- toWr -/
theorem T147 (n : Nat) (hn : 1048577 ≤ n) (x0 : Int) (x1 : List (UInt8)) (hz : (List.length x1 + 0) ≤ 1048576) : f147 n x0 x1 = some (x0, x1, ()) := by
  unfold f147
  rw [T90 n hn x1 (by have h1 := hz; first | exact h1 | omega), obind_some]
/- toWrS -/
theorem T129 (n : Nat) (hn : 1048577 ≤ n) (x0 : List (D23)) (hz : szL z23 x0 ≤ 1048576) : f129 n x0 = some (x0, ()) := by
  exact to_slice (L := f129L0 n) (F := fun x k => obind (f147 n (x.1) (x.2)) fun r => k (r.1, r.2.1)) (b := 32) hn (by decide) (szL_len hz) (fun x hx k => by rw [T147 n hn (x.1) (x.2) (szL_le (g := z23) hx hz), obind_some]) (fun m i out => rfl)
/- toDev -/
theorem T103 (n : Nat) (hn : 1048577 ≤ n) (x0 : List (List (UInt8))) (x1 : List (D23)) (x2 : Int) (x3 : Bool) (hz : (szL (fun l : List (UInt8) => l.length) x0 + (szL z23 x1 + 0)) ≤ 1048576) : f103 n x0 x1 x2 x3 = some (x2, x3, x0, x1, ()) := by
  unfold f103
  rw [T128 n hn x0 (by have h1 := hz; first | exact h1 | omega), obind_some]
  rw [T129 n hn x1 (by have h1 := hz; first | exact h1 | omega), obind_some]
/- toRowS -/
theorem T130 (n : Nat) (hn : 1048577 ≤ n) (x0 : List (D25)) (hz : szL z25 x0 ≤ 1048576) : f130 n x0 = some (x0, ()) := by
  exact to_slice (L := f130L0 n) (F := fun x k => obind (f12 n (x.1) (x.2.1.1) (x.2.1.2) (x.2.2.1.1) (x.2.2.1.2) (x.2.2.2.1) (x.2.2.2.2)) fun r => k (r.1, (r.2.1, r.2.2.2.2.2.1), (r.2.2.1, r.2.2.2.2.2.2.1), r.2.2.2.1, r.2.2.2.2.1)) (b := 96) hn (by decide) (szL_len hz) (fun x hx k => by rw [T12 n hn (x.1) (x.2.1.1) (x.2.1.2) (x.2.2.1.1) (x.2.2.1.2) (x.2.2.2.1) (x.2.2.2.2) (szL_le (g := z25) hx hz), obind_some]) (fun m i out => rfl)
/- toMark -/
theorem T148 (n : Nat) (hn : 1048577 ≤ n) (x0 : Int) (x1 : Int) (x2 : Int) (hz : 0 ≤ 1048576) : f148 n x0 x1 x2 = some (x0, x1, x2, ()) := by
  rfl
/- toMarkS -/
theorem T131 (n : Nat) (hn : 1048577 ≤ n) (x0 : List (D219)) (hz : List.length x0 ≤ 1048576) : f131 n x0 = some (x0, ()) := by
  exact to_slice (L := f131L0 n) (F := fun x k => obind (f148 n (x.1) (x.2.1) (x.2.2)) fun r => k (r.1, r.2.1, r.2.2.1)) (b := 24) hn (by decide) hz (fun x hx k => by rw [T148 n hn (x.1) (x.2.1) (x.2.2) (Nat.zero_le _), obind_some]) (fun m i out => rfl)
/- toTab -/
theorem T104 (n : Nat) (hn : 1048577 ≤ n) (x0 : List (D25)) (x1 : Int) (x2 : List (D219)) (hz : (szL z25 x0 + (List.length x2 + 0)) ≤ 1048576) : f104 n x0 x1 x2 = some (x1, x0, x2, ()) := by
  unfold f104
  rw [T130 n hn x0 (by have h1 := hz; first | exact h1 | omega), obind_some]
  rw [T131 n hn x2 (by have h1 := hz; first | exact h1 | omega), obind_some]
/- toStore -/
theorem T66 (n : Nat) (hn : 1048577 ≤ n) (x0 : List (List (UInt8))) (x1 : List (D23)) (x2 : Int) (x3 : Bool) (x4 : List (D25)) (x5 : Int) (x6 : List (D219)) (x7 : Int) (x8 : Int) (hz : ((szL (fun l : List (UInt8) => l.length) x0 + (szL z23 x1 + 0)) + ((szL z25 x4 + (List.length x6 + 0)) + 0)) ≤ 1048576) : f66 n x0 x1 x2 x3 x4 x5 x6 x7 x8 = some (x2, x3, x5, x7, x8, x0, x1, x4, x6, ()) := by
  unfold f66
  rw [T103 n hn x0 x1 x2 x3 (by have h1 := hz; first | exact h1 | omega), obind_some]
  rw [T104 n hn x4 x5 x6 (by have h1 := hz; first | exact h1 | omega), obind_some]
/- toNode -/
theorem T26 (n : Nat) (hn : 1048577 ≤ n) (x0 : List (List (UInt8))) (x1 : List (D23)) (x2 : Int) (x3 : Bool) (x4 : List (D25)) (x5 : Int) (x6 : List (D219)) (x7 : Int) (x8 : Int) (x9 : Int) (hz : (((szL (fun l : List (UInt8) => l.length) x0 + (szL z23 x1 + 0)) + ((szL z25 x4 + (List.length x6 + 0)) + 0)) + 0) ≤ 1048576) : f26 n x0 x1 x2 x3 x4 x5 x6 x7 x8 x9 = some (x2, x3, x5, x7, x8, x9, x0, x1, x4, x6, ()) := by
  unfold f26
  rw [T66 n hn x0 x1 x2 x3 x4 x5 x6 x7 x8 (by have h1 := hz; first | exact h1 | omega), obind_some]
/- eqByteSS -/
theorem Q132 (n : Nat) (hn : 1048577 ≤ n) (x0 : List (List (UInt8))) (hz : szL (fun l : List (UInt8) => l.length) x0 ≤ 1048576) : f132 n x0 x0 = some (true, ()) := by
  exact eq_slice (L := f132L0 n) (E := fun x y k => obind (f96 n x y) fun r => if (!r.1) = true then some (false, ()) else k) hn (szL_len hz) (fun x hx k => by rw [Q96 n hn x (szL_le (g := (fun l : List (UInt8) => l.length)) hx hz), obind_some]; rfl) (fun m i => rfl)
/- eqWr -/
theorem Q149 (n : Nat) (hn : 1048577 ≤ n) (x0 : Int) (x1 : List (UInt8)) (hz : (List.length x1 + 0) ≤ 1048576) : f149 n x0 x1 x0 x1 = some (true, ()) := by
  unfold f149
  rw [Q96 n hn x1 (by have h1 := hz; first | exact h1 | omega)]
  simp [obind_some]
/- eqWrS -/
theorem Q133 (n : Nat) (hn : 1048577 ≤ n) (x0 : List (D23)) (hz : szL z23 x0 ≤ 1048576) : f133 n x0 x0 = some (true, ()) := by
  exact eq_slice (L := f133L0 n) (E := fun x y k => obind (f149 n (x.1) (x.2) (y.1) (y.2)) fun r => if (!r.1) = true then some (false, ()) else k) hn (szL_len hz) (fun x hx k => by rw [Q149 n hn (x.1) (x.2) (szL_le (g := z23) hx hz), obind_some]; rfl) (fun m i => rfl)
/- eqDev -/
theorem Q105 (n : Nat) (hn : 1048577 ≤ n) (x0 : List (List (UInt8))) (x1 : List (D23)) (x2 : Int) (x3 : Bool) (hz : (szL (fun l : List (UInt8) => l.length) x0 + (szL z23 x1 + 0)) ≤ 1048576) : f105 n x0 x1 x2 x3 x0 x1 x2 x3 = some (true, ()) := by
  unfold f105
  rw [Q132 n hn x0 (by have h1 := hz; first | exact h1 | omega)]
  rw [Q133 n hn x1 (by have h1 := hz; first | exact h1 | omega)]
  simp [obind_some]
/- eqRowS -/
theorem Q134 (n : Nat) (hn : 1048577 ≤ n) (x0 : List (D25)) (hz : szL z25 x0 ≤ 1048576) : f134 n x0 x0 = some (true, ()) := by
  exact eq_slice (L := f134L0 n) (E := fun x y k => obind (f14 n (x.1) (x.2.1.1) (x.2.1.2) (x.2.2.1.1) (x.2.2.1.2) (x.2.2.2.1) (x.2.2.2.2) (y.1) (y.2.1.1) (y.2.1.2) (y.2.2.1.1) (y.2.2.1.2) (y.2.2.2.1) (y.2.2.2.2)) fun r => if (!r.1) = true then some (false, ()) else k) hn (szL_len hz) (fun x hx k => by rw [Q14 n hn (x.1) (x.2.1.1) (x.2.1.2) (x.2.2.1.1) (x.2.2.1.2) (x.2.2.2.1) (x.2.2.2.2) (szL_le (g := z25) hx hz), obind_some]; rfl) (fun m i => rfl)
/- eqMark -/
theorem Q150 (n : Nat) (hn : 1048577 ≤ n) (x0 : Int) (x1 : Int) (x2 : Int) (hz : 0 ≤ 1048576) : f150 n x0 x1 x2 x0 x1 x2 = some (true, ()) := by
  unfold f150
  simp
/- eqMarkS -/
theorem Q135 (n : Nat) (hn : 1048577 ≤ n) (x0 : List (D219)) (hz : List.length x0 ≤ 1048576) : f135 n x0 x0 = some (true, ()) := by
  exact eq_slice (L := f135L0 n) (E := fun x y k => obind (f150 n (x.1) (x.2.1) (x.2.2) (y.1) (y.2.1) (y.2.2)) fun r => if (!r.1) = true then some (false, ()) else k) hn hz (fun x hx k => by rw [Q150 n hn (x.1) (x.2.1) (x.2.2) (Nat.zero_le _), obind_some]; rfl) (fun m i => rfl)
/- eqTab -/
theorem Q106 (n : Nat) (hn : 1048577 ≤ n) (x0 : List (D25)) (x1 : Int) (x2 : List (D219)) (hz : (szL z25 x0 + (List.length x2 + 0)) ≤ 1048576) : f106 n x0 x1 x2 x0 x1 x2 = some (true, ()) := by
  unfold f106
  rw [Q134 n hn x0 (by have h1 := hz; first | exact h1 | omega)]
  rw [Q135 n hn x2 (by have h1 := hz; first | exact h1 | omega)]
  simp [obind_some]
/- eqStore -/
theorem Q69 (n : Nat) (hn : 1048577 ≤ n) (x0 : List (List (UInt8))) (x1 : List (D23)) (x2 : Int) (x3 : Bool) (x4 : List (D25)) (x5 : Int) (x6 : List (D219)) (x7 : Int) (x8 : Int) (hz : ((szL (fun l : List (UInt8) => l.length) x0 + (szL z23 x1 + 0)) + ((szL z25 x4 + (List.length x6 + 0)) + 0)) ≤ 1048576) : f69 n x0 x1 x2 x3 x4 x5 x6 x7 x8 x0 x1 x2 x3 x4 x5 x6 x7 x8 = some (true, ()) := by
  unfold f69
  rw [Q105 n hn x0 x1 x2 x3 (by have h1 := hz; first | exact h1 | omega)]
  rw [Q106 n hn x4 x5 x6 (by have h1 := hz; first | exact h1 | omega)]
  simp [obind_some]
/- eqNode -/
theorem Q28 (n : Nat) (hn : 1048577 ≤ n) (x0 : List (List (UInt8))) (x1 : List (D23)) (x2 : Int) (x3 : Bool) (x4 : List (D25)) (x5 : Int) (x6 : List (D219)) (x7 : Int) (x8 : Int) (x9 : Int) (hz : (((szL (fun l : List (UInt8) => l.length) x0 + (szL z23 x1 + 0)) + ((szL z25 x4 + (List.length x6 + 0)) + 0)) + 0) ≤ 1048576) : f28 n x0 x1 x2 x3 x4 x5 x6 x7 x8 x9 x0 x1 x2 x3 x4 x5 x6 x7 x8 x9 = some (true, ()) := by
  unfold f28
  rw [Q69 n hn x0 x1 x2 x3 x4 x5 x6 x7 x8 (by have h1 := hz; first | exact h1 | omega)]
  simp [obind_some]
/- eqStringS -/
theorem Q34 (n : Nat) (hn : 1048577 ≤ n) (x0 : List (List UInt8)) (hz : szL (fun s : List UInt8 => s.length) x0 ≤ 1048576) : f34 n x0 x0 = some (true, ()) := by
  exact eq_slice (L := f34L0 n) (E := fun x y k => if (!x == y) = true then some (false, ()) else k) hn (szL_len hz) (fun x _ k => by simp) (fun m i => rfl)
theorem MT (n : Nat) (hn : 1048577 ≤ n) (k : Int) (h0 : 0 ≤ k) (h1 : k ≤ 1152921504606846976) : ∃ r, f63 n k = some (r, ()) := by
  unfold f63
  by_cases hk : k ≤ 0
  · rw [if_pos (by simpa using hk)]
    exact ⟨_, rfl⟩
  · rw [if_neg (by simpa using hk)]
    exact text_loop (L := f63L0 n) (D := fun k => [UInt8.ofNat (IntKind.u8.wrap (W (48 + Int.tmod k 10))).toNat]) (A := #[109].toList) (fun _ => rfl) (by decide) (fun m k s => rfl) 61 n k _ h0 (by omega) h1 (by omega) (by simp)
/- laws.markByteS -/
theorem K100151 (n : Nat) (hn : 1048577 ≤ n) (x0 : List UInt8) (x1 : Int) (h0 : 0 ≤ x1) (hz : List.length x0 ≤ 1048576) (h1 : x1 + 16 * ((List.length x0 : Nat) : Int) ≤ 1152921504606846976) : mkR x1 (List.length x0) (f100151 n x0 x1) := by
  rw [← szL_zero x0] at h1 hz ⊢
  refine mk_slice (L := f100151L0 n) (G := fun (x2 x1 : Int) (c : Int → Option (Int × Unit)) => if inR (List.length x0) x2 = true then (c (W (x1 + 1))) else (none)) (g := (fun _ => 0)) hn (szL_len hz) h0 h1 (fun i hi x1 q0 q1 => ?_) (fun m k i => rfl)
  have hin : inR (List.length x0) (i : Int) = true := by rw [inR_nat]; simpa using hi
  have hzl : (fun _ => 0) x0[i] ≤ 1048576 := szL_le (g := (fun _ => 0)) (List.getElem_mem hi) hz
  try dsimp only at q1 hzl ⊢
  refine ⟨(x1 + 1), by omega, by omega, fun c => ?_⟩
  simp (disch := omega) only [hin, if_true, W_same]
/- laws.markByteSS -/
theorem K100136 (n : Nat) (hn : 1048577 ≤ n) (x0 : List (List UInt8)) (x1 : Int) (h0 : 0 ≤ x1) (hz : szL (fun l : List (UInt8) => l.length) x0 ≤ 1048576) (h1 : x1 + 16 * ((szL (fun l : List (UInt8) => l.length) x0 : Nat) : Int) ≤ 1152921504606846976) : mkR x1 (szL (fun l : List (UInt8) => l.length) x0) (f100136 n x0 x1) := by
  refine mk_slice (L := f100136L0 n) (G := fun (x2 x1 : Int) (c : Int → Option (Int × Unit)) => if inR (List.length x0) x2 = true then (obind (f100151 n (rd x0 x2) x1) fun r0 => c (r0.fst)) else (none)) (g := (fun l : List (UInt8) => l.length)) hn (szL_len hz) h0 h1 (fun i hi x1 q0 q1 => ?_) (fun m k i => rfl)
  have hin : inR (List.length x0) (i : Int) = true := by rw [inR_nat]; simpa using hi
  have hr : rd x0 (i : Int) = x0[i] := rd_get hi
  have hzl : (fun l : List (UInt8) => l.length) x0[i] ≤ 1048576 := szL_le (g := (fun l : List (UInt8) => l.length)) (List.getElem_mem hi) hz
  try dsimp only at q1 hzl ⊢
  obtain ⟨v0, e0, a0, b0⟩ := K100151 n hn x0[i] (x1) (by omega) (by omega) (by omega)
  refine ⟨v0, by omega, by omega, fun c => ?_⟩
  simp (disch := omega) only [hin, hr, if_true, obind_some, e0]
/- laws.markWrS -/
theorem K100137 (n : Nat) (hn : 1048577 ≤ n) (x0 : List D23) (x1 : Int) (h0 : 0 ≤ x1) (hz : szL z23 x0 ≤ 1048576) (h1 : x1 + 16 * ((szL z23 x0 : Nat) : Int) ≤ 1152921504606846976) : mkR x1 (szL z23 x0) (f100137 n x0 x1) := by
  refine mk_slice (L := f100137L0 n) (G := fun (x2 x1 : Int) (c : Int → Option (Int × Unit)) => if inR (List.length x0) x2 = true then (if inR (List.length x0) x2 = true then (obind (f100151 n ((rd x0 x2).snd) (W (x1 + 1))) fun r0 => c (r0.fst)) else (none)) else (none)) (g := z23) hn (szL_len hz) h0 h1 (fun i hi x1 q0 q1 => ?_) (fun m k i => rfl)
  have hin : inR (List.length x0) (i : Int) = true := by rw [inR_nat]; simpa using hi
  have hr : rd x0 (i : Int) = x0[i] := rd_get hi
  have hzl : z23 x0[i] ≤ 1048576 := szL_le (g := z23) (List.getElem_mem hi) hz
  have hzi : z23 x0[i] = (List.length (x0[i].2) + 0) := rfl
  try dsimp only at q1 hzl ⊢
  obtain ⟨v0, e0, a0, b0⟩ := K100151 n hn (x0[i].snd) (((x1 + 1))) (by omega) (by omega) (by omega)
  refine ⟨v0, by omega, by omega, fun c => ?_⟩
  simp (disch := omega) only [hin, hr, if_true, obind_some, W_same, e0]
/- laws.markDev -/
theorem K100107 (n : Nat) (hn : 1048577 ≤ n) (x0 : List (List UInt8)) (x1 : List D23) (x2 : Int) (x3 : Bool) (x4 : Int) (h0 : 0 ≤ x4) (hz : (szL (fun l : List (UInt8) => l.length) x0 + (szL z23 x1 + 0)) ≤ 1048576) (h1 : x4 + 16 * (((szL (fun l : List (UInt8) => l.length) x0 + (szL z23 x1 + 0)) : Nat) : Int) ≤ 1152921504606846976) : mkR x4 ((szL (fun l : List (UInt8) => l.length) x0 + (szL z23 x1 + 0))) (f100107 n x0 x1 x2 x3 x4) := by
  unfold f100107
  obtain ⟨v0, e0, a0, b0⟩ := K100136 n hn x0 (x4) (by omega) (by omega) (by omega)
  obtain ⟨v1, e1, a1, b1⟩ := K100137 n hn x1 (v0) (by omega) (by omega) (by omega)
  exact ⟨v1, by simp (disch := omega) only [obind_some, e0, e1], by omega, by omega⟩
/- laws.markRowS -/
theorem K100138 (n : Nat) (hn : 1048577 ≤ n) (x0 : List D25) (x1 : Int) (h0 : 0 ≤ x1) (hz : szL z25 x0 ≤ 1048576) (h1 : x1 + 16 * ((szL z25 x0 : Nat) : Int) ≤ 1152921504606846976) : mkR x1 (szL z25 x0) (f100138 n x0 x1) := by
  refine mk_slice (L := f100138L0 n) (G := fun (x2 x1 : Int) (c : Int → Option (Int × Unit)) => obind (f63 n x1) fun r0 => if inR (List.length x0) x2 = true then (if inR (List.length x0) x2 = true then (if inR (List.length x0) x2 = true then (obind (f100151 n ((rd x0 x2).snd.fst.snd) (W (W (x1 + 1) + 1))) fun r1 => if inR (List.length x0) x2 = true then (if inR (List.length x0) x2 = true then (obind (f100151 n ((rd x0 x2).snd.snd.fst.snd) (W (r1.fst + 1))) fun r2 => if inR (List.length x0) x2 = true then (if inR (List.length x0) x2 = true then (c (W (W (r2.fst + 1) + 1))) else (none)) else (none)) else (none)) else (none)) else (none)) else (none)) else (none)) (g := z25) hn (szL_len hz) h0 h1 (fun i hi x1 q0 q1 => ?_) (fun m k i => rfl)
  have hin : inR (List.length x0) (i : Int) = true := by rw [inR_nat]; simpa using hi
  have hr : rd x0 (i : Int) = x0[i] := rd_get hi
  have hzl : z25 x0[i] ≤ 1048576 := szL_le (g := z25) (List.getElem_mem hi) hz
  have hzi : z25 x0[i] = (List.length (x0[i].1) + ((List.length (x0[i].2.1.2) + 0) + ((List.length (x0[i].2.2.1.2) + 0) + 0))) := rfl
  try dsimp only at q1 hzl ⊢
  obtain ⟨s0, t0⟩ := MT n hn (x1) (by omega) (by omega)
  obtain ⟨v1, e1, a1, b1⟩ := K100151 n hn (x0[i].snd.fst.snd) ((((x1 + 1) + 1))) (by omega) (by omega) (by omega)
  obtain ⟨v2, e2, a2, b2⟩ := K100151 n hn (x0[i].snd.snd.fst.snd) (((v1 + 1))) (by omega) (by omega) (by omega)
  refine ⟨((v2 + 1) + 1), by omega, by omega, fun c => ?_⟩
  simp (disch := omega) only [hin, hr, if_true, obind_some, W_same, t0, e1, e2]
/- laws.markMarkS -/
theorem K100139 (n : Nat) (hn : 1048577 ≤ n) (x0 : List D219) (x1 : Int) (h0 : 0 ≤ x1) (hz : List.length x0 ≤ 1048576) (h1 : x1 + 16 * ((List.length x0 : Nat) : Int) ≤ 1152921504606846976) : mkR x1 (List.length x0) (f100139 n x0 x1) := by
  rw [← szL_zero x0] at h1 hz ⊢
  refine mk_slice (L := f100139L0 n) (G := fun (x2 x1 : Int) (c : Int → Option (Int × Unit)) => if inR (List.length x0) x2 = true then (if inR (List.length x0) x2 = true then (if inR (List.length x0) x2 = true then (c (W (W (W (x1 + 1) + 1) + 1))) else (none)) else (none)) else (none)) (g := (fun _ => 0)) hn (szL_len hz) h0 h1 (fun i hi x1 q0 q1 => ?_) (fun m k i => rfl)
  have hin : inR (List.length x0) (i : Int) = true := by rw [inR_nat]; simpa using hi
  have hzl : (fun _ => 0) x0[i] ≤ 1048576 := szL_le (g := (fun _ => 0)) (List.getElem_mem hi) hz
  try dsimp only at q1 hzl ⊢
  refine ⟨(((x1 + 1) + 1) + 1), by omega, by omega, fun c => ?_⟩
  simp (disch := omega) only [hin, if_true, W_same]
/- laws.markTab -/
theorem K100108 (n : Nat) (hn : 1048577 ≤ n) (x0 : List D25) (x1 : Int) (x2 : List D219) (x3 : Int) (h0 : 0 ≤ x3) (hz : (szL z25 x0 + (List.length x2 + 0)) ≤ 1048576) (h1 : x3 + 16 * (((szL z25 x0 + (List.length x2 + 0)) : Nat) : Int) ≤ 1152921504606846976) : mkR x3 ((szL z25 x0 + (List.length x2 + 0))) (f100108 n x0 x1 x2 x3) := by
  unfold f100108
  obtain ⟨v0, e0, a0, b0⟩ := K100138 n hn x0 (x3) (by omega) (by omega) (by omega)
  obtain ⟨v1, e1, a1, b1⟩ := K100139 n hn x2 (v0) (by omega) (by omega) (by omega)
  exact ⟨v1, by simp (disch := omega) only [obind_some, e0, e1], by omega, by omega⟩
/- laws.markStore -/
theorem K100070 (n : Nat) (hn : 1048577 ≤ n) (x0 : List (List UInt8)) (x1 : List D23) (x2 : Int) (x3 : Bool) (x4 : List D25) (x5 : Int) (x6 : List D219) (x7 : Int) (x8 : Int) (x9 : Int) (h0 : 0 ≤ x9) (hz : ((szL (fun l : List (UInt8) => l.length) x0 + (szL z23 x1 + 0)) + ((szL z25 x4 + (List.length x6 + 0)) + 0)) ≤ 1048576) (h1 : x9 + 16 * ((((szL (fun l : List (UInt8) => l.length) x0 + (szL z23 x1 + 0)) + ((szL z25 x4 + (List.length x6 + 0)) + 0)) : Nat) : Int) ≤ 1152921504606846976) : mkR x9 (((szL (fun l : List (UInt8) => l.length) x0 + (szL z23 x1 + 0)) + ((szL z25 x4 + (List.length x6 + 0)) + 0))) (f100070 n x0 x1 x2 x3 x4 x5 x6 x7 x8 x9) := by
  unfold f100070
  obtain ⟨v0, e0, a0, b0⟩ := K100107 n hn x0 x1 x2 x3 (x9) (by omega) (by omega) (by omega)
  obtain ⟨v1, e1, a1, b1⟩ := K100108 n hn x4 x5 x6 (v0) (by omega) (by omega) (by omega)
  exact ⟨v1, by simp (disch := omega) only [obind_some, e0, e1], by omega, by omega⟩
/- laws.markNode -/
theorem K100035 (n : Nat) (hn : 1048577 ≤ n) (x0 : List (List UInt8)) (x1 : List D23) (x2 : Int) (x3 : Bool) (x4 : List D25) (x5 : Int) (x6 : List D219) (x7 : Int) (x8 : Int) (x9 : Int) (x10 : Int) (h0 : 0 ≤ x10) (hz : (((szL (fun l : List (UInt8) => l.length) x0 + (szL z23 x1 + 0)) + ((szL z25 x4 + (List.length x6 + 0)) + 0)) + 0) ≤ 1048576) (h1 : x10 + 16 * (((((szL (fun l : List (UInt8) => l.length) x0 + (szL z23 x1 + 0)) + ((szL z25 x4 + (List.length x6 + 0)) + 0)) + 0) : Nat) : Int) ≤ 1152921504606846976) : mkR x10 ((((szL (fun l : List (UInt8) => l.length) x0 + (szL z23 x1 + 0)) + ((szL z25 x4 + (List.length x6 + 0)) + 0)) + 0)) (f100035 n x0 x1 x2 x3 x4 x5 x6 x7 x8 x9 x10) := by
  unfold f100035
  obtain ⟨v0, e0, a0, b0⟩ := K100070 n hn x0 x1 x2 x3 x4 x5 x6 x7 x8 (x10) (by omega) (by omega) (by omega)
  exact ⟨v0, by simp (disch := omega) only [obind_some, e0], by omega, by omega⟩
end Go.Sym

import Derived.Test.YtgaeiofkkklglaaDoorPFnExactWhole0
import Derived.Test.YtgaeiofkkklglaaDoorBase7
/-! Laws of sizes, copies and comparisons. -/
namespace Go.Sym
open Go
set_option maxRecDepth 100000
set_option linter.unusedVariables false
/- szByteS -/
theorem Z32 (n : Nat) (hn : 1048577 ≤ n) (x0 : List (UInt8)) (left : Int) (h0 : 0 ≤ left) (h1 : left ≤ 1048576) (hf0 : Ty.Fit (.sl (.u8)) x0) : f32 n x0 left = szR left (List.length x0) := by
  exact szR_last h0 h1 hf0.1
/- szCell -/
theorem Z15 (n : Nat) (hn : 1048577 ≤ n) (x0 : Int) (x1 : List (UInt8)) (left : Int) (h0 : 0 ≤ left) (h1 : left ≤ 1048576) (hf1 : Ty.Fit (.sl (.u8)) x1) : f15 n x0 x1 left = szR left ((List.length x1 + 0)) := by
  unfold f15
  rw [Z32 n hn x1 left h0 h1 hf1]
  refine szR_bindK h0 (fun v1 hv1a hv1b => ?_)
  dsimp only
  exact szR_zero hv1a
/- szRow -/
theorem Z5 (n : Nat) (hn : 1048577 ≤ n) (x0 : List UInt8) (x1 : Int) (x2 : List (UInt8)) (x3 : Int) (x4 : List (UInt8)) (x5 : Int) (x6 : Bool) (left : Int) (h0 : 0 ≤ left) (h1 : left ≤ 1048576) (hf0 : Ty.Fit (.str) x0) (hf2 : Ty.Fit (.sl (.u8)) x2) (hf4 : Ty.Fit (.sl (.u8)) x4) : f5 n x0 x1 x2 x3 x4 x5 x6 left = szR left ((List.length x0 + ((List.length x2 + 0) + ((List.length x4 + 0) + 0)))) := by
  unfold f5
  refine szR_lenK h0 h1 hf0 (fun v1 hv1 hv1a hv1b => ?_)
  rw [← hv1]
  rw [Z15 n hn x1 x2 v1 hv1a (Int.le_trans hv1b h1) hf2]
  refine szR_bindK hv1a (fun v2 hv2a hv2b => ?_)
  dsimp only
  rw [Z15 n hn x3 x4 v2 hv2a (Int.le_trans hv2b (Int.le_trans hv1b h1)) hf4]
  refine szR_bindK hv2a (fun v3 hv3a hv3b => ?_)
  dsimp only
  exact szR_zero hv3a
/- toByteS -/
theorem T41 (n : Nat) (hn : 1048577 ≤ n) (x0 : List (UInt8)) (hz : List.length x0 ≤ 1048576) : f41 n x0 = some (x0, ()) := by
  exact to_slice (L := f41L0 n) (F := fun x k => k x) (b := 1) hn (by decide) hz (fun _ _ _ => rfl) (fun m i out => rfl)
/- toCell -/
theorem T21 (n : Nat) (hn : 1048577 ≤ n) (x0 : Int) (x1 : List (UInt8)) (hz : (List.length x1 + 0) ≤ 1048576) : f21 n x0 x1 = some (x0, x1, ()) := by
  unfold f21
  rw [T41 n hn x1 (by have h1 := hz; first | exact h1 | omega), obind_some]
/- toRow -/
theorem T7 (n : Nat) (hn : 1048577 ≤ n) (x0 : List UInt8) (x1 : Int) (x2 : List (UInt8)) (x3 : Int) (x4 : List (UInt8)) (x5 : Int) (x6 : Bool) (hz : (List.length x0 + ((List.length x2 + 0) + ((List.length x4 + 0) + 0))) ≤ 1048576) : f7 n x0 x1 x2 x3 x4 x5 x6 = some (x0, x1, x3, x5, x6, x2, x4, ()) := by
  unfold f7
  rw [T21 n hn x1 x2 (by have h1 := hz; first | exact h1 | omega), obind_some]
  rw [T21 n hn x3 x4 (by have h1 := hz; first | exact h1 | omega), obind_some]
/- eqByteS -/
theorem Q50 (n : Nat) (hn : 1048577 ≤ n) (x0 : List (UInt8)) (hz : List.length x0 ≤ 1048576) : f50 n x0 x0 = some (true, ()) := by
  exact eq_slice (L := f50L0 n) (E := fun x y k => if ((↑x.toNat : Int) != (↑y.toNat : Int)) = true then some (false, ()) else k) hn hz (fun x _ k => by simp) (fun m i => rfl)
/- eqCell -/
theorem Q25 (n : Nat) (hn : 1048577 ≤ n) (x0 : Int) (x1 : List (UInt8)) (hz : (List.length x1 + 0) ≤ 1048576) : f25 n x0 x1 x0 x1 = some (true, ()) := by
  unfold f25
  rw [Q50 n hn x1 (by have h1 := hz; first | exact h1 | omega)]
  simp [obind_some]
/- eqRow -/
theorem Q9 (n : Nat) (hn : 1048577 ≤ n) (x0 : List UInt8) (x1 : Int) (x2 : List (UInt8)) (x3 : Int) (x4 : List (UInt8)) (x5 : Int) (x6 : Bool) (hz : (List.length x0 + ((List.length x2 + 0) + ((List.length x4 + 0) + 0))) ≤ 1048576) : f9 n x0 x1 x2 x3 x4 x5 x6 x0 x1 x2 x3 x4 x5 x6 = some (true, ()) := by
  unfold f9
  rw [Q25 n hn x1 x2 (by have h1 := hz; first | exact h1 | omega)]
  rw [Q25 n hn x3 x4 (by have h1 := hz; first | exact h1 | omega)]
  simp [obind_some]
/- szByteSS -/
theorem Z68 (n : Nat) (hn : 1048577 ≤ n) (x0 : List (List (UInt8))) (left : Int) (h0 : 0 ≤ left) (h1 : left ≤ 1048576) (hf0 : Ty.Fit (.sl (.sl (.u8))) x0) : f68 n x0 left = szR left (szL (fun l : List (UInt8) => l.length) x0) := by
  exact szR_slice (L := f68L0 n) (F := fun x v => f32 n x v) (g := (fun l : List (UInt8) => l.length)) hn h0 h1 hf0.1 (fun x hx v hv0 hv1 => Z32 n hn x v hv0 hv1 (hf0.2 x hx)) (fun m left i => rfl)
/- szWr -/
theorem Z97 (n : Nat) (hn : 1048577 ≤ n) (x0 : Int) (x1 : List (UInt8)) (left : Int) (h0 : 0 ≤ left) (h1 : left ≤ 1048576) (hf1 : Ty.Fit (.sl (.u8)) x1) : f97 n x0 x1 left = szR left ((List.length x1 + 0)) := by
  unfold f97
  rw [Z32 n hn x1 left h0 h1 hf1]
  refine szR_bindK h0 (fun v1 hv1a hv1b => ?_)
  dsimp only
  exact szR_zero hv1a
def z23 (x : D23) : Nat := (List.length (x.2) + 0)
/- szWrS -/
theorem Z69 (n : Nat) (hn : 1048577 ≤ n) (x0 : List (D23)) (left : Int) (h0 : 0 ≤ left) (h1 : left ≤ 1048576) (hf0 : Ty.Fit (.sl (ty23)) x0) : f69 n x0 left = szR left (szL z23 x0) := by
  exact szR_slice (L := f69L0 n) (F := fun x v => f97 n (x.1) (x.2) v) (g := z23) hn h0 h1 hf0.1 (fun x hx v hv0 hv1 => Z97 n hn (x.1) (x.2) v hv0 hv1 (hf0.2 x hx).2) (fun m left i => rfl)
/- szDev -/
theorem Z51 (n : Nat) (hn : 1048577 ≤ n) (x0 : List (List (UInt8))) (x1 : List (D23)) (x2 : Int) (x3 : Bool) (left : Int) (h0 : 0 ≤ left) (h1 : left ≤ 1048576) (hf0 : Ty.Fit (.sl (.sl (.u8))) x0) (hf1 : Ty.Fit (.sl (ty23)) x1) : f51 n x0 x1 x2 x3 left = szR left ((szL (fun l : List (UInt8) => l.length) x0 + (szL z23 x1 + 0))) := by
  unfold f51
  rw [Z68 n hn x0 left h0 h1 hf0]
  refine szR_bindK h0 (fun v1 hv1a hv1b => ?_)
  dsimp only
  rw [Z69 n hn x1 v1 hv1a (Int.le_trans hv1b h1) hf1]
  refine szR_bindK hv1a (fun v2 hv2a hv2b => ?_)
  dsimp only
  exact szR_zero hv2a
def z25 (x : D25) : Nat := (List.length (x.1) + ((List.length (x.2.1.2) + 0) + ((List.length (x.2.2.1.2) + 0) + 0)))
/- szRowS -/
theorem Z70 (n : Nat) (hn : 1048577 ≤ n) (x0 : List (D25)) (left : Int) (h0 : 0 ≤ left) (h1 : left ≤ 1048576) (hf0 : Ty.Fit (.sl (ty25)) x0) : f70 n x0 left = szR left (szL z25 x0) := by
  exact szR_slice (L := f70L0 n) (F := fun x v => f5 n (x.1) (x.2.1.1) (x.2.1.2) (x.2.2.1.1) (x.2.2.1.2) (x.2.2.2.1) (x.2.2.2.2) v) (g := z25) hn h0 h1 hf0.1 (fun x hx v hv0 hv1 => Z5 n hn (x.1) (x.2.1.1) (x.2.1.2) (x.2.2.1.1) (x.2.2.1.2) (x.2.2.2.1) (x.2.2.2.2) v hv0 hv1 (hf0.2 x hx).1 (hf0.2 x hx).2.1.2 (hf0.2 x hx).2.2.1.2) (fun m left i => rfl)
/- szMarkS -/
theorem Z71 (n : Nat) (hn : 1048577 ≤ n) (x0 : List (D126)) (left : Int) (h0 : 0 ≤ left) (h1 : left ≤ 1048576) (hf0 : Ty.Fit (.sl (ty126)) x0) : f71 n x0 left = szR left (List.length x0) := by
  exact szR_last h0 h1 hf0.1
/- szTab -/
theorem Z52 (n : Nat) (hn : 1048577 ≤ n) (x0 : List (D25)) (x1 : Int) (x2 : List (D126)) (left : Int) (h0 : 0 ≤ left) (h1 : left ≤ 1048576) (hf0 : Ty.Fit (.sl (ty25)) x0) (hf2 : Ty.Fit (.sl (ty126)) x2) : f52 n x0 x1 x2 left = szR left ((szL z25 x0 + (List.length x2 + 0))) := by
  unfold f52
  rw [Z70 n hn x0 left h0 h1 hf0]
  refine szR_bindK h0 (fun v1 hv1a hv1b => ?_)
  dsimp only
  rw [Z71 n hn x2 v1 hv1a (Int.le_trans hv1b h1) hf2]
  refine szR_bindK hv1a (fun v2 hv2a hv2b => ?_)
  dsimp only
  exact szR_zero hv2a
/- szStore -/
theorem Z26 (n : Nat) (hn : 1048577 ≤ n) (x0 : List (List (UInt8))) (x1 : List (D23)) (x2 : Int) (x3 : Bool) (x4 : List (D25)) (x5 : Int) (x6 : List (D126)) (x7 : Int) (x8 : Int) (left : Int) (h0 : 0 ≤ left) (h1 : left ≤ 1048576) (hf0 : Ty.Fit (.sl (.sl (.u8))) x0) (hf1 : Ty.Fit (.sl (ty23)) x1) (hf4 : Ty.Fit (.sl (ty25)) x4) (hf6 : Ty.Fit (.sl (ty126)) x6) : f26 n x0 x1 x2 x3 x4 x5 x6 x7 x8 left = szR left (((szL (fun l : List (UInt8) => l.length) x0 + (szL z23 x1 + 0)) + ((szL z25 x4 + (List.length x6 + 0)) + 0))) := by
  unfold f26
  rw [Z51 n hn x0 x1 x2 x3 left h0 h1 hf0 hf1]
  refine szR_bindK h0 (fun v1 hv1a hv1b => ?_)
  dsimp only
  rw [Z52 n hn x4 x5 x6 v1 hv1a (Int.le_trans hv1b h1) hf4 hf6]
  refine szR_bindK hv1a (fun v2 hv2a hv2b => ?_)
  dsimp only
  exact szR_zero hv2a
/- szNode -/
theorem Z10 (n : Nat) (hn : 1048577 ≤ n) (x0 : List (List (UInt8))) (x1 : List (D23)) (x2 : Int) (x3 : Bool) (x4 : List (D25)) (x5 : Int) (x6 : List (D126)) (x7 : Int) (x8 : Int) (x9 : Int) (left : Int) (h0 : 0 ≤ left) (h1 : left ≤ 1048576) (hf0 : Ty.Fit (.sl (.sl (.u8))) x0) (hf1 : Ty.Fit (.sl (ty23)) x1) (hf4 : Ty.Fit (.sl (ty25)) x4) (hf6 : Ty.Fit (.sl (ty126)) x6) : f10 n x0 x1 x2 x3 x4 x5 x6 x7 x8 x9 left = szR left ((((szL (fun l : List (UInt8) => l.length) x0 + (szL z23 x1 + 0)) + ((szL z25 x4 + (List.length x6 + 0)) + 0)) + 0)) := by
  unfold f10
  rw [Z26 n hn x0 x1 x2 x3 x4 x5 x6 x7 x8 left h0 h1 hf0 hf1 hf4 hf6]
  refine szR_bindK h0 (fun v1 hv1a hv1b => ?_)
  dsimp only
  exact szR_zero hv1a
/- toByteSS -/
theorem T74 (n : Nat) (hn : 1048577 ≤ n) (x0 : List (List (UInt8))) (hz : szL (fun l : List (UInt8) => l.length) x0 ≤ 1048576) : f74 n x0 = some (x0, ()) := by
  exact to_slice (L := f74L0 n) (F := fun x k => obind (f41 n x) fun r => k r.1) (b := 24) hn (by decide) (szL_len hz) (fun x hx k => by rw [T41 n hn x (szL_le (g := (fun l : List (UInt8) => l.length)) hx hz), obind_some]) (fun m i out => rfl)
/- toWr -/
theorem T99 (n : Nat) (hn : 1048577 ≤ n) (x0 : Int) (x1 : List (UInt8)) (hz : (List.length x1 + 0) ≤ 1048576) : f99 n x0 x1 = some (x0, x1, ()) := by
  unfold f99
  rw [T41 n hn x1 (by have h1 := hz; first | exact h1 | omega), obind_some]
/- toWrS -/
theorem T75 (n : Nat) (hn : 1048577 ≤ n) (x0 : List (D23)) (hz : szL z23 x0 ≤ 1048576) : f75 n x0 = some (x0, ()) := by
  exact to_slice (L := f75L0 n) (F := fun x k => obind (f99 n (x.1) (x.2)) fun r => k (r.1, r.2.1)) (b := 32) hn (by decide) (szL_len hz) (fun x hx k => by rw [T99 n hn (x.1) (x.2) (szL_le (g := z23) hx hz), obind_some]) (fun m i out => rfl)
/- toDev -/
theorem T54 (n : Nat) (hn : 1048577 ≤ n) (x0 : List (List (UInt8))) (x1 : List (D23)) (x2 : Int) (x3 : Bool) (hz : (szL (fun l : List (UInt8) => l.length) x0 + (szL z23 x1 + 0)) ≤ 1048576) : f54 n x0 x1 x2 x3 = some (x2, x3, x0, x1, ()) := by
  unfold f54
  rw [T74 n hn x0 (by have h1 := hz; first | exact h1 | omega), obind_some]
  rw [T75 n hn x1 (by have h1 := hz; first | exact h1 | omega), obind_some]
/- toRowS -/
theorem T76 (n : Nat) (hn : 1048577 ≤ n) (x0 : List (D25)) (hz : szL z25 x0 ≤ 1048576) : f76 n x0 = some (x0, ()) := by
  exact to_slice (L := f76L0 n) (F := fun x k => obind (f7 n (x.1) (x.2.1.1) (x.2.1.2) (x.2.2.1.1) (x.2.2.1.2) (x.2.2.2.1) (x.2.2.2.2)) fun r => k (r.1, (r.2.1, r.2.2.2.2.2.1), (r.2.2.1, r.2.2.2.2.2.2.1), r.2.2.2.1, r.2.2.2.2.1)) (b := 96) hn (by decide) (szL_len hz) (fun x hx k => by rw [T7 n hn (x.1) (x.2.1.1) (x.2.1.2) (x.2.2.1.1) (x.2.2.1.2) (x.2.2.2.1) (x.2.2.2.2) (szL_le (g := z25) hx hz), obind_some]) (fun m i out => rfl)
/- toMark -/
theorem T100 (n : Nat) (hn : 1048577 ≤ n) (x0 : Int) (x1 : Int) (x2 : Int) (hz : 0 ≤ 1048576) : f100 n x0 x1 x2 = some (x0, x1, x2, ()) := by
  rfl
/- toMarkS -/
theorem T77 (n : Nat) (hn : 1048577 ≤ n) (x0 : List (D126)) (hz : List.length x0 ≤ 1048576) : f77 n x0 = some (x0, ()) := by
  exact to_slice (L := f77L0 n) (F := fun x k => obind (f100 n (x.1) (x.2.1) (x.2.2)) fun r => k (r.1, r.2.1, r.2.2.1)) (b := 24) hn (by decide) hz (fun x hx k => by rw [T100 n hn (x.1) (x.2.1) (x.2.2) (Nat.zero_le _), obind_some]) (fun m i out => rfl)
/- toTab -/
theorem T55 (n : Nat) (hn : 1048577 ≤ n) (x0 : List (D25)) (x1 : Int) (x2 : List (D126)) (hz : (szL z25 x0 + (List.length x2 + 0)) ≤ 1048576) : f55 n x0 x1 x2 = some (x1, x0, x2, ()) := by
  unfold f55
  rw [T76 n hn x0 (by have h1 := hz; first | exact h1 | omega), obind_some]
  rw [T77 n hn x2 (by have h1 := hz; first | exact h1 | omega), obind_some]
/- toStore -/
theorem T29 (n : Nat) (hn : 1048577 ≤ n) (x0 : List (List (UInt8))) (x1 : List (D23)) (x2 : Int) (x3 : Bool) (x4 : List (D25)) (x5 : Int) (x6 : List (D126)) (x7 : Int) (x8 : Int) (hz : ((szL (fun l : List (UInt8) => l.length) x0 + (szL z23 x1 + 0)) + ((szL z25 x4 + (List.length x6 + 0)) + 0)) ≤ 1048576) : f29 n x0 x1 x2 x3 x4 x5 x6 x7 x8 = some (x2, x3, x5, x7, x8, x0, x1, x4, x6, ()) := by
  unfold f29
  rw [T54 n hn x0 x1 x2 x3 (by have h1 := hz; first | exact h1 | omega), obind_some]
  rw [T55 n hn x4 x5 x6 (by have h1 := hz; first | exact h1 | omega), obind_some]
/- toNode -/
theorem T12 (n : Nat) (hn : 1048577 ≤ n) (x0 : List (List (UInt8))) (x1 : List (D23)) (x2 : Int) (x3 : Bool) (x4 : List (D25)) (x5 : Int) (x6 : List (D126)) (x7 : Int) (x8 : Int) (x9 : Int) (hz : (((szL (fun l : List (UInt8) => l.length) x0 + (szL z23 x1 + 0)) + ((szL z25 x4 + (List.length x6 + 0)) + 0)) + 0) ≤ 1048576) : f12 n x0 x1 x2 x3 x4 x5 x6 x7 x8 x9 = some (x2, x3, x5, x7, x8, x9, x0, x1, x4, x6, ()) := by
  unfold f12
  rw [T29 n hn x0 x1 x2 x3 x4 x5 x6 x7 x8 (by have h1 := hz; first | exact h1 | omega), obind_some]
/- eqByteSS -/
theorem Q80 (n : Nat) (hn : 1048577 ≤ n) (x0 : List (List (UInt8))) (hz : szL (fun l : List (UInt8) => l.length) x0 ≤ 1048576) : f80 n x0 x0 = some (true, ()) := by
  exact eq_slice (L := f80L0 n) (E := fun x y k => obind (f50 n x y) fun r => if (!r.1) = true then some (false, ()) else k) hn (szL_len hz) (fun x hx k => by rw [Q50 n hn x (szL_le (g := (fun l : List (UInt8) => l.length)) hx hz), obind_some]; rfl) (fun m i => rfl)
/- eqWr -/
theorem Q102 (n : Nat) (hn : 1048577 ≤ n) (x0 : Int) (x1 : List (UInt8)) (hz : (List.length x1 + 0) ≤ 1048576) : f102 n x0 x1 x0 x1 = some (true, ()) := by
  unfold f102
  rw [Q50 n hn x1 (by have h1 := hz; first | exact h1 | omega)]
  simp [obind_some]
/- eqWrS -/
theorem Q81 (n : Nat) (hn : 1048577 ≤ n) (x0 : List (D23)) (hz : szL z23 x0 ≤ 1048576) : f81 n x0 x0 = some (true, ()) := by
  exact eq_slice (L := f81L0 n) (E := fun x y k => obind (f102 n (x.1) (x.2) (y.1) (y.2)) fun r => if (!r.1) = true then some (false, ()) else k) hn (szL_len hz) (fun x hx k => by rw [Q102 n hn (x.1) (x.2) (szL_le (g := z23) hx hz), obind_some]; rfl) (fun m i => rfl)
/- eqDev -/
theorem Q57 (n : Nat) (hn : 1048577 ≤ n) (x0 : List (List (UInt8))) (x1 : List (D23)) (x2 : Int) (x3 : Bool) (hz : (szL (fun l : List (UInt8) => l.length) x0 + (szL z23 x1 + 0)) ≤ 1048576) : f57 n x0 x1 x2 x3 x0 x1 x2 x3 = some (true, ()) := by
  unfold f57
  rw [Q80 n hn x0 (by have h1 := hz; first | exact h1 | omega)]
  rw [Q81 n hn x1 (by have h1 := hz; first | exact h1 | omega)]
  simp [obind_some]
/- eqRowS -/
theorem Q82 (n : Nat) (hn : 1048577 ≤ n) (x0 : List (D25)) (hz : szL z25 x0 ≤ 1048576) : f82 n x0 x0 = some (true, ()) := by
  exact eq_slice (L := f82L0 n) (E := fun x y k => obind (f9 n (x.1) (x.2.1.1) (x.2.1.2) (x.2.2.1.1) (x.2.2.1.2) (x.2.2.2.1) (x.2.2.2.2) (y.1) (y.2.1.1) (y.2.1.2) (y.2.2.1.1) (y.2.2.1.2) (y.2.2.2.1) (y.2.2.2.2)) fun r => if (!r.1) = true then some (false, ()) else k) hn (szL_len hz) (fun x hx k => by rw [Q9 n hn (x.1) (x.2.1.1) (x.2.1.2) (x.2.2.1.1) (x.2.2.1.2) (x.2.2.2.1) (x.2.2.2.2) (szL_le (g := z25) hx hz), obind_some]; rfl) (fun m i => rfl)
/- eqMark -/
theorem Q103 (n : Nat) (hn : 1048577 ≤ n) (x0 : Int) (x1 : Int) (x2 : Int) (hz : 0 ≤ 1048576) : f103 n x0 x1 x2 x0 x1 x2 = some (true, ()) := by
  unfold f103
  simp
/- eqMarkS -/
theorem Q83 (n : Nat) (hn : 1048577 ≤ n) (x0 : List (D126)) (hz : List.length x0 ≤ 1048576) : f83 n x0 x0 = some (true, ()) := by
  exact eq_slice (L := f83L0 n) (E := fun x y k => obind (f103 n (x.1) (x.2.1) (x.2.2) (y.1) (y.2.1) (y.2.2)) fun r => if (!r.1) = true then some (false, ()) else k) hn hz (fun x hx k => by rw [Q103 n hn (x.1) (x.2.1) (x.2.2) (Nat.zero_le _), obind_some]; rfl) (fun m i => rfl)
/- eqTab -/
theorem Q58 (n : Nat) (hn : 1048577 ≤ n) (x0 : List (D25)) (x1 : Int) (x2 : List (D126)) (hz : (szL z25 x0 + (List.length x2 + 0)) ≤ 1048576) : f58 n x0 x1 x2 x0 x1 x2 = some (true, ()) := by
  unfold f58
  rw [Q82 n hn x0 (by have h1 := hz; first | exact h1 | omega)]
  rw [Q83 n hn x2 (by have h1 := hz; first | exact h1 | omega)]
  simp [obind_some]
/- eqStore -/
theorem Q31 (n : Nat) (hn : 1048577 ≤ n) (x0 : List (List (UInt8))) (x1 : List (D23)) (x2 : Int) (x3 : Bool) (x4 : List (D25)) (x5 : Int) (x6 : List (D126)) (x7 : Int) (x8 : Int) (hz : ((szL (fun l : List (UInt8) => l.length) x0 + (szL z23 x1 + 0)) + ((szL z25 x4 + (List.length x6 + 0)) + 0)) ≤ 1048576) : f31 n x0 x1 x2 x3 x4 x5 x6 x7 x8 x0 x1 x2 x3 x4 x5 x6 x7 x8 = some (true, ()) := by
  unfold f31
  rw [Q57 n hn x0 x1 x2 x3 (by have h1 := hz; first | exact h1 | omega)]
  rw [Q58 n hn x4 x5 x6 (by have h1 := hz; first | exact h1 | omega)]
  simp [obind_some]
/- eqNode -/
theorem Q14 (n : Nat) (hn : 1048577 ≤ n) (x0 : List (List (UInt8))) (x1 : List (D23)) (x2 : Int) (x3 : Bool) (x4 : List (D25)) (x5 : Int) (x6 : List (D126)) (x7 : Int) (x8 : Int) (x9 : Int) (hz : (((szL (fun l : List (UInt8) => l.length) x0 + (szL z23 x1 + 0)) + ((szL z25 x4 + (List.length x6 + 0)) + 0)) + 0) ≤ 1048576) : f14 n x0 x1 x2 x3 x4 x5 x6 x7 x8 x9 x0 x1 x2 x3 x4 x5 x6 x7 x8 x9 = some (true, ()) := by
  unfold f14
  rw [Q31 n hn x0 x1 x2 x3 x4 x5 x6 x7 x8 (by have h1 := hz; first | exact h1 | omega)]
  simp [obind_some]
end Go.Sym

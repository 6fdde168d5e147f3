import Derived.Test.YtgaeiofkkklglaaPFnExactMeantOf0
import Derived.Test.YtgaeiofkkklglaaBase8
/-! Laws of sizes, copies and comparisons. -/
namespace Go.Sym
open Go
set_option maxRecDepth 100000
set_option linter.unusedVariables false
/- szAct -/
theorem Z13 (n : Nat) (hn : 1048577 ≤ n) (x0 : Int) (x1 : Int) (x2 : Int) (x3 : List UInt8) (x4 : List UInt8) (x5 : Int) (left : Int) (h0 : 0 ≤ left) (h1 : left ≤ 1048576) (hf3 : Ty.Fit (.str) x3) (hf4 : Ty.Fit (.str) x4) : f13 n x0 x1 x2 x3 x4 x5 left = szR left ((List.length x3 + (List.length x4 + 0))) := by
  unfold f13
  refine szR_lenK h0 h1 hf3 (fun v1 hv1 hv1a hv1b => ?_)
  rw [← hv1]
  refine szR_lenK hv1a (Int.le_trans hv1b h1) hf4 (fun v2 hv2 hv2a hv2b => ?_)
  rw [← hv2]
  exact szR_zero hv2a
def z34 (x : D34) : Nat := (List.length (x.2.2.2.1) + (List.length (x.2.2.2.2.1) + 0))
/- szActS -/
theorem Z4 (n : Nat) (hn : 1048577 ≤ n) (x0 : List (D34)) (left : Int) (h0 : 0 ≤ left) (h1 : left ≤ 1048576) (hf0 : Ty.Fit (.sl (ty34)) x0) : f4 n x0 left = szR left (szL z34 x0) := by
  exact szR_slice (L := f4L0 n) (F := fun x v => f13 n (x.1) (x.2.1) (x.2.2.1) (x.2.2.2.1) (x.2.2.2.2.1) (x.2.2.2.2.2) v) (g := z34) hn h0 h1 hf0.1 (fun x hx v hv0 hv1 => Z13 n hn (x.1) (x.2.1) (x.2.2.1) (x.2.2.2.1) (x.2.2.2.2.1) (x.2.2.2.2.2) v hv0 hv1 (hf0.2 x hx).2.2.2.1 (hf0.2 x hx).2.2.2.2.1) (fun m left i => rfl)
/- toAct -/
theorem T16 (n : Nat) (hn : 1048577 ≤ n) (x0 : Int) (x1 : Int) (x2 : Int) (x3 : List UInt8) (x4 : List UInt8) (x5 : Int) (hz : (List.length x3 + (List.length x4 + 0)) ≤ 1048576) : f16 n x0 x1 x2 x3 x4 x5 = some (x0, x1, x2, x3, x4, x5, ()) := by
  rfl
/- toActS -/
theorem T6 (n : Nat) (hn : 1048577 ≤ n) (x0 : List (D34)) (hz : szL z34 x0 ≤ 1048576) : f6 n x0 = some (x0, ()) := by
  exact to_slice (L := f6L0 n) (F := fun x k => obind (f16 n (x.1) (x.2.1) (x.2.2.1) (x.2.2.2.1) (x.2.2.2.2.1) (x.2.2.2.2.2)) fun r => k (r.1, r.2.1, r.2.2.1, r.2.2.2.1, r.2.2.2.2.1, r.2.2.2.2.2.1)) (b := 64) hn (by decide) (szL_len hz) (fun x hx k => by rw [T16 n hn (x.1) (x.2.1) (x.2.2.1) (x.2.2.2.1) (x.2.2.2.2.1) (x.2.2.2.2.2) (szL_le (g := z34) hx hz), obind_some]) (fun m i out => rfl)
/- eqMeant -/
theorem Q21 (n : Nat) (hn : 1048577 ≤ n) (x0 : List UInt8) (x1 : List UInt8) (x2 : Int) (hz : (List.length x0 + (List.length x1 + 0)) ≤ 1048576) : f21 n x0 x1 x2 x0 x1 x2 = some (true, ()) := by
  unfold f21
  simp
def z38 (x : D38) : Nat := (List.length (x.1) + (List.length (x.2.1) + 0))
/- eqMeantS -/
theorem Q8 (n : Nat) (hn : 1048577 ≤ n) (x0 : List (D38)) (hz : szL z38 x0 ≤ 1048576) : f8 n x0 x0 = some (true, ()) := by
  exact eq_slice (L := f8L0 n) (E := fun x y k => obind (f21 n (x.1) (x.2.1) (x.2.2) (y.1) (y.2.1) (y.2.2)) fun r => if (!r.1) = true then some (false, ()) else k) hn (szL_len hz) (fun x hx k => by rw [Q21 n hn (x.1) (x.2.1) (x.2.2) (szL_le (g := z38) hx hz), obind_some]; rfl) (fun m i => rfl)
/- eqAct -/
theorem Q22 (n : Nat) (hn : 1048577 ≤ n) (x0 : Int) (x1 : Int) (x2 : Int) (x3 : List UInt8) (x4 : List UInt8) (x5 : Int) (hz : (List.length x3 + (List.length x4 + 0)) ≤ 1048576) : f22 n x0 x1 x2 x3 x4 x5 x0 x1 x2 x3 x4 x5 = some (true, ()) := by
  unfold f22
  simp
/- eqActS -/
theorem Q9 (n : Nat) (hn : 1048577 ≤ n) (x0 : List (D34)) (hz : szL z34 x0 ≤ 1048576) : f9 n x0 x0 = some (true, ()) := by
  exact eq_slice (L := f9L0 n) (E := fun x y k => obind (f22 n (x.1) (x.2.1) (x.2.2.1) (x.2.2.2.1) (x.2.2.2.2.1) (x.2.2.2.2.2) (y.1) (y.2.1) (y.2.2.1) (y.2.2.2.1) (y.2.2.2.2.1) (y.2.2.2.2.2)) fun r => if (!r.1) = true then some (false, ()) else k) hn (szL_len hz) (fun x hx k => by rw [Q22 n hn (x.1) (x.2.1) (x.2.2.1) (x.2.2.2.1) (x.2.2.2.2.1) (x.2.2.2.2.2) (szL_le (g := z34) hx hz), obind_some]; rfl) (fun m i => rfl)
theorem MT (n : Nat) (hn : 1048577 ≤ n) (k : Int) (h0 : 0 ≤ k) (h1 : k ≤ 1152921504606846976) : ∃ r, f23 n k = some (r, ()) := by
  unfold f23
  by_cases hk : k ≤ 0
  · rw [if_pos (by simpa using hk)]
    exact ⟨_, rfl⟩
  · rw [if_neg (by simpa using hk)]
    exact text_loop (L := f23L0 n) (D := fun k => [UInt8.ofNat (IntKind.u8.wrap (W (48 + Int.tmod k 10))).toNat]) (A := #[109].toList) (fun _ => rfl) (by decide) (fun m k s => rfl) 61 n k _ h0 (by omega) h1 (by omega) (by simp)
/- laws.markActS -/
theorem K100010 (n : Nat) (hn : 1048577 ≤ n) (x0 : List D34) (x1 : Int) (h0 : 0 ≤ x1) (hz : szL z34 x0 ≤ 1048576) (h1 : x1 + 16 * ((szL z34 x0 : Nat) : Int) ≤ 1152921504606846976) : mkR x1 (szL z34 x0) (f100010 n x0 x1) := by
  refine mk_slice (L := f100010L0 n) (G := fun (x2 x1 : Int) (c : Int → Option (Int × Unit)) => if inR (List.length x0) x2 = true then (if inR (List.length x0) x2 = true then (if inR (List.length x0) x2 = true then (obind (f23 n (W (W (W (x1 + 1) + 1) + 1))) fun r0 => if inR (List.length x0) x2 = true then (obind (f23 n (W (W (W (W (x1 + 1) + 1) + 1) + 1))) fun r1 => if inR (List.length x0) x2 = true then (if inR (List.length x0) x2 = true then (c (W (W (W (W (W (W (x1 + 1) + 1) + 1) + 1) + 1) + 1))) else (none)) else (none)) else (none)) else (none)) else (none)) else (none)) (g := z34) hn (szL_len hz) h0 h1 (fun i hi x1 q0 q1 => ?_) (fun m k i => rfl)
  have hin : inR (List.length x0) (i : Int) = true := by rw [inR_nat]; simpa using hi
  have hzl : z34 x0[i] ≤ 1048576 := szL_le (g := z34) (List.getElem_mem hi) hz
  have hzi : z34 x0[i] = (List.length (x0[i].2.2.2.1) + (List.length (x0[i].2.2.2.2.1) + 0)) := rfl
  try dsimp only at q1 hzl ⊢
  obtain ⟨s0, t0⟩ := MT n hn (((((x1 + 1) + 1) + 1))) (by omega) (by omega)
  obtain ⟨s1, t1⟩ := MT n hn ((((((x1 + 1) + 1) + 1) + 1))) (by omega) (by omega)
  refine ⟨((((((x1 + 1) + 1) + 1) + 1) + 1) + 1), by omega, by omega, fun c => ?_⟩
  simp (disch := omega) only [hin, if_true, obind_some, W_same, t0, t1]
end Go.Sym

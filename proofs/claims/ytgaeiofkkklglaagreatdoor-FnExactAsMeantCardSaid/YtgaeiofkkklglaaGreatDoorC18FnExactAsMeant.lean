import Derived.Test.YtgaeiofkkklglaaGreatDoorC17FnExactAsMeant
namespace Go.Sym
open Go
set_option maxRecDepth 100000
set_option linter.unusedVariables false
set_option linter.unusedSimpArgs false
def stepM (n : Nat) (l : List MR) (ds : List D32) (i : Nat) : Bool := !(if upB n (rd ds (i : Int)) = true then !nodeM n (W (3 + (i : Int))) l (rd ds (i : Int)) else false)
theorem foldM_len : ∀ (l : List D132) (acc : List MR), (l.foldl evM acc).length ≤ acc.length + l.length
  | [], acc => Nat.le_refl _
  | a :: l, acc => by
    have h1 := foldM_len l (evM acc a)
    have h2 := evM_len acc a
    rw [List.foldl_cons, List.length_cons]
    omega
theorem asmeant_eq (n : Nat) (hn : 1048577 ≤ n) (x0 : Int) (x1 x2 : List Bool) (x3 : List (List UInt8)) (x4 : List D32) (x5 : List D128) (x6 : List D125) (x7 : List D132) (x8 : List (List D132))
    (h4 : x4.length ≤ 1048576) (hd4 : ∀ d ∈ x4, nodeFit d) (h7 : x7.length ≤ 1048576) : ∃ q, f16 n x0 x1 x2 x3 x4 x5 x6 x7 x8 = some (q, ()) ∧ f17 n x0 x1 x2 x3 x4 x5 x6 x7 x8 = some (q, ()) := by
  have hs := spec_loop n hn x7 h7 x7.length 0 n [] (by omega) (by omega) (by simp)
  have hi := impl_loop n hn x7 h7 x7.length 0 n [] (by omega) (by omega) (by simp) List.Pairwise.nil
  rw [List.drop_zero] at hs hi
  have hl : (x7.foldl evM []).length ≤ 1048576 := by
    have := foldM_len x7 []
    simp only [List.length_nil] at this
    omega
  unfold f16 f17 f49 f52
  rw [show (0 : Int) = ((0 : Nat) : Int) from rfl, hs, hi, obind_some, obind_some]
  generalize x7.foldl evM [] = l at hl
  have fit : ∀ i, i < x4.length → nodeFit (rd x4 (i : Int)) := fun i h => by
    rw [rdM_nat h]
    exact hd4 _ (List.getElem_mem h)
  have e1 : f16L0 n n (0, x0, x1, x2, x3, x4, x5, x6, x7, x8, l, ()) = if (List.range x4.length).all (stepM n l x4) = true then some (true, ()) else some (false, ()) :=
    loop_all0 (L := fun m i => f16L0 n m (i, x0, x1, x2, x3, x4, x5, x6, x7, x8, l, ())) (N := x4.length) (by omega) (fun m i hi => by
      have hd : decide ((i : Int) < (x4.length : Int)) = true := by simp; omega
      rw [f16L0]
      simp only [hd, inM_nat hi, if_true, (up_eq n hn _ (fit i hi)).1, node_spec n hn (W (3 + (i : Int))) l hl _ (fit i hi), obind_some, Bool.or_true, W_same (x := (i : Int) + 1) (by omega) (by omega)]
      unfold stepM
      rw [show ((i + 1 : Nat) : Int) = (i : Int) + 1 by omega]
      generalize nodeM n (W (3 + (i : Int))) l (rd x4 (i : Int)) = b2
      generalize upB n (rd x4 (i : Int)) = b1
      cases b1 <;> cases b2 <;> simp [obind_some]) (fun m => by
      have hd : decide ((x4.length : Int) < (x4.length : Int)) = false := by simp
      rw [f16L0]
      simp only [hd, Bool.false_eq_true, if_false])
  have e2 : f17L0 n n (x4, (x4.length : Int), 0, l, ()) = if (List.range x4.length).all (stepM n l x4) = true then some (true, ()) else some (false, ()) :=
    loop_all0 (L := fun m i => f17L0 n m (x4, (x4.length : Int), i, l, ())) (N := x4.length) (by omega) (fun m i hi => by
      have hd : decide ((i : Int) < (x4.length : Int)) = true := by simp; omega
      rw [f17L0]
      have hni := node_impl n hn (f17L0 n m) x4 (x4.length : Int) i l hl _ (fit i hi) (by omega)
      simp only [hd, inM_nat hi, if_true, (up_eq n hn _ (fit i hi)).2, obind_some, W_same (x := (i : Int) + 1) (by omega) (by omega)]
      rw [W_same (x := (i : Int) + 1) (by omega) (by omega)] at hni
      rw [hni]
      unfold stepM
      rw [show ((i + 1 : Nat) : Int) = (i : Int) + 1 by omega]
      generalize nodeM n (W (3 + (i : Int))) l (rd x4 (i : Int)) = b2
      generalize upB n (rd x4 (i : Int)) = b1
      cases b1 <;> cases b2 <;> rfl) (fun m => by
      have hd : decide ((x4.length : Int) < (x4.length : Int)) = false := by simp
      rw [f17L0]
      simp only [hd, Bool.false_eq_true, if_false])
  refine ⟨(List.range x4.length).all (stepM n l x4), e1.trans ?_, e2.trans ?_⟩ <;> cases (List.range x4.length).all (stepM n l x4) <;> rfl
theorem plain5' (n : Nat) (hn : 1048577 ≤ n) (x0 : Int) (x1 x2 : List Bool) (x3 : List (List UInt8)) (x4 : List D32) (x5 : List D128) (x6 : List D125) (x7 : List D132) (x8 : List (List D132))
    (h1 : Ty.Fit (.sl .bool) x1) (h2 : Ty.Fit (.sl .bool) x2) (h3 : Ty.Fit (.sl .str) x3) (h4 : Ty.Fit (.sl ty32) x4) (h5 : Ty.Fit (.sl ty128) x5) (h6 : Ty.Fit (.sl ty125) x6) (h7 : Ty.Fit (.sl ty132) x7) (h8 : Ty.Fit (.sl (.sl ty132)) x8) :
    f5 n x0 x1 x2 x3 x4 x5 x6 x7 x8 = some (true, ()) := by
  unfold f5
  rw [Z11 n hn x0 x1 x2 x3 x4 x5 x6 x7 x8 1048576 (by omega) (by omega) h1 h2 h3 h4 h5 h6 h7 h8]
  refine law_start (fun hz => ?_)
  have l7 : x7.length ≤ 1048576 := szL_len (g := z132) (by omega)
  have l4 : x4.length ≤ 1048576 := szL_len (g := z32) (by omega)
  have l4' : ∀ d ∈ x4, nodeFit d := fun d hd => by
    have := szL_le (g := z32) (N := 1048576) hd (by omega)
    unfold z32 at this
    have hr : szL z79 d.1.2.1.1 ≤ 1048576 := by omega
    refine ⟨szL_len (g := fun l : List UInt8 => l.length) (by omega), szL_len (g := z77) (by omega), szL_len hr, by omega, fun r hrr => ?_⟩
    have h9 := szL_le (N := 1048576) hrr hr
    unfold z79 at h9
    omega
  obtain ⟨q, e1, e2⟩ := asmeant_eq n hn x0 x1 x2 x3 x4 x5 x6 x7 x8 l4 l4' l7
  rw [T13 n hn x0 x1 x2 x3 x4 x5 x6 x7 x8 hz]
  simp only [obind_some, e1, e2, Q15 n hn x0 x1 x2 x3 x4 x5 x6 x7 x8 hz]
  simp
theorem plain5 : ∀ y : F5.T, F5.Fit y → ∃ n, s5.fn n y = some (true, ()) := by
  rintro ⟨x0, x1, x2, x3, x4, x5, x6, x7, x8, _⟩ ⟨_, h1, h2, h3, h4, h5, h6, h7, h8, _⟩
  exact ⟨1048577, (e5 1048577 x0 x1 x2 x3 x4 x5 x6 x7 x8).trans (plain5' 1048577 (Nat.le_refl _) x0 x1 x2 x3 x4 x5 x6 x7 x8 h1 h2 h3 h4 h5 h6 h7 h8)⟩
end Go.Sym

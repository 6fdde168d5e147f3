import Derived.Test.YtgaeiofkkklglaaC14FnExactMeantOf
namespace Go.Sym
open Go
set_option maxRecDepth 100000
set_option linter.unusedVariables false
set_option linter.unusedSimpArgs false
theorem eq_meants (n : Nat) (hn : 1048577 ≤ n) (l : List MR) (hl : l.length ≤ 1048576) : f8 n l l = some (true, ()) :=
  eq_slice (L := f8L0 n) (E := fun x y k => obind (f21 n x.fst x.snd.fst x.snd.snd y.fst y.snd.fst y.snd.snd) fun r0 => if (!r0.fst) = true then some (false, ()) else k) hn hl (fun x _ k => by unfold f21; simp [obind_some]) (fun m i => rfl)
theorem rdn_set {α : Type} [Inhabited α] (l : List α) {i : Nat} (a : α) (h : i < l.length) : rdn (l.set i a) i = a := by
  unfold rdn
  rw [List.getElem?_set_self h]
  rfl
theorem mark_loop (n : Nat) (T : Int → List UInt8) (hT : ∀ k, 0 ≤ k → k ≤ 1073741824 → f23 n k = some (T k, ())) : ∀ (d i m : Nat) (k : Int) (l : List MR), i + d = l.length → d < m → 0 ≤ k → k + 3 * d ≤ 1073741000 → l.length ≤ 1048576 →
    ∃ l', f200011L0 n m (k, (i : Int), l, ()) = some (k + 3 * d, l', ()) ∧ l'.length = l.length ∧ (∀ j, j < i → l'[j]? = l[j]?) ∧ ∀ j : Nat, j < d → l'[i + j]? = some (T (k + 3 * j), T (k + 3 * j + 1), k + 3 * j + 2)
  | _, _, 0, _, _, _, h, _, _, _ => by omega
  | 0, i, m + 1, k, l, hi, _, h0, h1, hl => by
    rw [f200011L0, if_neg (by simp; omega)]
    exact ⟨l, by simp, rfl, fun _ _ => rfl, fun j hj => by omega⟩
  | d + 1, i, m + 1, k, l, hi, hm, h0, h1, hl => by
    have hlt : i < l.length := by omega
    have hs : ∀ a : MR, inR (l.set i a).length (i : Int) = true := fun a => in_nat (by rw [List.length_set]; exact hlt)
    rw [f200011L0, if_pos (by simp; omega), hT k h0 (by omega), obind_some, if_pos (in_nat hlt), W_same (x := k + 1) (by omega) (by omega), hT (k + 1) (by omega) (by omega), obind_some]
    simp only [Int.toNat_natCast, List.set_set, hs, if_true, rdn_set l _ hlt]
    rw [W_same (x := k + 1 + 1) (by omega) (by omega), W_same (x := k + 1 + 1 + 1) (by omega) (by omega), W_same (x := (i : Int) + 1) (by omega) (by omega)]
    obtain ⟨l', e1, e2, e3, e4⟩ := mark_loop n T hT d (i + 1) m (k + 3) (l.set i (T k, T (k + 1), k + 2)) (by simp; omega) (by omega) (by omega) (by omega) (by simpa using hl)
    refine ⟨l', ?_, by simpa using e2, fun j hj => ?_, fun j hj => ?_⟩
    · rw [show k + 1 + 1 + 1 = k + 3 by omega, show (i : Int) + 1 = ((i + 1 : Nat) : Int) by omega, show k + 1 + 1 = k + 2 by omega, e1]
      congr 2
      omega
    · rw [e3 j (by omega), List.getElem?_set_ne (by omega)]
    · cases j with
      | zero =>
        rw [Nat.add_zero, e3 i (by omega), List.getElem?_set_self hlt]
        simp
      | succ j =>
        have := e4 j (by omega)
        rw [show i + (j + 1) = i + 1 + j by omega, this]
        rw [show k + 3 * ((j + 1 : Nat) : Int) = k + 3 + 3 * (j : Int) by omega]
theorem heldm_loop (n : Nat) (T : Int → List UInt8) (hT : ∀ k, 0 ≤ k → k ≤ 1073741824 → f23 n k = some (T k, ())) (l : List MR) (hl : l.length ≤ 1048576)
    (hx : ∀ j : Nat, j < l.length → l[j]? = some (T (1 + 3 * j), T (1 + 3 * j + 1), 1 + 3 * (j : Int) + 2)) : ∀ (d i m : Nat), i + d = l.length → d < m → f12L0 n m (l, 1 + 3 * (i : Int), (i : Int), ()) = some (1 + 3 * (l.length : Int), ())
  | _, _, 0, _, h => by omega
  | 0, i, m + 1, hi, _ => by
    rw [f12L0, if_neg (by simp; omega)]
    have : i = l.length := by omega
    rw [this]
  | d + 1, i, m + 1, hi, hm => by
    have hlt : i < l.length := by omega
    have ht := hx i hlt
    rw [List.getElem?_eq_getElem hlt] at ht
    have ht' := Option.some.inj ht
    rw [f12L0, if_pos (by simp; omega), if_pos (in_nat hlt), hT _ (by omega) (by omega), obind_some, rd_nat hlt, ht', W_same (x := 1 + 3 * (i : Int) + 1) (by omega) (by omega), hT _ (by omega) (by omega), obind_some,
      W_same (x := 1 + 3 * (i : Int) + 1 + 1) (by omega) (by omega), W_same (x := 1 + 3 * (i : Int) + 1 + 1 + 1) (by omega) (by omega), W_same (x := (i : Int) + 1) (by omega) (by omega)]
    have hne : (1 + 3 * (i : Int) + 2 != 1 + 3 * (i : Int) + 1 + 1) = false := by simp; omega
    simp only [beq_self_eq_true, Bool.not_true, Bool.false_eq_true, if_false, in_nat hlt, if_true, hne]
    rw [show 1 + 3 * (i : Int) + 1 + 1 + 1 = 1 + 3 * ((i + 1 : Nat) : Int) by omega, show (i : Int) + 1 = ((i + 1 : Nat) : Int) by omega]
    exact heldm_loop n T hT l hl hx d (i + 1) m (by omega) (by omega)
theorem held_meants (n : Nat) (hn : 1048577 ≤ n) (l : List MR) (hl : l.length ≤ 1048576) : ∃ l', f200011 n 1 l = some (1 + 3 * (l.length : Int), l', ()) ∧ f12 n l' 1 = some (1 + 3 * (l.length : Int), ()) := by
  let T : Int → List UInt8 := fun k => ((f23 n k).map (·.1)).getD []
  have hT : ∀ k, 0 ≤ k → k ≤ 1073741824 → f23 n k = some (T k, ()) := fun k h0 h1 => by
    obtain ⟨r, hr⟩ := MT n hn k h0 (by omega)
    simp only [T, hr, Option.map_some, Option.getD_some]
  obtain ⟨l', e1, e2, _, e4⟩ := mark_loop n T hT l.length 0 n 1 l (by omega) (by omega) (by omega) (by omega) hl
  refine ⟨l', e1, ?_⟩
  have := heldm_loop n T hT l' (by omega) (fun j hj => by
    have := e4 j (by omega)
    rwa [Nat.zero_add] at this) l'.length 0 n (by omega) (by omega)
  rw [e2] at this
  exact this
theorem foldM_len : ∀ (l : List D34) (acc : List MR), (l.foldl evM acc).length ≤ acc.length + l.length
  | [], acc => Nat.le_refl _
  | a :: l, acc => by
    have h1 := foldM_len l (evM acc a)
    have h2 := evM_len acc a
    rw [List.foldl_cons, List.length_cons]
    omega
theorem meant_both (n : Nat) (hn : 1048577 ≤ n) (l : List D34) (hl : l.length ≤ 1048576) : f5 n l = some (l.foldl evM [], ()) ∧ f7 n l = some (l.foldl evM [], ()) := by
  have h1 := spec_loop n hn l hl l.length 0 n [] (by omega) (by omega) (by simp)
  have h2 := impl_loop n hn l hl l.length 0 n [] (by omega) (by omega) (by simp) List.Pairwise.nil
  rw [List.drop_zero] at h1 h2
  exact ⟨h1, h2⟩
theorem core3 (n : Nat) (hn : 1048577 ≤ n) (x0 : List D34) (h0 : Ty.Fit (.sl ty34) x0) : f3 n x0 = some (true, ()) := by
  unfold f3
  rw [Z4 n hn x0 1048576 (by omega) (by omega) h0]
  refine law_start (fun hz => ?_)
  have hl : x0.length ≤ 1048576 := szL_len (g := z34) hz
  obtain ⟨g1, g2⟩ := meant_both n hn x0 hl
  have hr : (x0.foldl evM []).length ≤ 1048576 := by
    have := foldM_len x0 []
    simp only [List.length_nil] at this
    omega
  generalize x0.foldl evM [] = r at g1 g2 hr
  obtain ⟨kk, k1, k2, k3⟩ := K100010 n hn x0 1 (by omega) hz (by omega)
  obtain ⟨l', p1, p2⟩ := held_meants n hn r hr
  have q1 : decide (kk < 0) = false := by simp; omega
  have q2 : decide (1 + 3 * (r.length : Int) < 0) = false := by simp; omega
  have q3 : (1 + 3 * (r.length : Int) != 1 + 3 * (r.length : Int)) = false := by simp
  simp only [T6 n hn x0 hz, obind_some, g1, g2, eq_meants n hn r hr, Q9 n hn x0 hz, k1, p1, p2, q1, q2, q3, Bool.not_true, Bool.false_eq_true, if_false, Bool.true_and, beq_self_eq_true, if_true]
theorem plain3 : ∀ y : F3.T, F3.Fit y → ∃ n, s3.fn n y = some (true, ()) := by
  rintro ⟨x0, _⟩ ⟨h0, _⟩
  exact ⟨1048577, (e3 1048577 x0).trans (core3 1048577 (Nat.le_refl _) x0 h0)⟩
end Go.Sym

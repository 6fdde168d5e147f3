import Derived.Test.YtpbfjemedfnkeaaB3aFnExactShare
namespace Go.Sym
open Go
set_option maxRecDepth 100000
set_option linter.unusedVariables false
def rowsN (x : D56) : List D25 := x.1.2.1.1
def allR (l : List D56) : Nat := (l.map fun x => (rowsN x).length).sum
def newR (l : List D56) : Nat := (l.map fun x => (rowsN x).countP isNew).sum
theorem take_sum {α : Type} (g : α → Nat) (l : List α) (i : Nat) (h : i < l.length) : ((l.take (i + 1)).map g).sum = ((l.take i).map g).sum + g l[i] := by
  rw [List.take_succ_eq_append_getElem h, List.map_append, List.sum_append]
  simp
theorem take_sum_le {α : Type} (g : α → Nat) : ∀ (l : List α) (i : Nat), ((l.take i).map g).sum ≤ (l.map g).sum
  | [], i => by simp
  | x :: l, 0 => by simp
  | x :: l, i + 1 => by
    simp only [List.take_succ_cons, List.map_cons, List.sum_cons]
    have := take_sum_le g l i
    omega
theorem sum_le_sum {α : Type} {f g : α → Nat} : ∀ (l : List α), (∀ x ∈ l, f x ≤ g x) → (l.map f).sum ≤ (l.map g).sum
  | [], _ => by simp
  | x :: l, h => by
    simp only [List.map_cons, List.sum_cons]
    have h1 := h x (by simp)
    have h2 := sum_le_sum l (fun y hy => h y (List.mem_cons_of_mem _ hy))
    omega
theorem newR_le (l : List D56) : newR l ≤ allR l := sum_le_sum l (fun x _ => List.countP_le_length)
theorem cN_cB (l : List D25) : cN l + cB l = ((l.countP isNew : Nat) : Int) := by
  unfold cN cB cnt
  rw [← Int.natCast_add]
  congr 1
  induction l with
  | nil => rfl
  | cons x l ih =>
    simp only [List.countP_cons]
    cases isOld x <;> cases isNew x <;> simp at ih ⊢ <;> omega
theorem cntT_le (l : List D25) : 0 ≤ cN l ∧ 0 ≤ cB l := by unfold cN cB cnt; omega

theorem count_all (n : Nat) {l : List D56} (hl : l.length ≤ 1048576) (ha : allR l ≤ 1048576) :
    ∀ (k i m : Nat), i + k = l.length → k < m → f81L0 n m ((allR (l.take i) : Int), l, (l.length : Int), (i : Int), ()) = some ((allR l : Int), ())
  | k, i, 0, _, h => by omega
  | 0, i, m + 1, hi, _ => by rw [f81L0, if_neg (by simp; omega), List.take_of_length_le (by omega)]
  | k + 1, i, m + 1, hi, hm => by
    have hlt : i < l.length := by omega
    have ih := count_all n hl ha k (i + 1) m (by omega) (by omega)
    have h1 := take_sum (fun x => (rowsN x).length) l i hlt
    have h2 := take_sum_le (fun x => (rowsN x).length) l (i + 1)
    change allR (l.take (i + 1)) = allR (l.take i) + (rowsN l[i]).length at h1
    change allR (l.take (i + 1)) ≤ allR l at h2
    rw [f81L0, if_pos (by simp; omega), if_pos (by rw [inR_nat]; simpa using hlt), W_same (x := (i : Int) + 1) (by omega) (by omega), rd_get hlt]
    have h3 : W ((allR (l.take i) : Int) + ((l[i]).fst.snd.fst.fst.length : Int)) = (allR (l.take (i + 1)) : Int) := by
      rw [h1]
      exact W_same (x := (allR (l.take i) : Int) + ((rowsN l[i]).length : Int)) (by omega) (by omega)
    rw [h3]
    exact ih
theorem spec_share (n : Nat) (hn : 1048577 ≤ n) {l : List D56} (hl : l.length ≤ 1048576) (ha : allR l ≤ 1048576) (y3 : Int) (y4 y5 : List Bool) (y6 : List (List UInt8)) (y8 : List D176) (y9 : List D173) (y10 : List D112) (y11 : List (List D112)) :
    ∀ (k i m : Nat), i + k = l.length → k < m → f43L0 n m ((allR (l.take i) : Int), (newR (l.take i) : Int), (i : Int), y3, y4, y5, y6, l, y8, y9, y10, y11, ()) =
      if ((allR l : Int) == 0) = true then some (100, ()) else some (W ((W (100 * (newR l : Int))).tdiv (allR l : Int)), ())
  | k, i, 0, _, h => by omega
  | 0, i, m + 1, hi, _ => by
    rw [f43L0, if_neg (by simp; omega), List.take_of_length_le (by omega)]
    by_cases h0 : ((allR l : Int) == 0) = true
    · rw [if_pos h0, if_pos h0]
    · rw [if_neg h0, if_neg h0, if_pos (by simpa using h0)]
  | k + 1, i, m + 1, hi, hm => by
    have hlt : i < l.length := by omega
    have ih := spec_share n hn hl ha y3 y4 y5 y6 y8 y9 y10 y11 k (i + 1) m (by omega) (by omega)
    have h1 := take_sum (fun x => (rowsN x).length) l i hlt
    have h2 := take_sum_le (fun x => (rowsN x).length) l (i + 1)
    have h4 := take_sum (fun x => (rowsN x).countP isNew) l i hlt
    change allR (l.take (i + 1)) = allR (l.take i) + (rowsN l[i]).length at h1
    change allR (l.take (i + 1)) ≤ allR l at h2
    change newR (l.take (i + 1)) = newR (l.take i) + (rowsN l[i]).countP isNew at h4
    have h5 := newR_le (l.take (i + 1))
    have h6 := cN_cB (rowsN l[i])
    have h7 := cntT_le (rowsN l[i])
    have hin : inR l.length (i : Int) = true := by rw [inR_nat]; simpa using hlt
    rw [f43L0, if_pos (by simp; omega), if_pos hin, W_same (x := (i : Int) + 1) (by omega) (by omega), rd_get hlt]
    have hlen : (l[i]).fst.snd.fst.fst.length ≤ 1048576 := (show (rowsN l[i]).length ≤ 1048576 by omega)
    rw [tally_spec n hn _ _ _ _ _ _ _ _ _ _ hlen, obind_some, if_pos hin]
    have e1 : W ((allR (l.take i) : Int) + ((l[i]).fst.snd.fst.fst.length : Int)) = (allR (l.take (i + 1)) : Int) := by
      rw [h1]
      exact W_same (x := (allR (l.take i) : Int) + ((rowsN l[i]).length : Int)) (by omega) (by omega)
    have e2 : W (W ((newR (l.take i) : Int) + cN (rowsN l[i])) + cB (rowsN l[i])) = (newR (l.take (i + 1)) : Int) := by
      rw [W_same (x := (newR (l.take i) : Int) + cN (rowsN l[i])) (by omega) (by omega), W_same (by omega) (by omega)]
      omega
    have e2' : W (W ((newR (l.take i) : Int) + cN (l[i]).fst.snd.fst.fst) + cB (l[i]).fst.snd.fst.fst) = (newR (l.take (i + 1)) : Int) := e2
    simp only [e1, e2']
    exact ih
theorem impl_inner (n : Nat) (g0 : Int × Int × List D56 × Int × Int × Unit → Option (Int × Unit)) {r : List D25} (hr : r.length ≤ 1048576) (x0 x3 x4 : Int) (x2 : List D56) (c : Nat) (hc : c ≤ 1048576) :
    ∀ (k i m : Nat), i + k = r.length → k < m → f44L1 n g0 m (x0, (c : Int) + (((r.take i).countP isNew : Nat) : Int), x2, x3, x4, r, (r.length : Int), (i : Int), ()) = g0 (x0, (c : Int) + ((r.countP isNew : Nat) : Int), x2, x3, W (x4 + 1), ())
  | k, i, 0, _, h => by omega
  | 0, i, m + 1, hi, _ => by rw [f44L1, if_neg (by simp; omega), List.take_of_length_le (by omega)]
  | k + 1, i, m + 1, hi, hm => by
    have hlt : i < r.length := by omega
    have ih := impl_inner n g0 hr x0 x3 x4 x2 c hc k (i + 1) m (by omega) (by omega)
    have h1 := cnt_snoc isNew r i hlt
    have h2 := cnt_le isNew r i
    unfold cnt at h1 h2
    rw [f44L1, if_pos (by simp; omega), if_pos (by rw [inR_nat]; simpa using hlt), W_same (x := (i : Int) + 1) (by omega) (by omega), rd_get hlt]
    obtain ⟨q, hq, _, hq2, _⟩ := has_bits r[i].2.2.2.1
    have hN : isNew r[i] = (((q &&& 2 : Nat) : Int) == 2) := by unfold isNew; rw [hq2]
    have h3 : W ((BitVec.ofInt IntKind.i64.bits r[i].2.2.2.1 &&& BitVec.ofInt IntKind.i64.bits 2).toNat : Int) = ((q &&& 2 : Nat) : Int) := hq2
    rw [h3]
    rw [hN] at h1
    rw [h1] at ih
    have w1 := W_same (x := (c : Int) + (((r.take i).countP isNew : Nat) : Int) + 1) (by omega) (by omega)
    rw [w1]
    match q, hq with
    | 0, _ => simp at ih ⊢; exact ih
    | 1, _ => simp at ih ⊢; exact ih
    | 2, _ => simp at ih ⊢; rw [Int.add_assoc]; exact ih
    | 3, _ => simp at ih ⊢; rw [Int.add_assoc]; exact ih
theorem impl_share (n : Nat) (hn : 1048577 ≤ n) {l : List D56} (hl : l.length ≤ 1048576) (ha : allR l ≤ 1048576) (h0 : ¬ ((allR l : Int) == 0) = true) :
    ∀ (k i m : Nat), i + k = l.length → k < m → f44L0 n m ((allR l : Int), (newR (l.take i) : Int), l, (l.length : Int), (i : Int), ()) = some (W ((W (100 * (newR l : Int))).tdiv (allR l : Int)), ())
  | k, i, 0, _, h => by omega
  | 0, i, m + 1, hi, _ => by rw [f44L0, if_neg (by simp; omega), List.take_of_length_le (by omega), if_pos (by simpa using h0)]
  | k + 1, i, m + 1, hi, hm => by
    have hlt : i < l.length := by omega
    have ih := impl_share n hn hl ha h0 k (i + 1) m (by omega) (by omega)
    have h1 := take_sum (fun x => (rowsN x).length) l i hlt
    have h2 := take_sum_le (fun x => (rowsN x).length) l (i + 1)
    have h4 := take_sum (fun x => (rowsN x).countP isNew) l i hlt
    change allR (l.take (i + 1)) = allR (l.take i) + (rowsN l[i]).length at h1
    change allR (l.take (i + 1)) ≤ allR l at h2
    change newR (l.take (i + 1)) = newR (l.take i) + (rowsN l[i]).countP isNew at h4
    have h5 := newR_le (l.take (i + 1))
    rw [f44L0, if_pos (by simp; omega), if_pos (by rw [inR_nat]; simpa using hlt), rd_get hlt]
    have h6 := impl_inner n (f44L0 n m) (r := rowsN l[i]) (by omega) (allR l : Int) (l.length : Int) (i : Int) l (newR (l.take i)) (by omega) (rowsN l[i]).length 0 n (by omega) (by omega)
    simp only [List.take_zero, List.countP_nil, Int.natCast_zero, Int.add_zero] at h6
    refine Eq.trans h6 ?_
    rw [W_same (x := (i : Int) + 1) (by omega) (by omega), ← Int.natCast_add, ← h4]
    exact ih
theorem share_eq (n : Nat) (hn : 1048577 ≤ n) (x0 : Int) (x1 x2 : List Bool) (x3 : List (List UInt8)) (x4 : List D56) (x5 : List D176) (x6 : List D173) (x7 : List D112) (x8 : List (List D112)) (hl : x4.length ≤ 1048576) (ha : allR x4 ≤ 1048576) :
    ∃ v, f43 n x0 x1 x2 x3 x4 x5 x6 x7 x8 = some (v, ()) ∧ f44 n x0 x1 x2 x3 x4 x5 x6 x7 x8 = some (v, ()) := by
  have h1 := spec_share n hn hl ha x0 x1 x2 x3 x5 x6 x7 x8 x4.length 0 n (by omega) (by omega)
  have h2 := count_all n hl ha x4.length 0 n (by omega) (by omega)
  have h1' : f43 n x0 x1 x2 x3 x4 x5 x6 x7 x8 = _ := h1
  have h2' : f81 n x0 x1 x2 x3 x4 x5 x6 x7 x8 = some ((allR x4 : Int), ()) := h2
  rw [h1']
  unfold f44
  rw [h2', obind_some]
  by_cases h0 : ((allR x4 : Int) == 0) = true
  · exact ⟨100, by rw [if_pos h0], by simp only [h0, if_true]⟩
  · have h3 := impl_share n hn hl ha h0 x4.length 0 n (by omega) (by omega)
    exact ⟨_, by rw [if_neg h0], by rw [if_neg h0]; exact h3⟩
theorem allR_le {l : List D56} {N : Nat} (h : szL z56 l ≤ N) : allR l ≤ N := by
  have h1 : allR l ≤ (l.map z56).sum := sum_le_sum l (fun x _ => by
    have : (rowsN x).length ≤ szL z25 (rowsN x) := by unfold szL; omega
    have h2 : szL z25 (rowsN x) ≤ z56 x := by unfold z56 rowsN; omega
    omega)
  unfold szL at h
  omega
theorem plain9 : ∀ y : F9.T, F9.Fit y → ∃ n, s9.fn n y = some (true, ()) := by
  rintro ⟨x0, x1, x2, x3, x4, x5, x6, x7, x8, _⟩ ⟨_, h1, h2, h3, h4, h5, h6, h7, h8, _⟩
  have hn : 1048577 ≤ 1048577 := Nat.le_refl _
  refine ⟨1048577, (e9 1048577 x0 x1 x2 x3 x4 x5 x6 x7 x8).trans ?_⟩
  unfold f9
  rw [Z38 1048577 hn x0 x1 x2 x3 x4 x5 x6 x7 x8 1048576 (by omega) (by omega) h1 h2 h3 h4 h5 h6 h7 h8]
  refine law_start (fun hz => ?_)
  have hz4 : szL z56 x4 ≤ 1048576 := by omega
  obtain ⟨v, g1, g2⟩ := share_eq 1048577 hn x0 x1 x2 x3 x4 x5 x6 x7 x8 (szL_len hz4) (allR_le hz4)
  simp only [T40 1048577 hn x0 x1 x2 x3 x4 x5 x6 x7 x8 hz, obind_some, g1, g2, Q42 1048577 hn x0 x1 x2 x3 x4 x5 x6 x7 x8 hz]
  simp
end Go.Sym

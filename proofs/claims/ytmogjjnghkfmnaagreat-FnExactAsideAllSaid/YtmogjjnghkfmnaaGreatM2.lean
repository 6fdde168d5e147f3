import Derived.Test.YtmogjjnghkfmnaaGreatM1
/-! Plain laws for marking. -/
namespace Go.Sym
open Go
theorem szL_zero {α : Type} (l : List α) : szL (fun _ : α => 0) l = l.length := by
  unfold szL
  have : (l.map fun _ : α => 0).sum = 0 := by
    induction l with
    | nil => rfl
    | cons x l ih => rw [List.map_cons, List.sum_cons, ih]
  omega
/-- A mark's number grows by no more than so much. -/
def mkR (k : Int) (s : Nat) (r : Option (Int × Unit)) : Prop := ∃ v, r = some (v, ()) ∧ k ≤ v ∧ v ≤ k + 16 * s
theorem mk_loop {α : Type} {L : Nat → List α × Int × Int × Unit → Option (Int × Unit)} {G : Int → Int → (Int → Option (Int × Unit)) → Option (Int × Unit)} {g : α → Nat} {l : List α} (hl : l.length ≤ 1048576)
    (hG : ∀ (i : Nat) (hi : i < l.length) (k : Int), 0 ≤ k → k + 16 * (1 + g l[i]) ≤ 1152921504606846976 → ∃ v, k ≤ v ∧ v ≤ k + 16 * (1 + g l[i]) ∧ ∀ c, G i k c = c v)
    (hL : ∀ m k i, L (m + 1) (l, k, i, ()) = if decide (i < (l.length : Int)) = true then G i k (fun v => L m (l, v, W (i + 1), ())) else some (k, ())) :
    ∀ (d i m : Nat) (k : Int), i + d = l.length → d < m → 0 ≤ k → k + 16 * (d + ((l.drop i).map g).sum : Nat) ≤ 1152921504606846976 → mkR k (d + ((l.drop i).map g).sum) (L m (l, k, (i : Int), ()))
  | d, i, 0, k, _, h, _, _ => by omega
  | 0, i, m + 1, k, hi, _, h0, _ => by
    rw [hL, if_neg (by simp; omega)]
    exact ⟨k, rfl, by omega, by omega⟩
  | d + 1, i, m + 1, k, hi, hm, h0, h1 => by
    have hlt : i < l.length := by omega
    have hs : ((l.drop i).map g).sum = g l[i] + ((l.drop (i + 1)).map g).sum := by rw [List.drop_eq_getElem_cons hlt, List.map_cons, List.sum_cons]
    rw [hs] at h1 ⊢
    obtain ⟨v, h2, h3, h4⟩ := hG i hlt k h0 (by omega)
    rw [hL, if_pos (by simp; omega), h4, W_same (by omega) (by omega)]
    obtain ⟨v', e, h5, h6⟩ := mk_loop hl hG hL d (i + 1) m v (by omega) (by omega) (by omega) (by omega)
    exact ⟨v', e, by omega, by omega⟩
theorem mk_slice {α : Type} {L : Nat → List α × Int × Int × Unit → Option (Int × Unit)} {G : Int → Int → (Int → Option (Int × Unit)) → Option (Int × Unit)} {g : α → Nat} {l : List α} {n : Nat} {k : Int} (hn : 1048577 ≤ n) (hl : l.length ≤ 1048576) (h0 : 0 ≤ k) (h1 : k + 16 * (szL g l : Nat) ≤ 1152921504606846976)
    (hG : ∀ (i : Nat) (hi : i < l.length) (k : Int), 0 ≤ k → k + 16 * (1 + g l[i]) ≤ 1152921504606846976 → ∃ v, k ≤ v ∧ v ≤ k + 16 * (1 + g l[i]) ∧ ∀ c, G i k c = c v)
    (hL : ∀ m k i, L (m + 1) (l, k, i, ()) = if decide (i < (l.length : Int)) = true then G i k (fun v => L m (l, v, W (i + 1), ())) else some (k, ())) : mkR k (szL g l) (L n (l, k, 0, ())) := by
  have := mk_loop hl hG hL l.length 0 n k (by omega) (by omega) h0 (by simpa [szL] using h1)
  simpa [szL] using this

/-! ### a row of values that tell their place -/
theorem own_loop {α : Type} {L : Nat → Int × Int × List α × Unit → Option (Int × List α × Unit)} {T : Int → α} (hL : ∀ m k i l, 0 ≤ k → k ≤ 1073741824 → L (m + 1) (k, i, l, ()) = if decide (i < (l.length : Int)) = true then (if inR l.length i = true then L m (W (k + 1), W (i + 1), l.set i.toNat (T k), ()) else none) else some (k, l, ())) :
    ∀ (d i m : Nat) (k : Int) (l : List α), i + d = l.length → d < m → 0 ≤ k → k + d ≤ 1073741824 → l.length ≤ 1048576 →
    ∃ l', L m (k, (i : Int), l, ()) = some (k + d, l', ()) ∧ l'.length = l.length ∧ (∀ j, j < i → l'[j]? = l[j]?) ∧ ∀ j, j < d → l'[i + j]? = some (T (k + j))
  | d, i, 0, k, l, _, h, _, _, _ => by omega
  | 0, i, m + 1, k, l, hi, _, h0, h1, hl => by
    rw [hL m k i l h0 (by omega), if_neg (by simp; omega)]
    exact ⟨l, by simp, rfl, fun _ _ => rfl, fun j hj => by omega⟩
  | d + 1, i, m + 1, k, l, hi, hm, h0, h1, hl => by
    have hlt : i < l.length := by omega
    rw [hL m k i l h0 (by omega), if_pos (by simp; omega), if_pos (by rw [inR_nat]; simpa using hlt), W_same (by omega) (by omega), W_same (by omega) (by omega)]
    rw [show ((i : Int)).toNat = i by simp]
    obtain ⟨l', e1, e2, e3, e4⟩ := own_loop hL d (i + 1) m (k + 1) (l.set i (T k)) (by simp; omega) (by omega) (by omega) (by omega) (by simpa using hl)
    refine ⟨l', ?_, by simpa using e2, fun j hj => ?_, fun j hj => ?_⟩
    · have : ((i : Int) + 1) = ((i + 1 : Nat) : Int) := by omega
      rw [this, e1]
      have : k + 1 + (d : Int) = k + ((d + 1 : Nat) : Int) := by omega
      rw [this]
    · rw [e3 j (by omega), List.getElem?_set_ne (by omega)]
    · cases j with
      | zero =>
        rw [Nat.add_zero, e3 i (by omega), List.getElem?_set_self hlt]
        simp
      | succ j =>
        have := e4 j (by omega)
        rw [show i + (j + 1) = i + 1 + j by omega, this]
        congr 2
        omega
theorem own_slice {α : Type} {L : Nat → Int × Int × List α × Unit → Option (Int × List α × Unit)} {T : Int → α} {n : Nat} {l : List α} (hn : 1048577 ≤ n) (hl : l.length ≤ 1048576) (hL : ∀ m k i l, 0 ≤ k → k ≤ 1073741824 → L (m + 1) (k, i, l, ()) = if decide (i < (l.length : Int)) = true then (if inR l.length i = true then L m (W (k + 1), W (i + 1), l.set i.toNat (T k), ()) else none) else some (k, l, ())) :
    ∃ l', L n (1, 0, l, ()) = some (1 + (l.length : Int), l', ()) ∧ l'.length = l.length ∧ ∀ j, j < l.length → l'[j]? = some (T (1 + j)) := by
  obtain ⟨l', e1, e2, _, e4⟩ := own_loop hL l.length 0 n 1 l (by omega) (by omega) (by omega) (by omega) hl
  exact ⟨l', e1, e2, fun j hj => by have := e4 j hj; rwa [Nat.zero_add] at this⟩
theorem held_loop {α : Type} [Inhabited α] {H : Nat → List α × Int × Int × Unit → Option (Int × Unit)} {T : Int → α} {l : List α} (hl : l.length ≤ 1048576) {E : α → α → Bool} (hE : ∀ x, E x x = true)
    (hT : ∀ j : Nat, j < l.length → l[j]? = some (T (1 + j)))
    (hH : ∀ m k i, 0 ≤ k → k ≤ 1073741824 → H (m + 1) (l, k, i, ()) = if decide (i < (l.length : Int)) = true then (if inR l.length i = true then (if (!E (rd l i) (T k)) = true then some (-1, ()) else H m (l, W (k + 1), W (i + 1), ())) else none) else some (k, ())) :
    ∀ (d i m : Nat), i + d = l.length → d < m → H m (l, 1 + (i : Int), (i : Int), ()) = some (1 + (l.length : Int), ())
  | d, i, 0, _, h => by omega
  | 0, i, m + 1, hi, _ => by
    rw [hH m _ _ (by omega) (by omega), if_neg (by simp; omega)]
    have : i = l.length := by omega
    rw [this]
  | d + 1, i, m + 1, hi, hm => by
    have hlt : i < l.length := by omega
    have ht : l[i] = T (1 + i) := by
      have := hT i hlt
      rw [List.getElem?_eq_getElem hlt] at this
      exact Option.some.inj this
    rw [hH m _ _ (by omega) (by omega), if_pos (by simp; omega), if_pos (by rw [inR_nat]; simpa using hlt), rd_get hlt, ht, hE, if_neg (by simp), W_same (by omega) (by omega), W_same (by omega) (by omega)]
    have e1 : 1 + (i : Int) + 1 = 1 + ((i + 1 : Nat) : Int) := by omega
    have e2 : (i : Int) + 1 = ((i + 1 : Nat) : Int) := by omega
    rw [e1, e2]
    exact held_loop hl hE hT hH d (i + 1) m (by omega) (by omega)
theorem held_slice {α : Type} [Inhabited α] {H : Nat → List α × Int × Int × Unit → Option (Int × Unit)} {T : Int → α} {l : List α} {n : Nat} (hn : 1048577 ≤ n) (hl : l.length ≤ 1048576) {E : α → α → Bool} (hE : ∀ x, E x x = true)
    (hT : ∀ j : Nat, j < l.length → l[j]? = some (T (1 + j)))
    (hH : ∀ m k i, 0 ≤ k → k ≤ 1073741824 → H (m + 1) (l, k, i, ()) = if decide (i < (l.length : Int)) = true then (if inR l.length i = true then (if (!E (rd l i) (T k)) = true then some (-1, ()) else H m (l, W (k + 1), W (i + 1), ())) else none) else some (k, ())) :
    H n (l, 1, 0, ()) = some (1 + (l.length : Int), ()) := by
  have := held_loop hl hE hT hH l.length 0 n (by omega) (by omega)
  simpa using this

/-! ### a number's text -/
theorem text_loop {L : Nat → Int × List UInt8 × Unit → Option (List UInt8 × Unit)} {D : Int → List UInt8} (hD : ∀ k, (D k).length = 1) {A : List UInt8} (hA : A.length ≤ 100)
    (hL : ∀ m k s, L (m + 1) (k, s, ()) = if decide (k > 0) = true then (if decide ((D k).length + List.length s ≤ 9223372036854775807) = true then L m (W (Int.tdiv k 10), D k ++ s, ()) else none) else (if decide (A.length + List.length s ≤ 9223372036854775807) = true then some (A ++ s, ()) else none)) :
    ∀ (j m : Nat) (k : Int) (s : List UInt8), 0 ≤ k → k < 2 ^ j → k ≤ 1152921504606846976 → j < m → s.length + j ≤ 1000 → ∃ r, L m (k, s, ()) = some (r, ())
  | j, 0, k, s, _, _, _, h, _ => by omega
  | 0, m + 1, k, s, h0, h1, _, _, hs => by
    rw [hL, if_neg (by simp at h1 ⊢; omega), if_pos (by simp; omega)]
    exact ⟨_, rfl⟩
  | j + 1, m + 1, k, s, h0, h1, h2, hm, hs => by
    rw [hL]
    by_cases hk : k > 0
    · rw [if_pos (by simpa using hk), if_pos (by rw [hD]; simp; omega)]
      have hd : Int.tdiv k 10 = k / 10 := Int.tdiv_eq_ediv_of_nonneg h0
      rw [hd, W_same (by omega) (by omega)]
      refine text_loop hD hA hL j m (k / 10) _ (by omega) ?_ (by omega) (by omega) (by rw [List.length_append, hD]; omega)
      rw [Int.pow_succ] at h1
      omega
    · rw [if_neg (by simpa using hk), if_pos (by simp; omega)]
      exact ⟨_, rfl⟩
end Go.Sym

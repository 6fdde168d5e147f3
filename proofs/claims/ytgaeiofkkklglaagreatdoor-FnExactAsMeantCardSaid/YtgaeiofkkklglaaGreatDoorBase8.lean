import Derived.Test.YtgaeiofkkklglaaGreatDoorBase6
import Derived.Test.YtgaeiofkkklglaaGreatDoorBase7
/-! Plain laws for sizes, copies and comparisons. -/
namespace Go.Sym
open Go
theorem W_same {x : Int} (h0 : -9223372036854775808 ≤ x) (h1 : x ≤ 9223372036854775807) : W x = x := by
  show IntKind.i64.wrap x = x
  rw [IntKind.wrap_i64]
  omega
theorem obind_some {α β : Type} (a : α) (f : α → Option β) : obind (some a) f = f a := by rw [obind_eq]; rfl
theorem obind_none {α β : Type} (f : α → Option β) : obind none f = none := by rw [obind_eq]; rfl
theorem rd_get {α : Type} [Inhabited α] {l : List α} {i : Nat} (h : i < l.length) : rd l (i : Int) = l[i] := by
  unfold rd
  simp [h]
theorem inR_nat {n i : Nat} : inR n (i : Int) = decide (i < n) := by
  unfold inR
  simp

/-! ### sizes -/
/-- What is left behind a size: -1, where it is too great. -/
def szR (left : Int) (s : Nat) : Option (Int × Unit) := some (if (s : Int) ≤ left then left - s else -1, ())
def szL {α : Type} (g : α → Nat) (l : List α) : Nat := l.length + (l.map g).sum
theorem szR_zero {v : Int} (h : 0 ≤ v) : some (v, ()) = szR v 0 := by
  unfold szR
  rw [if_pos (by simpa using h)]
  simp
theorem szR_bind {left : Int} {s s' : Nat} {k : Int → Option (Int × Unit)} (_h0 : 0 ≤ left) (hk : ∀ v, 0 ≤ v → v ≤ left → k v = szR v s') :
    (obind (szR left s) fun r => if decide (r.1 < 0) = true then some (-1, ()) else k r.1) = szR left (s + s') := by
  unfold szR
  rw [obind_some]
  simp only []
  by_cases h : (s : Int) ≤ left
  · rw [if_pos h, if_neg (by simp; omega), hk _ (by omega) (by omega)]
    unfold szR
    congr 2
    by_cases h2 : (s' : Int) ≤ left - s
    · rw [if_pos h2, if_pos (by omega)]
      omega
    · rw [if_neg h2, if_neg (by omega)]
  · rw [if_neg h, if_pos (by simp), if_neg (by omega)]
theorem szR_len {left : Int} {n s' : Nat} {k : Int → Option (Int × Unit)} (h0 : 0 ≤ left) (h1 : left ≤ 1048576) (hn : n ≤ maxLen) (hk : ∀ v, 0 ≤ v → v ≤ left → k v = szR v s') :
    (if decide (W (left - (n : Int)) < 0) = true then some (-1, ()) else k (W (left - (n : Int)))) = szR left (n + s') := by
  rw [maxLen_eq] at hn
  rw [W_same (by omega) (by omega)]
  have := szR_bind (s := n) h0 hk
  rw [← this]
  unfold szR
  rw [obind_some]
  by_cases h : (n : Int) ≤ left
  · simp only [if_pos h]
  · simp only [if_neg h]
    rw [if_pos (by simp; omega)]
    simp
theorem szR_bindK {left : Int} {s s' : Nat} {k : Int × Unit → Option (Int × Unit)} (h0 : 0 ≤ left) (hk : ∀ v, 0 ≤ v → v ≤ left → k (v, ()) = szR v s') :
    (obind (szR left s) fun r => if decide (r.fst < 0) = true then some (-1, ()) else k r) = szR left (s + s') :=
  szR_bind (k := fun v => k (v, ())) h0 hk
theorem szR_lenK {left : Int} {n s' : Nat} {K : Option (Int × Unit)} (h0 : 0 ≤ left) (h1 : left ≤ 1048576) (hn : n ≤ maxLen) (hk : ∀ v, v = W (left - (n : Int)) → 0 ≤ v → v ≤ left → K = szR v s') :
    (if decide (W (left - (n : Int)) < 0) = true then some (-1, ()) else K) = szR left (n + s') := by
  have hn' := hn
  rw [maxLen_eq] at hn'
  by_cases h : (n : Int) ≤ left
  · have hw : W (left - (n : Int)) = left - (n : Int) := W_same (by omega) (by omega)
    rw [hk _ hw.symm (by omega) (by omega), hw, if_neg (by simp; omega)]
    unfold szR
    congr 2
    by_cases h2 : (s' : Int) ≤ left - n
    · rw [if_pos h2, if_pos (by omega)]
      omega
    · rw [if_neg h2, if_neg (by omega)]
  · rw [W_same (by omega) (by omega), if_pos (by simp; omega)]
    unfold szR
    rw [if_neg (by omega)]
theorem szR_last {left : Int} {n : Nat} (h0 : 0 ≤ left) (h1 : left ≤ 1048576) (hn : n ≤ maxLen) :
    (if decide (W (left - (n : Int)) < 0) = true then some (-1, ()) else some (W (left - (n : Int)), ())) = szR left n :=
  szR_lenK h0 h1 hn (s' := 0) (fun v hv h2 _ => by rw [← hv]; exact szR_zero h2)
theorem szR_loop {α : Type} [Inhabited α] {L : Nat → List α × Int × Int × Unit → Option (Int × Unit)} {F : α → Int → Option (Int × Unit)} {g : α → Nat} {l : List α} (hl : l.length ≤ 1048576) (hF : ∀ x ∈ l, ∀ v, 0 ≤ v → v ≤ 1048576 → F x v = szR v (g x))
    (hL : ∀ m left i, L (m + 1) (l, left, i, ()) = if decide (i < (l.length : Int)) = true then (if inR l.length i = true then (obind (F (rd l i) left) fun r0 => if decide (r0.1 < 0) = true then some (-1, ()) else L m (l, r0.1, W (i + 1), ())) else none) else some (left, ())) :
    ∀ (k i m : Nat) (left : Int), i + k = l.length → k < m → 0 ≤ left → left ≤ 1048576 → L m (l, left, (i : Int), ()) = szR left ((l.drop i).map g).sum
  | k, i, 0, left, _, h, _, _ => by omega
  | 0, i, m + 1, left, hi, _, h0, _ => by
    rw [hL, if_neg (by simp; omega), List.drop_of_length_le (by omega)]
    exact szR_zero h0
  | k + 1, i, m + 1, left, hi, hm, h0, h1 => by
    have hlt : i < l.length := by omega
    rw [hL, if_pos (by simp; omega), if_pos (by rw [inR_nat]; simpa using hlt), rd_get hlt, hF _ (List.getElem_mem hlt) left h0 h1]
    rw [W_same (by omega) (by omega)]
    rw [List.drop_eq_getElem_cons hlt, List.map_cons, List.sum_cons]
    refine szR_bind (k := fun v => L m (l, v, (i : Int) + 1, ())) h0 (fun v hv0 hv1 => ?_)
    exact szR_loop hl hF hL k (i + 1) m v (by omega) (by omega) hv0 (by omega)
theorem szR_slice {α : Type} [Inhabited α] {L : Nat → List α × Int × Int × Unit → Option (Int × Unit)} {F : α → Int → Option (Int × Unit)} {g : α → Nat} {l : List α} {n : Nat} {left : Int} (hn : 1048577 ≤ n) (h0 : 0 ≤ left) (h1 : left ≤ 1048576) (hl : l.length ≤ maxLen)
    (hF : ∀ x ∈ l, ∀ v, 0 ≤ v → v ≤ 1048576 → F x v = szR v (g x))
    (hL : ∀ m left i, L (m + 1) (l, left, i, ()) = if decide (i < (l.length : Int)) = true then (if inR l.length i = true then (obind (F (rd l i) left) fun r0 => if decide (r0.1 < 0) = true then some (-1, ()) else L m (l, r0.1, W (i + 1), ())) else none) else some (left, ())) :
    (if decide (W (left - (l.length : Int)) < 0) = true then some (-1, ()) else L n (l, W (left - (l.length : Int)), 0, ())) = szR left (szL g l) := by
  by_cases hb : l.length ≤ 1048576
  · refine szR_len (k := fun v => L n (l, v, 0, ())) h0 h1 hl (fun v hv0 hv1 => ?_)
    have := szR_loop hb hF hL l.length 0 n v (by omega) (by omega) hv0 (by omega)
    simpa using this
  · rw [maxLen_eq] at hl
    rw [W_same (by omega) (by omega), if_pos (by simp; omega)]
    unfold szR szL
    rw [if_neg (by omega)]
theorem szR_lstr {L : Nat → List (List UInt8) × Int × Int × Unit → Option (Int × Unit)} {l : List (List UInt8)} (hl : l.length ≤ 1048576) (hF : ∀ x ∈ l, x.length ≤ maxLen)
    (hL : ∀ m left i, L (m + 1) (l, left, i, ()) = if decide (i < (l.length : Int)) = true then (if inR l.length i = true then (if decide (W (left - ((rd l i).length : Int)) < 0) = true then some (-1, ()) else L m (l, W (left - ((rd l i).length : Int)), W (i + 1), ())) else none) else some (left, ())) :
    ∀ (k i m : Nat) (left : Int), i + k = l.length → k < m → 0 ≤ left → left ≤ 1048576 → L m (l, left, (i : Int), ()) = szR left ((l.drop i).map fun s : List UInt8 => s.length).sum
  | k, i, 0, left, _, h, _, _ => by omega
  | 0, i, m + 1, left, hi, _, h0, _ => by
    rw [hL, if_neg (by simp; omega), List.drop_of_length_le (by omega)]
    exact szR_zero h0
  | k + 1, i, m + 1, left, hi, hm, h0, h1 => by
    have hlt : i < l.length := by omega
    rw [hL, if_pos (by simp; omega), if_pos (by rw [inR_nat]; simpa using hlt), rd_get hlt]
    rw [W_same (x := (i : Int) + 1) (by omega) (by omega)]
    rw [List.drop_eq_getElem_cons hlt, List.map_cons, List.sum_cons]
    refine szR_lenK h0 h1 (hF _ (List.getElem_mem hlt)) (fun v hv hv0 hv1 => ?_)
    rw [← hv]
    exact szR_lstr hl hF hL k (i + 1) m v (by omega) (by omega) hv0 (by omega)
theorem szR_slice_str {L : Nat → List (List UInt8) × Int × Int × Unit → Option (Int × Unit)} {l : List (List UInt8)} {n : Nat} {left : Int} (hn : 1048577 ≤ n) (h0 : 0 ≤ left) (h1 : left ≤ 1048576) (hl : l.length ≤ maxLen) (hF : ∀ x ∈ l, x.length ≤ maxLen)
    (hL : ∀ m left i, L (m + 1) (l, left, i, ()) = if decide (i < (l.length : Int)) = true then (if inR l.length i = true then (if decide (W (left - ((rd l i).length : Int)) < 0) = true then some (-1, ()) else L m (l, W (left - ((rd l i).length : Int)), W (i + 1), ())) else none) else some (left, ())) :
    (if decide (W (left - (l.length : Int)) < 0) = true then some (-1, ()) else L n (l, W (left - (l.length : Int)), 0, ())) = szR left (szL (fun s : List UInt8 => s.length) l) := by
  by_cases hb : l.length ≤ 1048576
  · refine szR_lenK h0 h1 hl (fun v hv hv0 hv1 => ?_)
    rw [← hv]
    have := szR_lstr hb hF hL l.length 0 n v (by omega) (by omega) hv0 (by omega)
    simpa using this
  · rw [maxLen_eq] at hl
    rw [W_same (by omega) (by omega), if_pos (by simp; omega)]
    unfold szR szL
    rw [if_neg (by omega)]
theorem law_start {s : Nat} {k : Int × Unit → Option (Bool × Unit)} (h : s ≤ 1048576 → k ((1048576 : Int) - s, ()) = some (true, ())) : (obind (szR 1048576 s) fun r => if decide (r.fst < 0) = true then some (true, ()) else k r) = some (true, ()) := by
  unfold szR
  rw [obind_some]
  by_cases hs : s ≤ 1048576
  · have e : (if (s : Int) ≤ 1048576 then (1048576 : Int) - s else -1) = 1048576 - s := if_pos (by omega)
    rw [e, if_neg (by simp; omega)]
    exact h hs
  · have e : (if (s : Int) ≤ 1048576 then (1048576 : Int) - s else -1) = -1 := if_neg (by omega)
    rw [e, if_pos (by simp)]
theorem sum_mem {α : Type} {g : α → Nat} : ∀ {l : List α} {x : α}, x ∈ l → g x ≤ (l.map g).sum
  | y :: l, x, h => by
    rw [List.map_cons, List.sum_cons]
    rcases List.mem_cons.1 h with rfl | h
    · omega
    · have := sum_mem (g := g) h
      omega

theorem szL_le {α : Type} {g : α → Nat} {l : List α} {x : α} {N : Nat} (hx : x ∈ l) (h : szL g l ≤ N) : g x ≤ N := by
  have := sum_mem (g := g) hx
  unfold szL at h
  omega
theorem szL_len {α : Type} {g : α → Nat} {l : List α} {N : Nat} (h : szL g l ≤ N) : l.length ≤ N := by
  unfold szL at h
  omega
/-! ### copies -/
theorem to_loop {α : Type} [Inhabited α] {L : Nat → List α × Int × List α × Unit → Option (List α × Unit)} {F : α → (α → Option (List α × Unit)) → Option (List α × Unit)} {l : List α} (hl : l.length ≤ 1048576) (hF : ∀ x ∈ l, ∀ k, F x k = k x)
    (hL : ∀ m i out, L (m + 1) (l, i, out, ()) = if decide (i < (l.length : Int)) = true then (if inR l.length i = true then (F (rd l i) fun y => if inR out.length i = true then L m (l, W (i + 1), out.set i.toNat y, ()) else none) else none) else some (out, ())) :
    ∀ (k i m : Nat) (out : List α), i + k = l.length → k < m → out.length = l.length → out.take i = l.take i → L m (l, (i : Int), out, ()) = some (l, ())
  | k, i, 0, out, _, h, _, _ => by omega
  | 0, i, m + 1, out, hi, _, ho, ht => by
    rw [hL, if_neg (by simp; omega)]
    rw [List.take_of_length_le (by omega), List.take_of_length_le (by omega)] at ht
    rw [ht]
  | k + 1, i, m + 1, out, hi, hm, ho, ht => by
    have hlt : i < l.length := by omega
    rw [hL, if_pos (by simp; omega), if_pos (by rw [inR_nat]; simpa using hlt), rd_get hlt, hF _ (List.getElem_mem hlt), if_pos (by rw [inR_nat, ho]; simpa using hlt), W_same (by omega) (by omega)]
    rw [show ((i : Int)).toNat = i by simp]
    have := to_loop hl hF hL k (i + 1) m (out.set i l[i]) (by omega) (by omega) (by simpa using ho) (by
      refine List.ext_getElem? fun j => ?_
      have hj := congrArg (fun q : List α => q[j]?) ht
      simp only [List.getElem?_take] at hj ⊢
      rw [List.getElem?_set]
      by_cases h1 : j < i
      · rw [if_pos h1, if_pos h1] at hj
        simp only [show j < i + 1 by omega, if_true, show i ≠ j by omega, if_false]
        exact hj
      · by_cases h2 : j = i
        · subst h2
          simp [ho, hlt]
        · simp only [show ¬ j < i + 1 by omega, if_false])
    exact this
theorem to_slice {α : Type} [Inhabited α] {L : Nat → List α × Int × List α × Unit → Option (List α × Unit)} {F : α → (α → Option (List α × Unit)) → Option (List α × Unit)} {l : List α} {n : Nat} {b : Nat} {z : α} (hn : 1048577 ≤ n) (hb : b ≤ 1024) (hl : l.length ≤ 1048576) (hF : ∀ x ∈ l, ∀ k, F x k = k x)
    (hL : ∀ m i out, L (m + 1) (l, i, out, ()) = if decide (i < (l.length : Int)) = true then (if inR l.length i = true then (F (rd l i) fun y => if inR out.length i = true then L m (l, W (i + 1), out.set i.toNat y, ()) else none) else none) else some (out, ())) :
    (if (decide (0 ≤ (l.length : Int)) && decide ((b : Int) * (l.length : Int) ≤ 281474976710656)) = true then L n (l, 0, List.replicate ((l.length : Int)).toNat z, ()) else none) = some (l, ()) := by
  have hbl : (b : Int) * (l.length : Int) ≤ 1024 * 1048576 := by
    rw [← Int.natCast_mul]
    have := Nat.mul_le_mul hb hl
    omega
  rw [if_pos (by simp only [Bool.and_eq_true, decide_eq_true_eq]; exact ⟨by omega, by omega⟩)]
  exact to_loop hl hF hL l.length 0 n _ (by omega) (by omega) (by simp) (by simp)

/-! ### comparisons -/
theorem eq_loop {α : Type} [Inhabited α] {L : Nat → List α × List α × Int × Unit → Option (Bool × Unit)} {E : α → α → Option (Bool × Unit) → Option (Bool × Unit)} {l : List α} (hl : l.length ≤ 1048576) (hE : ∀ x ∈ l, ∀ k, E x x k = k)
    (hL : ∀ m i, L (m + 1) (l, l, i, ()) = if decide (i < (l.length : Int)) = true then (if inR l.length i = true then (if inR l.length i = true then E (rd l i) (rd l i) (L m (l, l, W (i + 1), ())) else none) else none) else some (true, ())) :
    ∀ (k i m : Nat), i + k = l.length → k < m → L m (l, l, (i : Int), ()) = some (true, ())
  | k, i, 0, _, h => by omega
  | 0, i, m + 1, hi, _ => by rw [hL, if_neg (by simp; omega)]
  | k + 1, i, m + 1, hi, hm => by
    have hlt : i < l.length := by omega
    have hin : inR l.length (i : Int) = true := by rw [inR_nat]; simpa using hlt
    rw [hL, if_pos (by simp; omega), if_pos hin, if_pos hin, rd_get hlt, hE _ (List.getElem_mem hlt), W_same (by omega) (by omega)]
    exact eq_loop hl hE hL k (i + 1) m (by omega) (by omega)
theorem eq_slice {α : Type} [Inhabited α] {L : Nat → List α × List α × Int × Unit → Option (Bool × Unit)} {E : α → α → Option (Bool × Unit) → Option (Bool × Unit)} {l : List α} {n : Nat} (hn : 1048577 ≤ n) (hl : l.length ≤ 1048576) (hE : ∀ x ∈ l, ∀ k, E x x k = k)
    (hL : ∀ m i, L (m + 1) (l, l, i, ()) = if decide (i < (l.length : Int)) = true then (if inR l.length i = true then (if inR l.length i = true then E (rd l i) (rd l i) (L m (l, l, W (i + 1), ())) else none) else none) else some (true, ())) :
    (if ((l.length : Int) != (l.length : Int)) = true then some (false, ()) else L n (l, l, 0, ())) = some (true, ()) := by
  rw [if_neg (by simp)]
  exact eq_loop hl hE hL l.length 0 n (by omega) (by omega)
end Go.Sym

/-! Plain laws for marking. -/
namespace Go.Sym
open Go
theorem szL_zero {α : Type} (l : List α) : szL (fun _ : α => 0) l = l.length := by
  unfold szL
  have : (l.map fun _ : α => 0).sum = 0 := by
    induction l with
    | nil => rfl
    | cons x l ih => rw [List.map_cons, List.sum_cons, ih]
  omega
/-- A mark's number grows by no more than so much. -/
def mkR (k : Int) (s : Nat) (r : Option (Int × Unit)) : Prop := ∃ v, r = some (v, ()) ∧ k ≤ v ∧ v ≤ k + 16 * s
theorem mk_loop {α : Type} {L : Nat → List α × Int × Int × Unit → Option (Int × Unit)} {G : Int → Int → (Int → Option (Int × Unit)) → Option (Int × Unit)} {g : α → Nat} {l : List α} (hl : l.length ≤ 1048576)
    (hG : ∀ (i : Nat) (hi : i < l.length) (k : Int), 0 ≤ k → k + 16 * (1 + g l[i]) ≤ 1152921504606846976 → ∃ v, k ≤ v ∧ v ≤ k + 16 * (1 + g l[i]) ∧ ∀ c, G i k c = c v)
    (hL : ∀ m k i, L (m + 1) (l, k, i, ()) = if decide (i < (l.length : Int)) = true then G i k (fun v => L m (l, v, W (i + 1), ())) else some (k, ())) :
    ∀ (d i m : Nat) (k : Int), i + d = l.length → d < m → 0 ≤ k → k + 16 * (d + ((l.drop i).map g).sum : Nat) ≤ 1152921504606846976 → mkR k (d + ((l.drop i).map g).sum) (L m (l, k, (i : Int), ()))
  | d, i, 0, k, _, h, _, _ => by omega
  | 0, i, m + 1, k, hi, _, h0, _ => by
    rw [hL, if_neg (by simp; omega)]
    exact ⟨k, rfl, by omega, by omega⟩
  | d + 1, i, m + 1, k, hi, hm, h0, h1 => by
    have hlt : i < l.length := by omega
    have hs : ((l.drop i).map g).sum = g l[i] + ((l.drop (i + 1)).map g).sum := by rw [List.drop_eq_getElem_cons hlt, List.map_cons, List.sum_cons]
    rw [hs] at h1 ⊢
    obtain ⟨v, h2, h3, h4⟩ := hG i hlt k h0 (by omega)
    rw [hL, if_pos (by simp; omega), h4, W_same (by omega) (by omega)]
    obtain ⟨v', e, h5, h6⟩ := mk_loop hl hG hL d (i + 1) m v (by omega) (by omega) (by omega) (by omega)
    exact ⟨v', e, by omega, by omega⟩
theorem mk_slice {α : Type} {L : Nat → List α × Int × Int × Unit → Option (Int × Unit)} {G : Int → Int → (Int → Option (Int × Unit)) → Option (Int × Unit)} {g : α → Nat} {l : List α} {n : Nat} {k : Int} (hn : 1048577 ≤ n) (hl : l.length ≤ 1048576) (h0 : 0 ≤ k) (h1 : k + 16 * (szL g l : Nat) ≤ 1152921504606846976)
    (hG : ∀ (i : Nat) (hi : i < l.length) (k : Int), 0 ≤ k → k + 16 * (1 + g l[i]) ≤ 1152921504606846976 → ∃ v, k ≤ v ∧ v ≤ k + 16 * (1 + g l[i]) ∧ ∀ c, G i k c = c v)
    (hL : ∀ m k i, L (m + 1) (l, k, i, ()) = if decide (i < (l.length : Int)) = true then G i k (fun v => L m (l, v, W (i + 1), ())) else some (k, ())) : mkR k (szL g l) (L n (l, k, 0, ())) := by
  have := mk_loop hl hG hL l.length 0 n k (by omega) (by omega) h0 (by simpa [szL] using h1)
  simpa [szL] using this

/-! ### a row of values that tell their place -/
theorem own_loop {α : Type} {L : Nat → Int × Int × List α × Unit → Option (Int × List α × Unit)} {T : Int → α} (hL : ∀ m k i l, 0 ≤ k → k ≤ 1073741824 → L (m + 1) (k, i, l, ()) = if decide (i < (l.length : Int)) = true then (if inR l.length i = true then L m (W (k + 1), W (i + 1), l.set i.toNat (T k), ()) else none) else some (k, l, ())) :
    ∀ (d i m : Nat) (k : Int) (l : List α), i + d = l.length → d < m → 0 ≤ k → k + d ≤ 1073741824 → l.length ≤ 1048576 →
    ∃ l', L m (k, (i : Int), l, ()) = some (k + d, l', ()) ∧ l'.length = l.length ∧ (∀ j, j < i → l'[j]? = l[j]?) ∧ ∀ j, j < d → l'[i + j]? = some (T (k + j))
  | d, i, 0, k, l, _, h, _, _, _ => by omega
  | 0, i, m + 1, k, l, hi, _, h0, h1, hl => by
    rw [hL m k i l h0 (by omega), if_neg (by simp; omega)]
    exact ⟨l, by simp, rfl, fun _ _ => rfl, fun j hj => by omega⟩
  | d + 1, i, m + 1, k, l, hi, hm, h0, h1, hl => by
    have hlt : i < l.length := by omega
    rw [hL m k i l h0 (by omega), if_pos (by simp; omega), if_pos (by rw [inR_nat]; simpa using hlt), W_same (by omega) (by omega), W_same (by omega) (by omega)]
    rw [show ((i : Int)).toNat = i by simp]
    obtain ⟨l', e1, e2, e3, e4⟩ := own_loop hL d (i + 1) m (k + 1) (l.set i (T k)) (by simp; omega) (by omega) (by omega) (by omega) (by simpa using hl)
    refine ⟨l', ?_, by simpa using e2, fun j hj => ?_, fun j hj => ?_⟩
    · have : ((i : Int) + 1) = ((i + 1 : Nat) : Int) := by omega
      rw [this, e1]
      have : k + 1 + (d : Int) = k + ((d + 1 : Nat) : Int) := by omega
      rw [this]
    · rw [e3 j (by omega), List.getElem?_set_ne (by omega)]
    · cases j with
      | zero =>
        rw [Nat.add_zero, e3 i (by omega), List.getElem?_set_self hlt]
        simp
      | succ j =>
        have := e4 j (by omega)
        rw [show i + (j + 1) = i + 1 + j by omega, this]
        congr 2
        omega
theorem own_slice {α : Type} {L : Nat → Int × Int × List α × Unit → Option (Int × List α × Unit)} {T : Int → α} {n : Nat} {l : List α} (hn : 1048577 ≤ n) (hl : l.length ≤ 1048576) (hL : ∀ m k i l, 0 ≤ k → k ≤ 1073741824 → L (m + 1) (k, i, l, ()) = if decide (i < (l.length : Int)) = true then (if inR l.length i = true then L m (W (k + 1), W (i + 1), l.set i.toNat (T k), ()) else none) else some (k, l, ())) :
    ∃ l', L n (1, 0, l, ()) = some (1 + (l.length : Int), l', ()) ∧ l'.length = l.length ∧ ∀ j, j < l.length → l'[j]? = some (T (1 + j)) := by
  obtain ⟨l', e1, e2, _, e4⟩ := own_loop hL l.length 0 n 1 l (by omega) (by omega) (by omega) (by omega) hl
  exact ⟨l', e1, e2, fun j hj => by have := e4 j hj; rwa [Nat.zero_add] at this⟩
theorem held_loop {α : Type} [Inhabited α] {H : Nat → List α × Int × Int × Unit → Option (Int × Unit)} {T : Int → α} {l : List α} (hl : l.length ≤ 1048576) {E : α → α → Bool} (hE : ∀ x, E x x = true)
    (hT : ∀ j : Nat, j < l.length → l[j]? = some (T (1 + j)))
    (hH : ∀ m k i, 0 ≤ k → k ≤ 1073741824 → H (m + 1) (l, k, i, ()) = if decide (i < (l.length : Int)) = true then (if inR l.length i = true then (if (!E (rd l i) (T k)) = true then some (-1, ()) else H m (l, W (k + 1), W (i + 1), ())) else none) else some (k, ())) :
    ∀ (d i m : Nat), i + d = l.length → d < m → H m (l, 1 + (i : Int), (i : Int), ()) = some (1 + (l.length : Int), ())
  | d, i, 0, _, h => by omega
  | 0, i, m + 1, hi, _ => by
    rw [hH m _ _ (by omega) (by omega), if_neg (by simp; omega)]
    have : i = l.length := by omega
    rw [this]
  | d + 1, i, m + 1, hi, hm => by
    have hlt : i < l.length := by omega
    have ht : l[i] = T (1 + i) := by
      have := hT i hlt
      rw [List.getElem?_eq_getElem hlt] at this
      exact Option.some.inj this
    rw [hH m _ _ (by omega) (by omega), if_pos (by simp; omega), if_pos (by rw [inR_nat]; simpa using hlt), rd_get hlt, ht, hE, if_neg (by simp), W_same (by omega) (by omega), W_same (by omega) (by omega)]
    have e1 : 1 + (i : Int) + 1 = 1 + ((i + 1 : Nat) : Int) := by omega
    have e2 : (i : Int) + 1 = ((i + 1 : Nat) : Int) := by omega
    rw [e1, e2]
    exact held_loop hl hE hT hH d (i + 1) m (by omega) (by omega)
theorem held_slice {α : Type} [Inhabited α] {H : Nat → List α × Int × Int × Unit → Option (Int × Unit)} {T : Int → α} {l : List α} {n : Nat} (hn : 1048577 ≤ n) (hl : l.length ≤ 1048576) {E : α → α → Bool} (hE : ∀ x, E x x = true)
    (hT : ∀ j : Nat, j < l.length → l[j]? = some (T (1 + j)))
    (hH : ∀ m k i, 0 ≤ k → k ≤ 1073741824 → H (m + 1) (l, k, i, ()) = if decide (i < (l.length : Int)) = true then (if inR l.length i = true then (if (!E (rd l i) (T k)) = true then some (-1, ()) else H m (l, W (k + 1), W (i + 1), ())) else none) else some (k, ())) :
    H n (l, 1, 0, ()) = some (1 + (l.length : Int), ()) := by
  have := held_loop hl hE hT hH l.length 0 n (by omega) (by omega)
  simpa using this

/-! ### a number's text -/
theorem text_loop {L : Nat → Int × List UInt8 × Unit → Option (List UInt8 × Unit)} {D : Int → List UInt8} (hD : ∀ k, (D k).length = 1) {A : List UInt8} (hA : A.length ≤ 100)
    (hL : ∀ m k s, L (m + 1) (k, s, ()) = if decide (k > 0) = true then (if decide ((D k).length + List.length s ≤ 9223372036854775807) = true then L m (W (Int.tdiv k 10), D k ++ s, ()) else none) else (if decide (A.length + List.length s ≤ 9223372036854775807) = true then some (A ++ s, ()) else none)) :
    ∀ (j m : Nat) (k : Int) (s : List UInt8), 0 ≤ k → k < 2 ^ j → k ≤ 1152921504606846976 → j < m → s.length + j ≤ 1000 → ∃ r, L m (k, s, ()) = some (r, ())
  | j, 0, k, s, _, _, _, h, _ => by omega
  | 0, m + 1, k, s, h0, h1, _, _, hs => by
    rw [hL, if_neg (by simp at h1 ⊢; omega), if_pos (by simp; omega)]
    exact ⟨_, rfl⟩
  | j + 1, m + 1, k, s, h0, h1, h2, hm, hs => by
    rw [hL]
    by_cases hk : k > 0
    · rw [if_pos (by simpa using hk), if_pos (by rw [hD]; simp; omega)]
      have hd : Int.tdiv k 10 = k / 10 := Int.tdiv_eq_ediv_of_nonneg h0
      rw [hd, W_same (by omega) (by omega)]
      refine text_loop hD hA hL j m (k / 10) _ (by omega) ?_ (by omega) (by omega) (by rw [List.length_append, hD]; omega)
      rw [Int.pow_succ] at h1
      omega
    · rw [if_neg (by simpa using hk), if_pos (by simp; omega)]
      exact ⟨_, rfl⟩
end Go.Sym


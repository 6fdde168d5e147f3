import Derived.Test.YtgaeiofkkklglaaGreatDoorC13FnExactAsMeant
import Derived.Test.YtgaeiofkkklglaaGreatDoorC14FnExactAsMeant
namespace Go.Sym
open Go
set_option maxRecDepth 100000
set_option linter.unusedVariables false
set_option linter.unusedSimpArgs false
/-! ### what a node has of a key -/
theorem rowat_loop (n : Nat) (l : List RowT) (hl : l.length ≤ 1048576) (k : List UInt8) (a : Int) (b : List MarkT) : ∀ (j i m : Nat), i + j = l.length → j < m →
    ∃ r : Int, f140L0 n m (k, (i : Int), l, a, b, ()) = some (r, ()) ∧ f400145L0 n m (l, (l.length : Int), (i : Int), k, ()) = some (r, k, ()) ∧ (r = -1 ∨ ∃ p : Nat, r = p ∧ p < l.length)
  | _, _, 0, _, h => by omega
  | 0, i, m + 1, hi, _ => by
    have hd : decide ((i : Int) < (l.length : Int)) = false := by simp; omega
    rw [f140L0, f400145L0]
    simp only [hd, Bool.false_eq_true, if_false]
    exact ⟨-1, rfl, rfl, .inl rfl⟩
  | j + 1, i, m + 1, hi, hm => by
    have hlt : i < l.length := by omega
    have hd : decide ((i : Int) < (l.length : Int)) = true := by simp; omega
    rw [f140L0, f400145L0]
    unfold f146
    simp only [hd, inM_nat hlt, if_true]
    rw [obind_some, W_same (x := (i : Int) + 1) (by omega) (by omega)]
    by_cases hk : ((rd l (i : Int)).fst == k) = true
    · rw [if_pos hk, if_pos hk]
      exact ⟨_, rfl, rfl, .inr ⟨i, rfl, hlt⟩⟩
    · rw [if_neg hk, if_neg hk, show (i : Int) + 1 = ((i + 1 : Nat) : Int) by omega]
      exact rowat_loop n l hl k a b j (i + 1) m (by omega) (by omega)
theorem rowat_eq (n : Nat) (hn : 1048577 ≤ n) (l : List RowT) (hl : l.length ≤ 1048576) (k : List UInt8) (a : Int) (b : List MarkT) :
    ∃ r : Int, f140 n l a b k = some (r, ()) ∧ f106 n l a b k = some (r, ()) ∧ (r = -1 ∨ ∃ p : Nat, r = p ∧ p < l.length) := by
  obtain ⟨r, e1, e2, h⟩ := rowat_loop n l hl k a b l.length 0 n (by omega) (by omega)
  refine ⟨r, e1, ?_, h⟩
  unfold f106 f400145
  rw [show (0 : Int) = ((0 : Nat) : Int) from rfl, e2, obind_some]
theorem and2_cases (x : Int) : (W (((BitVec.ofInt IntKind.i64.bits x &&& BitVec.ofInt IntKind.i64.bits 2).toNat : Nat) : Int) == 2) = (W (((BitVec.ofInt IntKind.i64.bits x &&& BitVec.ofInt IntKind.i64.bits 2).toNat : Nat) : Int) != 0) := by
  have h : (BitVec.ofInt IntKind.i64.bits x &&& BitVec.ofInt IntKind.i64.bits 2).toNat = 0 ∨ (BitVec.ofInt IntKind.i64.bits x &&& BitVec.ofInt IntKind.i64.bits 2).toNat = 2 := by
    rw [BitVec.toNat_and, show (BitVec.ofInt IntKind.i64.bits 2).toNat = 2 by decide]
    generalize (BitVec.ofInt IntKind.i64.bits x).toNat = y
    have h1 : y &&& 2 ≤ 2 := Nat.and_le_right
    have h2 : (y &&& 2) % 2 ^ 1 = (y % 2 ^ 1) &&& (2 % 2 ^ 1) := Nat.and_mod_two_pow ..
    have h3 : (y % 2 ^ 1) &&& (2 % 2 ^ 1) = 0 := Nat.and_zero _
    rw [h3] at h2
    omega
  rcases h with h | h <;> rw [h] <;> decide
theorem rowtext_eq (n : Nat) (hn : 1048577 ≤ n) (r : RowT) : ∃ s o, f141 n r.1 r.2.1.1 r.2.1.2 r.2.2.1.1 r.2.2.1.2 r.2.2.2.1 r.2.2.2.2 = some (s, o, ()) ∧ f107 n r.1 r.2.1.1 r.2.1.2 r.2.2.1.1 r.2.2.1.2 r.2.2.2.1 r.2.2.2.2 = some (s, o, ()) := by
  unfold f141 f107 f114
  rw [obind_some, and2_cases]
  obtain ⟨s1, o1, e1, e2, -⟩ := cell_text n hn r.2.2.1.1 r.2.2.1.2
  obtain ⟨s2, o2, e3, e4, -⟩ := cell_text n hn r.2.1.1 r.2.1.2
  rw [e1, e2, e3, e4, obind_some, obind_some]
  simp only []
  split
  · exact ⟨_, _, rfl, rfl⟩
  · exact ⟨_, _, rfl, rfl⟩
/-- Is a node up? -/
def upB (n : Nat) (d : D32) : Bool := nodeB n d && !d.1.1.2.2.2
theorem up_eq (n : Nat) (hn : 1048577 ≤ n) (d : D32) (h : nodeFit d) : f50 n d.1.1.1 d.1.1.2.1 d.1.1.2.2.1 d.1.1.2.2.2 d.1.2.1.1 d.1.2.1.2.1 d.1.2.1.2.2 d.1.2.2.1 d.1.2.2.2 d.2 = some (upB n d, ()) ∧
    f53 n d.1.1.1 d.1.1.2.1 d.1.1.2.2.1 d.1.1.2.2.2 d.1.2.1.1 d.1.2.1.2.1 d.1.2.1.2.2 d.1.2.2.1 d.1.2.2.2 d.2 = some (upB n d, ()) := by
  obtain ⟨h1, h2⟩ := nodeB_eq n hn d h
  unfold f50 f53 upB
  simp only [h1, h2, obind_some]
  cases nodeB n d <;> exact ⟨rfl, rfl⟩
theorem nodeget_eq (n : Nat) (hn : 1048577 ≤ n) (d : D32) (h : nodeFit d) (k : List UInt8) : ∃ s c, f100 n d.1.1.1 d.1.1.2.1 d.1.1.2.2.1 d.1.1.2.2.2 d.1.2.1.1 d.1.2.1.2.1 d.1.2.1.2.2 d.1.2.2.1 d.1.2.2.2 d.2 k = some (s, c, ()) ∧
    f54 n d.1.1.1 d.1.1.2.1 d.1.1.2.2.1 d.1.1.2.2.2 d.1.2.1.1 d.1.2.1.2.1 d.1.2.1.2.2 d.1.2.2.1 d.1.2.2.2 d.2 k = some (s, c, ()) := by
  obtain ⟨h1, h2⟩ := up_eq n hn d h
  unfold f100 f54
  simp only [h1, h2, obind_some]
  cases upB n d with
  | false => exact ⟨_, _, rfl, rfl⟩
  | true =>
    obtain ⟨r, e1, e2, hr⟩ := rowat_eq n hn d.1.2.1.1 h.2.2.1 k d.1.2.1.2.1 d.1.2.1.2.2
    simp only [Bool.not_true, Bool.false_eq_true, if_false]
    rw [e1, e2, obind_some, obind_some]
    rcases hr with rfl | ⟨p, rfl, hp⟩
    · exact ⟨_, _, rfl, rfl⟩
    · obtain ⟨s, o, g1, g2⟩ := rowtext_eq n hn (rd d.1.2.1.1 (p : Int))
      have hneg : decide ((p : Int) < 0) = false := by simp
      simp only [hneg, Bool.false_eq_true, if_false, inM_nat hp, if_true, g1, g2, obind_some]
      cases o with
      | true => exact ⟨_, _, rfl, rfl⟩
      | false => exact ⟨_, _, rfl, rfl⟩
/-! ### what is meant of a key -/
theorem meantat_loop (n : Nat) {l : List D107} (hl : l.length ≤ 1048576) (y : List UInt8) :
    ∀ (k i m : Nat), i + k = l.length → k < m → ∃ v w, f99L0 n m (l, y, (i : Int), ()) = some (v, w, ()) ∧ f56L0 n m (y, l, (l.length : Int), (i : Int), ()) = some (v, w, ())
  | k, i, 0, _, h => by omega
  | 0, i, m + 1, hi, _ => ⟨_, _, by rw [f99L0, if_neg (by simp; omega)], by rw [f56L0, if_neg (by simp; omega)]⟩
  | k + 1, i, m + 1, hi, hm => by
    have hlt : i < l.length := by omega
    have hin : inR l.length (i : Int) = true := by rw [inR_nat]; simpa using hlt
    obtain ⟨v, w, h1, h2⟩ := meantat_loop n hl y k (i + 1) m (by omega) (by omega)
    have hd : decide ((i : Int) < (l.length : Int)) = true := by simp; omega
    rw [f99L0, f56L0, W_same (x := (i : Int) + 1) (by omega) (by omega)]
    simp only [hin, hd, if_true]
    by_cases hk : ((rd l (i : Int)).fst == y) = true
    · rw [if_pos hk, if_pos hk]; exact ⟨_, _, rfl, rfl⟩
    · rw [if_neg hk, if_neg hk]; exact ⟨v, w, h1, h2⟩
theorem meantat_eq (n : Nat) (hn : 1048577 ≤ n) (l : List D107) (hl : l.length ≤ 1048576) (y : List UInt8) : ∃ v w, f99 n l y = some (v, w, ()) ∧ f56 n l y = some (v, w, ()) :=
  meantat_loop n hl y l.length 0 n (by omega) (by omega)
end Go.Sym

import Derived.Test.YtolgphpkjmdlgaaGreatDoorQFnTallies
import Derived.Test.YtolgphpkjmdlgaaGreatDoorBase7
import Derived.Test.YtolgphpkjmdlgaaGreatDoorU1FnTallies
import Derived.Test.YtolgphpkjmdlgaaGreatDoorU2FnTallies
namespace Go.Sym
open Go
set_option maxRecDepth 100000
set_option linter.unusedVariables false
set_option linter.unusedSimpArgs false
theorem ite_tot {α : Type} {c : Bool} {a b : α} (P : α → Prop) (ha : P a) (hb : P b) : P (if c = true then a else b) := by
  cases c
  · simpa using hb
  · simpa using ha
theorem inR_lt' {n i : Nat} (h : i < n) : inR n (i : Int) = true := by
  rw [inR_nat]
  simpa using h
theorem and255 (a : Int) : 0 ≤ andI a 255 ∧ andI a 255 ≤ 255 := by
  have h : (BitVec.ofInt IntKind.i64.bits a &&& BitVec.ofInt IntKind.i64.bits 255).toNat ≤ 255 := by
    rw [BitVec.toNat_and]
    exact Nat.le_trans Nat.and_le_right (by decide)
  unfold andI
  rw [W_same (by omega) (by omega)]
  omega
theorem obind_ite' {α β : Type} {c : Bool} {a b : α} {f : α → Option β} : obind (if c = true then some a else some b) f = f (if c = true then a else b) := by
  cases c <;> simp [obind_some]
def Dr {α : Type} (b : List UInt8) (o : Option (α × List UInt8 × Int × Int × Unit)) (Q : α → Prop) : Prop := ∃ v i h, o = some (v, b, i, h, ()) ∧ 0 ≤ i ∧ Q v
theorem byte_dr (n : Nat) (b : List UInt8) (i h : Int) (hi : 0 ≤ i) (hb : b.length ≤ 1048576) : Dr b (f43 n b i h) (fun v => 0 ≤ v ∧ v ≤ 255) := by
  unfold f43
  by_cases hl : i < (b.length : Int)
  · rw [if_pos (by simpa using hl), if_pos (inR_iff.2 ⟨hi, hl⟩), W_same (x := i + 1) (by omega) (by omega)]
    exact ⟨_, _, _, rfl, by omega, and255 _⟩
  · rw [if_neg (by simpa using hl)]
    exact ⟨_, _, _, rfl, hi, and255 _⟩
theorem below_dr (n : Nat) (k : Int) (b : List UInt8) (i h : Int) (hi : 0 ≤ i) (hb : b.length ≤ 1048576) : Dr b (f20 n k b i h) (fun v => 0 ≤ v ∧ (0 < k → v < k) ∧ (k ≤ 0 → v = 0)) := by
  unfold f20
  by_cases h0 : k ≤ 0
  · rw [if_pos (by simpa using h0)]
    exact ⟨0, i, h, rfl, hi, by omega, by omega, by omega⟩
  · rw [if_neg (by simpa using h0)]
    have hk : (k != 0) = true := by simp; omega
    obtain ⟨x, i1, h1, e1, g1, p1⟩ := byte_dr n b i h hi hb
    by_cases h2 : k ≤ 256
    · rw [if_pos (by simpa using h2), e1, obind_some]
      simp only [hk, if_true]
      exact ⟨_, _, _, rfl, g1, Int.tmod_nonneg _ p1.1, fun _ => Int.tmod_lt_of_pos _ (by omega), by omega⟩
    · rw [if_neg (by simpa using h2), e1, obind_some]
      obtain ⟨y, i2, h2', e2, g2, p2⟩ := byte_dr n b i1 h1 g1 hb
      rw [e2, obind_some]
      obtain ⟨z, i3, h3, e3, g3, p3⟩ := byte_dr n b i2 h2' g2 hb
      rw [e3, obind_some]
      simp only [hk, if_true]
      rw [W_same (x := x * 65536) (by omega) (by omega), W_same (x := y * 256) (by omega) (by omega), W_same (x := x * 65536 + y * 256) (by omega) (by omega), W_same (x := x * 65536 + y * 256 + z) (by omega) (by omega)]
      exact ⟨_, _, _, rfl, g3, Int.tmod_nonneg _ (by omega), fun _ => Int.tmod_lt_of_pos _ (by omega), by omega⟩
theorem once_dr (n : Nat) (k : Int) (b : List UInt8) (i h : Int) (hi : 0 ≤ i) (hb : b.length ≤ 1048576) : Dr b (f133 n k b i h) (fun _ => True) := by
  unfold f133
  obtain ⟨x, i1, h1, e1, g1, p1⟩ := below_dr n k b i h hi hb
  rw [e1, obind_some]
  exact ⟨_, _, _, rfl, g1, trivial⟩
theorem rd_mem {α : Type} [Inhabited α] {l : List α} {x : Int} (h0 : 0 ≤ x) (h1 : x < (l.length : Int)) : rd l x ∈ l := by
  obtain ⟨k, rfl⟩ : ∃ k : Nat, x = k := ⟨x.toNat, by omega⟩
  rw [rd_get (by omega)]
  exact List.getElem_mem _
theorem str_dr (n : Nat) (l : List (List UInt8)) (hl : 0 < l.length) (b : List UInt8) (i h : Int) (hi : 0 ≤ i) (hb : b.length ≤ 1048576) : Dr b (f59 n l b i h) (fun v => v ∈ l) := by
  unfold f59
  obtain ⟨x, i1, h1, e1, g1, p1, p2, _⟩ := below_dr n (l.length : Int) b i h hi hb
  rw [e1, obind_some]
  have hx := p2 (by omega)
  rw [if_pos (inR_iff.2 ⟨p1, hx⟩)]
  exact ⟨_, _, _, rfl, g1, rd_mem p1 hx⟩
theorem int_dr (n : Nat) (l : List Int) (hl : 0 < l.length) (b : List UInt8) (i h : Int) (hi : 0 ≤ i) (hb : b.length ≤ 1048576) : Dr b (f39 n l b i h) (fun v => v ∈ l) := by
  unfold f39
  obtain ⟨x, i1, h1, e1, g1, p1, p2, _⟩ := below_dr n (l.length : Int) b i h hi hb
  rw [e1, obind_some]
  have hx := p2 (by omega)
  rw [if_pos (inR_iff.2 ⟨p1, hx⟩)]
  exact ⟨_, _, _, rfl, g1, rd_mem p1 hx⟩
theorem bytes_loop (n : Nat) (b : List UInt8) (hb : b.length ≤ 1048576) (K : Nat) (hK : K ≤ 1048576) : ∀ (k j m : Nat) (i h : Int) (acc : List UInt8), K - j ≤ k → k < m → j ≤ K → acc.length = j → 0 ≤ i →
    Dr b (f101L0 n m ((K : Int), (j : Int), b, i, h, acc, ())) (fun v => v.length = K)
  | _, _, 0, _, _, _, _, h, _, _, _ => by omega
  | k, j, m + 1, i, h, acc, hk, hm, hj, ha, hi => by
    rw [f101L0]
    by_cases hlt : j < K
    · rw [if_pos (by simp; omega)]
      obtain ⟨x, i1, h1, e1, g1, p1⟩ := byte_dr n b i h hi hb
      rw [e1, obind_some, if_pos (Nat.ble_eq_true_of_le (by simp; omega)), W_same (x := (j : Int) + 1) (by omega) (by omega)]
      obtain ⟨k', rfl⟩ : ∃ k', k = k' + 1 := ⟨k - 1, by omega⟩
      exact bytes_loop n b hb K hK k' (j + 1) m i1 h1 _ (by omega) (by omega) (by omega) (by simp; omega) g1
    · rw [if_neg (by simp; omega)]
      exact ⟨_, _, _, rfl, hi, by omega⟩
theorem bytes_dr (n : Nat) (hn : 1048577 ≤ n) (K : Nat) (hK : K ≤ 1048576) (b : List UInt8) (i h : Int) (hi : 0 ≤ i) (hb : b.length ≤ 1048576) : Dr b (f101 n (K : Int) b i h) (fun v => v.length = K) :=
  bytes_loop n b hb K hK K 0 n i h [] (by omega) (by omega) (by omega) rfl hi
theorem new_loop (n : Nat) (b : List UInt8) (hb : b.length ≤ 1048576) : ∀ (k j m : Nat) (h : Int), b.length - j ≤ k → k < m → j ≤ b.length → ∃ h', f13L0 n m (b, h, (j : Int), ()) = some (b, 0, h', ())
  | _, _, 0, _, _, h, _ => by omega
  | k, j, m + 1, h, hk, hm, hj => by
    rw [f13L0]
    by_cases hlt : j < b.length
    · by_cases h4 : (j : Int) < 4000
      · rw [if_pos (by rw [decide_eq_true (show (j : Int) < (b.length : Int) by omega)]; simpa using h4), if_pos (inR_lt' hlt), W_same (x := (j : Int) + 1) (by omega) (by omega)]
        obtain ⟨k', rfl⟩ : ∃ k', k = k' + 1 := ⟨k - 1, by omega⟩
        exact new_loop n b hb k' (j + 1) m _ (by omega) (by omega) (by omega)
      · rw [if_neg (by rw [decide_eq_true (show (j : Int) < (b.length : Int) by omega)]; simpa using h4)]
        exact ⟨_, rfl⟩
    · rw [if_neg (by rw [decide_eq_false (show ¬ (j : Int) < (b.length : Int) by omega)]; simp)]
      exact ⟨_, rfl⟩
theorem new_dr (n : Nat) (hn : 1048577 ≤ n) (b : List UInt8) (hb : b.length ≤ 1048576) : ∃ h, f13 n b = some (b, 0, h, ()) :=
  new_loop n b hb b.length 0 n _ (by omega) (by omega) (by omega)
theorem cs_dr (n : Nat) (b : List UInt8) (i h : Int) (hi : 0 ≤ i) (hb : b.length ≤ 1048576) : Dr b (f27 n b i h) (fun v => 1 ≤ v ∧ v ≤ 5) := by
  unfold f27
  obtain ⟨x, i1, h1, e1, g1, p1, p2, _⟩ := below_dr n 5 b i h hi hb
  have := p2 (by omega)
  rw [e1, obind_some]
  rw [W_same (x := 1 + x) (by omega) (by omega)]
  exact ⟨_, _, _, rfl, g1, by omega, by omega⟩
theorem name_dr (n : Nat) (b : List UInt8) (i h : Int) (hi : 0 ≤ i) (hb : b.length ≤ 1048576) : Dr b (f55 n b i h) (fun v => v.length ≤ 2) := by
  unfold f55
  obtain ⟨x, i1, h1, e1, g1, p1⟩ := str_dr n [#[97].toList, #[98].toList, #[99].toList, #[100].toList, #[101, 53].toList] (by simp) b i h hi hb
  rw [e1, obind_some]
  refine ⟨_, _, _, rfl, g1, ?_⟩
  simp only [List.mem_cons, List.not_mem_nil, or_false] at p1
  rcases p1 with rfl | rfl | rfl | rfl | rfl <;> simp
end Go.Sym

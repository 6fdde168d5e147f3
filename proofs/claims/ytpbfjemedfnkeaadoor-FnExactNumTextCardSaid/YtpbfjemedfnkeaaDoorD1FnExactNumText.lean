import Derived.Test.YtpbfjemedfnkeaaDoorQFnExactNumText
import Derived.Test.YtpbfjemedfnkeaaDoorM2
import Derived.Test.YtpbfjemedfnkeaaDoorL2
namespace Go.Sym
open Go Go.Proofs
set_option maxRecDepth 100000
set_option linter.unusedVariables false
theorem dg : ∀ k : Nat, k < 10 → UInt8.ofNat (IntKind.u8.wrap (W (48 + (k : Int)))).toNat = UInt8.ofNat (48 + k) := by decide +kernel
theorem tm_pos (u : Nat) : Int.tmod (u : Int) 10 = ((u % 10 : Nat) : Int) := by
  rw [Int.tmod_eq_emod_of_nonneg (by omega)]
  omega
theorem td_pos (u : Nat) : Int.tdiv (u : Int) 10 = ((u / 10 : Nat) : Int) := by
  rw [Int.tdiv_eq_ediv_of_nonneg (by omega)]
  omega
def sg (x : Int) : List UInt8 := if x < 0 then [45] else []
theorem num_loop (n : Nat) (x0 : Int) : ∀ (j m u : Nat) (x : Int) (s : List UInt8), (x = (u : Int) ∨ x = -(u : Int)) → u < 2 ^ j → u ≤ 9223372036854775808 → -9223372036854775808 ≤ x → x ≤ 9223372036854775807 → j < m → s.length + j ≤ 1000 →
    f7L0 n m (x0, s, x, ()) = some (sg x0 ++ ((if u = 0 then [] else Lib.decDigits u) ++ s), ())
  | j, 0, u, x, s, _, _, _, _, _, h, _ => by omega
  | 0, m + 1, u, x, s, hx, hu, _, _, _, _, hs => by
    have hu0 : u = 0 := by simpa using hu
    subst hu0
    have hx0 : x = 0 := by omega
    subst hx0
    rw [f7L0, if_neg (by simp)]
    unfold sg
    by_cases h : x0 < 0
    · rw [if_pos (by simpa using h), if_pos (by simp; omega), if_pos h]
      simp
    · rw [if_neg (by simpa using h), if_neg h]
      simp
  | j + 1, m + 1, u, x, s, hx, hu, hu2, hl, hh, hm, hs => by
    by_cases h0 : u = 0
    · subst h0
      have hx0 : x = 0 := by omega
      subst hx0
      rw [f7L0, if_neg (by simp)]
      unfold sg
      by_cases h : x0 < 0
      · rw [if_pos (by simpa using h), if_pos (by simp; omega), if_pos h]
        simp
      · rw [if_neg (by simpa using h), if_neg h]
        simp
    · have hne : (x != 0) = true := by simp; omega
      have hk : u % 10 < 10 := Nat.mod_lt _ (by decide)
      have hdig : ∀ c : UInt8, decide ([c].length + List.length s ≤ 9223372036854775807) = true := fun c => by simp; omega
      have ihx : ∀ y : Int, (y = ((u / 10 : Nat) : Int) ∨ y = -((u / 10 : Nat) : Int)) → f7L0 n m (x0, [UInt8.ofNat (48 + u % 10)] ++ s, y, ()) = some (sg x0 ++ ((if u = 0 then [] else Lib.decDigits u) ++ s), ()) := fun y hy => by
        rw [num_loop n x0 j m (u / 10) y _ hy (by rw [Nat.pow_succ] at hu; omega) (by omega) (by omega) (by omega) (by omega) (by simp; omega), if_neg h0]
        by_cases h10 : u < 10
        · have e : u / 10 = 0 := by omega
          have e2 : u % 10 = u := by omega
          have e3 : Lib.decDigits u = [UInt8.ofNat (48 + u)] := by rw [Lib.decDigits, dif_pos h10]
          rw [e, if_pos rfl, e2, e3]
          simp
        · have e : ¬ u / 10 = 0 := by omega
          have e3 : Lib.decDigits u = Lib.decDigits (u / 10) ++ [UInt8.ofNat (48 + u % 10)] := by rw [Lib.decDigits, dif_neg h10]
          rw [if_neg e, e3]
          simp
      rw [f7L0, if_pos hne]
      rcases hx with rfl | rfl
      · rw [tm_pos, td_pos, if_neg (by simp; omega), dg _ hk, if_pos (hdig _), W_same (by omega) (by omega)]
        exact ihx _ (.inl rfl)
      · have e1 : Int.tmod (-(u : Int)) 10 = -((u % 10 : Nat) : Int) := by rw [Int.neg_tmod, tm_pos]
        have e2 : Int.tdiv (-(u : Int)) 10 = -((u / 10 : Nat) : Int) := by rw [Int.neg_tdiv, td_pos]
        rw [e1, e2, W_same (x := -((u / 10 : Nat) : Int)) (by omega) (by omega)]
        by_cases hz : u % 10 = 0
        · rw [if_neg (by simp; omega), hz]
          have := dg 0 (by decide)
          rw [hz] at ihx
          simp only [Int.natCast_zero, Int.neg_zero] at this ⊢
          rw [this, if_pos (hdig _)]
          exact ihx _ (.inr rfl)
        · have e3 : W (0 - -((u % 10 : Nat) : Int)) = ((u % 10 : Nat) : Int) := by rw [W_same (by omega) (by omega)]; omega
          rw [if_pos (by simp; omega), e3, dg _ hk, if_pos (hdig _)]
          exact ihx _ (.inr rfl)
theorem num_eq (n : Nat) (hn : 1000 ≤ n) (x : Int) (h0 : -9223372036854775808 ≤ x) (h1 : x ≤ 9223372036854775807) : f7 n x = some (Lib.itoa x, ()) ∧ f8 n x = some (Lib.itoa x, ()) := by
  constructor
  · unfold f7
    by_cases hx : x = 0
    · subst hx
      have : Lib.itoa 0 = [48] := by
        unfold Lib.itoa
        rw [if_neg (by omega)]
        show Lib.decDigits 0 = _
        rw [Lib.decDigits, dif_pos (by decide)]
        rfl
      rw [this]
      rfl
    · rw [if_neg (by simpa using hx)]
      have := num_loop n x 64 n x.natAbs x [] (by omega) (by omega) (by omega) h0 h1 (by omega) (by simp)
      show f7L0 n n (x, [], x, ()) = _
      rw [this, if_neg (by omega)]
      unfold sg Lib.itoa
      by_cases hneg : x < 0
      · rw [if_pos hneg, if_pos hneg]
        simp
      · rw [if_neg hneg, if_neg hneg]
        have : x.natAbs = x.toNat := by omega
        rw [this]
        simp
  · unfold f8 f21
    rw [if_pos h0, if_pos h1]
    simp only [Option.map_some, obind_some]
theorem core3 (x : Int) (hf : Ty.Fit (.int .i64) x) : f3 1000 x = some (true, ()) := by
  have hb := bounds_i64 hf
  obtain ⟨a, b⟩ := num_eq 1000 (Nat.le_refl _) x (by omega) (by omega)
  unfold f3
  rw [a, obind_some, b, obind_some]
  simp
theorem plain3 : ∀ y : F3.T, F3.Fit y → ∃ n, s3.fn n y = some (true, ()) := by
  rintro ⟨x0, _⟩ ⟨h0, _⟩
  exact ⟨1000, (e3 1000 x0).trans (core3 x0 h0)⟩
end Go.Sym

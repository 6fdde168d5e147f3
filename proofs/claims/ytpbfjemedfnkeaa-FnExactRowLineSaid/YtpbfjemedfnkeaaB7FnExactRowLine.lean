import Derived.Test.YtpbfjemedfnkeaaQFnExactRowLine
import Derived.Test.YtpbfjemedfnkeaaL2
namespace Go.Sym
open Go Go.Proofs
set_option maxRecDepth 100000
set_option linter.unusedVariables false
set_option linter.unusedSimpArgs false
abbrev hA1 (b : UInt8) : Int := (↑(UInt8.ofNat ((↑b.toNat : Int).fdiv (2 ^ min (Int.toNat 4) IntKind.u8.bits)).toNat).toNat : Int)
abbrev hA2 (b : UInt8) : Int := (↑(UInt8.ofNat (IntKind.u8.wrap (↑(BitVec.ofInt IntKind.u8.bits (↑b.toNat : Int) &&& BitVec.ofInt IntKind.u8.bits (↑(UInt8.ofNat (Int.toNat 15)).toNat : Int)).toNat : Int)).toNat).toNat : Int)
abbrev hB1 (b : UInt8) : Int := (↑(UInt8.ofNat (IntKind.u8.wrap ((↑b.toNat : Int).tdiv (↑(UInt8.ofNat (Int.toNat 16)).toNat : Int))).toNat).toNat : Int)
abbrev hB2 (b : UInt8) : Int := (↑(UInt8.ofNat ((↑b.toNat : Int).tmod (↑(UInt8.ofNat (Int.toNat 16)).toNat : Int)).toNat).toNat : Int)
theorem hex_bits : ∀ b : UInt8, hA1 b = hB1 b ∧ hA2 b = hB2 b ∧ inR 16 (hB1 b) = true ∧ inR 16 (hB2 b) = true := by
  have h : ∀ k : Fin 256, hA1 (UInt8.ofNat k.val) = hB1 (UInt8.ofNat k.val) ∧ hA2 (UInt8.ofNat k.val) = hB2 (UInt8.ofNat k.val) ∧ inR 16 (hB1 (UInt8.ofNat k.val)) = true ∧ inR 16 (hB2 (UInt8.ofNat k.val)) = true := by decide +kernel
  intro b
  have := h ⟨b.toNat, b.toNat_lt⟩
  simpa only [UInt8.ofNat_toNat] using this
theorem hex_loop (n : Nat) {l : List UInt8} (hl : l.length ≤ 1048576) :
    ∀ (k i m : Nat) (acc : List UInt8), i + k = l.length → acc.length = 2 * i → k < m → ∃ v : List UInt8, v.length = 2 * l.length ∧ f89L0 n m (l, #[48, 49, 50, 51, 52, 53, 54, 55, 56, 57, 97, 98, 99, 100, 101, 102].toList, (i : Int), acc, ()) = some (v, ()) ∧ f92L0 n m (l, (l.length : Int), (i : Int), acc, ()) = some (v, ())
  | k, i, 0, _, _, _, h => by omega
  | 0, i, m + 1, acc, hi, ha, _ => ⟨acc, by omega, by rw [f89L0, if_neg (by simp; omega)], by rw [f92L0, if_neg (by simp; omega)]⟩
  | k + 1, i, m + 1, acc, hi, ha, hm => by
    have hlt : i < l.length := by omega
    have hin : inR l.length (i : Int) = true := by rw [inR_nat]; simpa using hlt
    have hd : decide ((i : Int) < (l.length : Int)) = true := by simp; omega
    rw [f89L0, f92L0, W_same (x := (i : Int) + 1) (by omega) (by omega)]
    obtain ⟨b, hb⟩ : ∃ b, rd l (i : Int) = b := ⟨_, rfl⟩
    obtain ⟨q1, q2, q3, q4⟩ := hex_bits b
    have h16 : (#[(48 : UInt8), 49, 50, 51, 52, 53, 54, 55, 56, 57, 97, 98, 99, 100, 101, 102].toList).length = 16 := rfl
    rw [hb]
    unfold hA1 hB1 at q1
    unfold hA2 hB2 at q2
    unfold hB1 at q3
    unfold hB2 at q4
    simp only [hin, hd, if_true, q1, q2, h16, q3, q4]
    generalize hx : List.getD (#[(48 : UInt8), 49, 50, 51, 52, 53, 54, 55, 56, 57, 97, 98, 99, 100, 101, 102].toList) (Int.toNat (hB1 b)) 0 = x
    generalize hy : List.getD (#[(48 : UInt8), 49, 50, 51, 52, 53, 54, 55, 56, 57, 97, 98, 99, 100, 101, 102].toList) (Int.toNat (hB2 b)) 0 = y
    have hr : (((acc.length + [x, y].length) * 1).ble 140737488355328) = true := by
      rw [Nat.ble_eq, ha]; simp; omega
    obtain ⟨v, h0, h1, h2⟩ := hex_loop n hl k (i + 1) m (acc ++ [x, y]) (by omega) (by simp; omega) (by omega)
    refine ⟨v, h0, ?_, ?_⟩
    · rw [if_pos hr]; exact h1
    · show (if inR 16 (hB1 b) = true then if inR 16 (hB2 b) = true then if (((acc.length + [x, y].length) * 1).ble 140737488355328) = true then f92L0 n m (l, (l.length : Int), (i : Int) + 1, acc ++ [x, y], ()) else none else none else none) = some (v, ())
      rw [if_pos q3, if_pos q4, if_pos hr]
      exact h2
theorem name_eq (n : Nat) (c : Int) : ∃ s : List UInt8, s.length ≤ 8 ∧ f88 n c = some (s, ()) ∧ f91 n c = some (s, ()) := by
  unfold f88 f91 f120 f57 f102
  simp only [obind_some]
  by_cases hc : (if decide (c ≥ 0) = true then decide (c ≤ 5) else false) = true
  · have h0 : 0 ≤ c ∧ c ≤ 5 := by
      by_cases h : c ≥ 0
      · simp [h] at hc
        exact ⟨h, hc⟩
      · simp [h] at hc
    have : c = 0 ∨ c = 1 ∨ c = 2 ∨ c = 3 ∨ c = 4 ∨ c = 5 := by omega
    rcases this with rfl | rfl | rfl | rfl | rfl | rfl <;> exact ⟨_, by decide, rfl, rfl⟩
  · have hc' : (if decide (c ≥ 0) = true then decide (c ≤ 5) else false) = false := by simpa using hc
    rw [hc']
    exact ⟨[], by simp, rfl, rfl⟩
theorem cell_eq (n : Nat) (hn : 1048577 ≤ n) (c : Int) (l : List UInt8) (hl : l.length ≤ 1048576) : ∃ s : List UInt8, s.length ≤ 4194304 ∧ f47 n c l = some (s, ()) ∧ f50 n c l = some (s, ()) := by
  obtain ⟨a, ha, a1, a2⟩ := name_eq n c
  obtain ⟨v, hv, v1, v2⟩ := hex_loop n hl l.length 0 n [] (Nat.zero_add _) rfl (by omega)
  have v1' : f89 n l = some (v, ()) := v1
  have v2' : f92 n l = some (v, ()) := v2
  have c1 : decide (List.length a + [(61 : UInt8)].length ≤ 9223372036854775807) = true := by simp; omega
  have c2 : decide ((a ++ [(61 : UInt8)]).length + List.length v ≤ 9223372036854775807) = true := by simp; omega
  refine ⟨a ++ [(61 : UInt8)] ++ v, by simp; omega, ?_, ?_⟩
  · unfold f47
    rw [a1, obind_some]
    refine (if_pos c1).trans ?_
    rw [v1', obind_some]
    exact if_pos c2
  · unfold f50
    rw [a2, obind_some]
    refine (if_pos c1).trans ?_
    rw [v2', obind_some]
    exact if_pos c2
theorem and_two (x : Nat) : x &&& 2 = (x % 4) &&& 2 := by
  have h : x % 4 = x &&& 3 := (Nat.and_two_pow_sub_one_eq_mod x 2).symm
  rw [h, Nat.and_assoc]
  rfl
def bit (x : Int) (k : Nat) : Int := W (↑(BitVec.ofInt IntKind.i64.bits x &&& BitVec.ofInt IntKind.i64.bits (k : Int)).toNat : Int)
theorem bits (x : Int) : ((bit x 1 = 0 ∧ bit x 2 = 0 ∧ bit x 3 = 0) ∨ (bit x 1 = 1 ∧ bit x 2 = 0 ∧ bit x 3 = 1)) ∨ ((bit x 1 = 0 ∧ bit x 2 = 2 ∧ bit x 3 = 2) ∨ (bit x 1 = 1 ∧ bit x 2 = 2 ∧ bit x 3 = 3)) := by
  have e1 : (BitVec.ofInt IntKind.i64.bits x &&& BitVec.ofInt IntKind.i64.bits ((1 : Nat) : Int)).toNat = (BitVec.ofInt IntKind.i64.bits x).toNat % 4 % 2 := by
    rw [BitVec.toNat_and, show (BitVec.ofInt IntKind.i64.bits ((1 : Nat) : Int)).toNat = 1 from rfl, Nat.and_one_is_mod]
    omega
  have e2 : (BitVec.ofInt IntKind.i64.bits x &&& BitVec.ofInt IntKind.i64.bits ((2 : Nat) : Int)).toNat = (BitVec.ofInt IntKind.i64.bits x).toNat % 4 &&& 2 := by
    rw [BitVec.toNat_and, show (BitVec.ofInt IntKind.i64.bits ((2 : Nat) : Int)).toNat = 2 from rfl, and_two]
  have e3 : (BitVec.ofInt IntKind.i64.bits x &&& BitVec.ofInt IntKind.i64.bits ((3 : Nat) : Int)).toNat = (BitVec.ofInt IntKind.i64.bits x).toNat % 4 := by
    rw [BitVec.toNat_and, show (BitVec.ofInt IntKind.i64.bits ((3 : Nat) : Int)).toNat = 2 ^ 2 - 1 from rfl, Nat.and_two_pow_sub_one_eq_mod]
  unfold bit
  rw [e1, e2, e3]
  have hq : (BitVec.ofInt IntKind.i64.bits x).toNat % 4 < 4 := Nat.mod_lt _ (by decide)
  generalize (BitVec.ofInt IntKind.i64.bits x).toNat % 4 = q at hq
  have : q = 0 ∨ q = 1 ∨ q = 2 ∨ q = 3 := by omega
  rcases this with rfl | rfl | rfl | rfl
  · exact .inl (.inl ⟨rfl, rfl, rfl⟩)
  · exact .inl (.inr ⟨rfl, rfl, rfl⟩)
  · exact .inr (.inl ⟨rfl, rfl, rfl⟩)
  · exact .inr (.inr ⟨rfl, rfl, rfl⟩)
theorem len_ok {a b : Nat} (h : a + b ≤ 9223372036854775807) : decide (a + b ≤ 9223372036854775807) = true := by simpa using h
theorem join_1 (n : Nat) (a : List UInt8) (h : a.length ≤ 4194304) : f51 n ([] ++ [a]) [(32 : UInt8)] = some (a, ()) := by
  unfold f51
  have e : Lib.join ([] ++ [a]) [(32 : UInt8)] = a := Lib.join_one a _
  rw [e, if_pos (by simp), if_pos (by omega)]
  rfl
theorem join_2 (n : Nat) (a b : List UInt8) (h : a.length ≤ 4194304) (h' : b.length ≤ 4194304) : f51 n ([] ++ [a] ++ [b]) [(32 : UInt8)] = some (a ++ [(32 : UInt8)] ++ b, ()) := by
  unfold f51
  have e : Lib.join ([] ++ [a] ++ [b]) [(32 : UInt8)] = a ++ [(32 : UInt8)] ++ b := by simp [Lib.join, List.intercalate]
  rw [e, if_pos (by simp), if_pos (by simp; omega)]
  rfl
theorem join_0 (n : Nat) : f51 n [] [(32 : UInt8)] = some ([], ()) := by
  unfold f51
  rfl
theorem row_eq (n : Nat) (hn : 1048577 ≤ n) (x0 : List UInt8) (x1 : Int) (x2 : List UInt8) (x3 : Int) (x4 : List UInt8) (x5 : Int) (x6 : Bool) (h0 : x0.length ≤ 1048576) (h2 : x2.length ≤ 1048576) (h4 : x4.length ≤ 1048576) :
    ∃ s, f11 n x0 x1 x2 x3 x4 x5 x6 = some (s, ()) ∧ f13 n x0 x1 x2 x3 x4 x5 x6 = some (s, ()) := by
  obtain ⟨a, la, a1, a2⟩ := cell_eq n hn x1 x2 h2
  obtain ⟨b, lb, b1, b2⟩ := cell_eq n hn x3 x4 h4
  have t11 : ((1 : Int) == 1) = true := rfl
  have t01 : ((0 : Int) == 1) = false := rfl
  have t22 : ((2 : Int) == 2) = true := rfl
  have t02 : ((0 : Int) == 2) = false := rfl
  have t33 : ((3 : Int) == 3) = true := rfl
  have t23 : ((2 : Int) == 3) = false := rfl
  have t13 : ((1 : Int) == 3) = false := rfl
  have t03 : ((0 : Int) == 3) = false := rfl
  have n1 : ((1 : Int) != 0) = true := rfl
  have n2 : ((2 : Int) != 0) = true := rfl
  have n0 : ((0 : Int) != 0) = false := rfl
  have hb1 : ∀ z : List UInt8, ((0 + [z].length) * 16).ble 140737488355328 = true := fun z => rfl
  have hb2 : ∀ z y : List UInt8, ((([] ++ [z]).length + [y].length) * 16).ble 140737488355328 = true := fun z y => rfl
  have hk : ∀ (p q : List UInt8), p.length ≤ 16777216 → q.length ≤ 16777216 → decide (p.length + q.length ≤ 9223372036854775807) = true := fun p q hp hq => len_ok (by omega)
  have l1 : ([(58 : UInt8)]).length ≤ 16777216 := by decide
  have l2 : ([(32 : UInt8)]).length ≤ 16777216 := by decide
  have l3 : ([(33 : UInt8)]).length ≤ 16777216 := by decide
  have la' : a.length ≤ 16777216 := by omega
  have lb' : b.length ≤ 16777216 := by omega
  have l0' : x0.length ≤ 16777216 := by omega
  have k0 : (x0 ++ [(58 : UInt8)]).length ≤ 16777216 := by simp; omega
  have k1 : (x0 ++ [(58 : UInt8)] ++ a).length ≤ 16777216 := by simp; omega
  have k2 : (x0 ++ [(58 : UInt8)] ++ b).length ≤ 16777216 := by simp; omega
  have k3 : (x0 ++ [(58 : UInt8)] ++ a ++ [(32 : UInt8)]).length ≤ 16777216 := by simp; omega
  have k4 : (x0 ++ [(58 : UInt8)] ++ a ++ [(32 : UInt8)] ++ b).length ≤ 16777216 := by simp; omega
  have k5 : (a ++ [(32 : UInt8)] ++ b).length ≤ 16777216 := by simp; omega
  have k6 : (x0 ++ [(58 : UInt8)] ++ (a ++ [(32 : UInt8)] ++ b)).length ≤ 16777216 := by simp; omega
  have k7 : (x0 ++ [(58 : UInt8)] ++ []).length ≤ 16777216 := by simp; omega
  have kn : (([] : List UInt8)).length ≤ 16777216 := by simp
  have e11 : W (↑(BitVec.ofInt IntKind.i64.bits x5 &&& BitVec.ofInt IntKind.i64.bits 1).toNat : Int) = bit x5 1 := rfl
  have e12 : W (↑(BitVec.ofInt IntKind.i64.bits x5 &&& BitVec.ofInt IntKind.i64.bits 2).toNat : Int) = bit x5 2 := rfl
  have e13 : W (↑(BitVec.ofInt IntKind.i64.bits x5 &&& BitVec.ofInt IntKind.i64.bits 3).toNat : Int) = bit x5 3 := rfl
  unfold f11 f13 f46 f48
  rcases bits x5 with (⟨i1, i2, i3⟩ | ⟨i1, i2, i3⟩) | (⟨i1, i2, i3⟩ | ⟨i1, i2, i3⟩)
  all_goals rw [i1] at e11
  all_goals rw [i2] at e12
  all_goals rw [i3] at e13
  all_goals cases x6
  all_goals simp only [e11, e12, e13, obind_some, a1, a2, b1, b2, t11, t01, t22, t02, t33, t23, t13, t03, n0, n1, n2, if_true, Bool.false_eq_true, if_false, hb1, hb2, join_0, join_1 n a la, join_1 n b lb, join_2 n a b la lb, hk _ _ l0' l1, hk _ _ k0 la', hk _ _ k0 lb', hk _ _ k1 l2, hk _ _ k3 lb', hk _ _ k4 l3, hk _ _ k1 l3, hk _ _ k2 l3, hk _ _ k0 l3, hk _ _ k0 k5, hk _ _ k6 l3, hk _ _ k0 kn, hk _ _ k7 l3, hk _ _ k3 l3]
  · refine ⟨x0 ++ [(58 : UInt8)], ?_, ?_⟩ <;> (repeat (refine (if_pos (len_ok (by simp; omega))).trans ?_)) <;> simp
  · refine ⟨x0 ++ [(58 : UInt8)] ++ [(33 : UInt8)], ?_, ?_⟩ <;> (repeat (refine (if_pos (len_ok (by simp; omega))).trans ?_)) <;> simp
  · refine ⟨x0 ++ [(58 : UInt8)] ++ a, ?_, ?_⟩ <;> (repeat (refine (if_pos (len_ok (by simp; omega))).trans ?_)) <;> simp
  · refine ⟨x0 ++ [(58 : UInt8)] ++ a ++ [(33 : UInt8)], ?_, ?_⟩ <;> (repeat (refine (if_pos (len_ok (by simp; omega))).trans ?_)) <;> simp
  · refine ⟨x0 ++ [(58 : UInt8)] ++ b, ?_, ?_⟩ <;> (repeat (refine (if_pos (len_ok (by simp; omega))).trans ?_)) <;> simp
  · refine ⟨x0 ++ [(58 : UInt8)] ++ b ++ [(33 : UInt8)], ?_, ?_⟩ <;> (repeat (refine (if_pos (len_ok (by simp; omega))).trans ?_)) <;> simp
  · refine ⟨x0 ++ [(58 : UInt8)] ++ a ++ [(32 : UInt8)] ++ b, ?_, ?_⟩ <;> (repeat (refine (if_pos (len_ok (by simp; omega))).trans ?_)) <;> simp
  · refine ⟨x0 ++ [(58 : UInt8)] ++ a ++ [(32 : UInt8)] ++ b ++ [(33 : UInt8)], ?_, ?_⟩ <;> (repeat (refine (if_pos (len_ok (by simp; omega))).trans ?_)) <;> simp
theorem core3 (n : Nat) (hn : 1048577 ≤ n) (x0 : List UInt8) (x1 : Int) (x2 : List UInt8) (x3 : Int) (x4 : List UInt8) (x5 : Int) (x6 : Bool) (h0 : Ty.Fit .str x0) (h2 : Ty.Fit (.sl .u8) x2) (h4 : Ty.Fit (.sl .u8) x4) : f3 n x0 x1 x2 x3 x4 x5 x6 = some (true, ()) := by
  unfold f3
  rw [Z10 n hn x0 x1 x2 x3 x4 x5 x6 1048576 (by omega) (by omega) h0 h2 h4]
  refine law_start (fun hz => ?_)
  obtain ⟨s, e1, e2⟩ := row_eq n hn x0 x1 x2 x3 x4 x5 x6 (by omega) (by omega) (by omega)
  have q : (!s == s) = false := by simp
  rw [T12 n hn x0 x1 x2 x3 x4 x5 x6 hz]
  simp only [obind_some, e1, e2, Q14 n hn x0 x1 x2 x3 x4 x5 x6 hz, q, Bool.not_true, Bool.false_eq_true, if_false]
theorem plain3 : ∀ y : F3.T, F3.Fit y → ∃ n, s3.fn n y = some (true, ()) := by
  rintro ⟨x0, x1, x2, x3, x4, x5, x6, _⟩ ⟨h0, _, h2, _, h4, _⟩
  exact ⟨1048577, (e3 1048577 x0 x1 x2 x3 x4 x5 x6).trans (core3 1048577 (Nat.le_refl _) x0 x1 x2 x3 x4 x5 x6 h0 h2 h4)⟩
end Go.Sym

import Derived.Test.YtfeaificmendeaaGreatDoorE5FnShown
namespace Go.Sym
open Go Go.Proofs
set_option maxRecDepth 100000
set_option linter.unusedVariables false
set_option linter.unusedSimpArgs false
theorem u8_all {p : UInt8 → Prop} (h : ∀ k, k < 256 → p (UInt8.ofNat k)) (c : UInt8) : p c := by
  have := h c.toNat c.toNat_lt
  rwa [UInt8.ofNat_toNat] at this
def hexv (c : UInt8) : Int := Lib.indexByte (#[48, 49, 50, 51, 52, 53, 54, 55, 56, 57, 97, 98, 99, 100, 101, 102] : Array UInt8).toList c
theorem hexv_le : ∀ c, -1 ≤ hexv c ∧ hexv c ≤ 15 := u8_all (by unfold hexv; decide +kernel)
theorem hexv_spec (n : Nat) : ∀ c, f42 n c = some (hexv c, ()) := by
  intro c
  simp only [f42, f38, obind_some]
  revert c
  exact u8_all (by unfold hexv; decide +kernel)
theorem hexv_impl (n : Nat) (c : UInt8) : f40 n (#[48, 49, 50, 51, 52, 53, 54, 55, 56, 57, 97, 98, 99, 100, 101, 102].toList) c = some (hexv c, ()) := rfl
theorem hexv_impl' (n : Nat) (c : UInt8) : f40 n [48, 49, 50, 51, 52, 53, 54, 55, 56, 57, 97, 98, 99, 100, 101, 102] c = some (hexv c, ()) := rfl
theorem odd_loop (n : Nat) {l : List UInt8} (hl : l.length ≤ 1048576) (ho : l.length % 2 = 1) : ∀ (k i m : Nat) (acc : List UInt8), l.length ≤ i + 2 * k → k < m → i ≤ l.length → acc.length ≤ i → f15L0 n m (l, (i : Int), acc, ()) = some (false, [], ())
  | k, i, 0, acc, _, h, _, _ => by omega
  | k, i, m + 1, acc, hk, hm, hi, ha => by
    have c0 : ((l.length : Int).tmod 2 == 1) = true := by
      rw [Int.tmod_eq_emod_of_nonneg (by omega)]
      simp
      omega
    rw [f15L0, W_same (x := (i : Int) + 1) (by omega) (by omega)]
    by_cases h : ((i : Int) + 1 < (l.length : Int))
    · cases k with
      | zero => omega
      | succ k =>
        have c2 : inR l.length (i : Int) = true := by rw [inR_nat]; simp; omega
        have c3 : inR l.length ((i : Int) + 1) = true := by rw [show (i : Int) + 1 = ((i + 1 : Nat) : Int) by omega, inR_nat]; simp; omega
        rw [if_pos (by simpa using h), if_pos c2, hexv_spec, obind_some, if_pos c3, hexv_spec, obind_some]
        dsimp only
        by_cases hb : (if decide (hexv (l.getD (Int.toNat (i : Int)) 0) < 0) = true then true else decide (hexv (l.getD ((i : Int) + 1).toNat 0) < 0)) = true
        · rw [if_pos hb]
        · rw [if_neg hb, if_pos (Nat.ble_eq_true_of_le (by simp only [List.length_singleton]; omega)), W_same (x := (i : Int) + 2) (by omega) (by omega)]
          exact odd_loop n hl ho k (i + 2) m _ (by omega) (by omega) (by omega) (by rw [List.length_append, List.length_singleton]; omega)
    · rw [if_neg (by simpa using h), if_pos c0]
theorem even_loop (n : Nat) {l : List UInt8} (hl : l.length ≤ 1048576) (he : l.length % 2 = 0) : ∀ (k i m : Nat) (acc : List UInt8), i + 2 * k = l.length → k < m → acc.length ≤ i →
    ∃ b r, r.length ≤ l.length ∧ f15L0 n m (l, (i : Int), acc, ()) = some (b, r, ()) ∧ f12L0 n m (l, (i : Int), acc, ()) = some (b, r, ())
  | k, i, 0, acc, _, h, _ => by omega
  | 0, i, m + 1, acc, hk, hm, ha => by
    have c0 : ((l.length : Int).tmod 2 == 1) = false := by
      rw [Int.tmod_eq_emod_of_nonneg (by omega)]
      simp
      omega
    refine ⟨true, acc, by omega, ?_, ?_⟩
    · rw [f15L0, W_same (x := (i : Int) + 1) (by omega) (by omega), if_neg (by simp; omega), c0]
      rfl
    · rw [f12L0, if_neg (by simp; omega)]
  | k + 1, i, m + 1, acc, hk, hm, ha => by
    have c2 : inR l.length (i : Int) = true := by rw [inR_nat]; simp; omega
    have c3 : inR l.length ((i : Int) + 1) = true := by rw [show (i : Int) + 1 = ((i + 1 : Nat) : Int) by omega, inR_nat]; simp; omega
    have w1 : W ((i : Int) + 1) = (i : Int) + 1 := W_same (by omega) (by omega)
    have w2 : W ((i : Int) + 2) = (i : Int) + 2 := W_same (by omega) (by omega)
    have d1 : decide ((i : Int) + 1 < (l.length : Int)) = true := by simp; omega
    have d2 : decide ((i : Int) < (l.length : Int)) = true := by simp; omega
    rw [f15L0, f12L0]
    simp only [w1, w2, d1, d2, c2, c3, hexv_spec, hexv_impl', obind_some, if_true]
    by_cases hb : (if decide (hexv (l.getD (Int.toNat (i : Int)) 0) < 0) = true then true else decide (hexv (l.getD ((i : Int) + 1).toNat 0) < 0)) = true
    · exact ⟨false, [], by simp, by rw [if_pos hb], by rw [if_pos hb]⟩
    · have hm : 16 * hexv (l.getD (Int.toNat (i : Int)) 0) = hexv (l.getD (Int.toNat (i : Int)) 0) * 16 := Int.mul_comm _ _
      have hble : ∀ z : UInt8, ((acc.length + [z].length) * 1).ble 140737488355328 = true := fun z => Nat.ble_eq_true_of_le (by simp only [List.length_singleton]; omega)
      rw [if_neg hb, if_neg hb, if_pos (hble _), if_pos (hble _), hm]
      exact even_loop n hl he k (i + 2) m _ (by omega) (by omega) (by simp; omega)
theorem parse_eq (n : Nat) (hn : 1048577 ≤ n) (l : List UInt8) (hl : l.length ≤ 1048576) : ∃ b r, r.length ≤ l.length ∧ f15 n l = some (b, r, ()) ∧ f12 n l = some (b, r, ()) := by
  by_cases ho : l.length % 2 = 1
  · have h1 : f15 n l = some (false, [], ()) := odd_loop n hl ho l.length 0 n [] (by omega) (by omega) (by omega) (by simp)
    refine ⟨false, [], by simp, h1, ?_⟩
    unfold f12
    rw [if_pos]
    rw [Int.tmod_eq_emod_of_nonneg (by omega)]
    simp
    omega
  · obtain ⟨b, r, h1, h2, h3⟩ := even_loop n hl (by omega) (l.length / 2) 0 n [] (by omega) (by omega) (by simp)
    refine ⟨b, r, h1, h2, ?_⟩
    unfold f12
    rw [if_neg]
    · exact h3
    · rw [Int.tmod_eq_emod_of_nonneg (by omega)]
      simp
      omega
abbrev hA1 (b : UInt8) : Int := (↑(UInt8.ofNat ((↑b.toNat : Int).fdiv (2 ^ min (Int.toNat 4) IntKind.u8.bits)).toNat).toNat : Int)
abbrev hA2 (b : UInt8) : Int := (↑(UInt8.ofNat (IntKind.u8.wrap (↑(BitVec.ofInt IntKind.u8.bits (↑b.toNat : Int) &&& BitVec.ofInt IntKind.u8.bits (↑(UInt8.ofNat (Int.toNat 15)).toNat : Int)).toNat : Int)).toNat).toNat : Int)
abbrev hB1 (b : UInt8) : Int := (↑(UInt8.ofNat (IntKind.u8.wrap ((↑b.toNat : Int).tdiv (↑(UInt8.ofNat (Int.toNat 16)).toNat : Int))).toNat).toNat : Int)
abbrev hB2 (b : UInt8) : Int := (↑(UInt8.ofNat ((↑b.toNat : Int).tmod (↑(UInt8.ofNat (Int.toNat 16)).toNat : Int)).toNat).toNat : Int)
theorem hex_bits : ∀ b : UInt8, hA1 b = hB1 b ∧ hA2 b = hB2 b ∧ inR 16 (hB1 b) = true ∧ inR 16 (hB2 b) = true := by
  have h : ∀ k : Fin 256, hA1 (UInt8.ofNat k.val) = hB1 (UInt8.ofNat k.val) ∧ hA2 (UInt8.ofNat k.val) = hB2 (UInt8.ofNat k.val) ∧ inR 16 (hB1 (UInt8.ofNat k.val)) = true ∧ inR 16 (hB2 (UInt8.ofNat k.val)) = true := by decide +kernel
  intro b
  have := h ⟨b.toNat, b.toNat_lt⟩
  simpa only [UInt8.ofNat_toNat] using this
theorem hex_loop (n : Nat) {l : List UInt8} (hl : l.length ≤ 1048576) :
    ∀ (k i m : Nat) (acc : List UInt8), i + k = l.length → acc.length = 2 * i → k < m → ∃ v : List UInt8, v.length = 2 * l.length ∧ f41L0 n m (l, #[48, 49, 50, 51, 52, 53, 54, 55, 56, 57, 97, 98, 99, 100, 101, 102].toList, (i : Int), acc, ()) = some (v, ()) ∧ f13L0 n m (l, (l.length : Int), (i : Int), acc, ()) = some (v, ())
  | k, i, 0, _, _, _, h => by omega
  | 0, i, m + 1, acc, hi, ha, _ => ⟨acc, by omega, by rw [f41L0, if_neg (by simp; omega)], by rw [f13L0, if_neg (by simp; omega)]⟩
  | k + 1, i, m + 1, acc, hi, ha, hm => by
    have hlt : i < l.length := by omega
    have hin : inR l.length (i : Int) = true := by rw [inR_nat]; simpa using hlt
    have hd : decide ((i : Int) < (l.length : Int)) = true := by simp; omega
    rw [f41L0, f13L0, W_same (x := (i : Int) + 1) (by omega) (by omega)]
    obtain ⟨b, hb⟩ : ∃ b, rd l (i : Int) = b := ⟨_, rfl⟩
    obtain ⟨q1, q2, q3, q4⟩ := hex_bits b
    have h16 : (#[(48 : UInt8), 49, 50, 51, 52, 53, 54, 55, 56, 57, 97, 98, 99, 100, 101, 102].toList).length = 16 := rfl
    rw [hb]
    unfold hA1 hB1 at q1
    unfold hA2 hB2 at q2
    unfold hB1 at q3
    unfold hB2 at q4
    simp only [hin, hd, if_true, q1, q2, h16, q3, q4]
    generalize hx : List.getD (#[(48 : UInt8), 49, 50, 51, 52, 53, 54, 55, 56, 57, 97, 98, 99, 100, 101, 102].toList) (Int.toNat (hB1 b)) 0 = x
    generalize hy : List.getD (#[(48 : UInt8), 49, 50, 51, 52, 53, 54, 55, 56, 57, 97, 98, 99, 100, 101, 102].toList) (Int.toNat (hB2 b)) 0 = y
    have hr : (((acc.length + [x, y].length) * 1).ble 140737488355328) = true := by
      rw [Nat.ble_eq, ha]; simp; omega
    obtain ⟨v, h0, h1, h2⟩ := hex_loop n hl k (i + 1) m (acc ++ [x, y]) (by omega) (by simp; omega) (by omega)
    refine ⟨v, h0, ?_, ?_⟩
    · rw [if_pos hr]; exact h1
    · show (if inR 16 (hB1 b) = true then if inR 16 (hB2 b) = true then if (((acc.length + [x, y].length) * 1).ble 140737488355328) = true then f13L0 n m (l, (l.length : Int), (i : Int) + 1, acc ++ [x, y], ()) else none else none else none) = some (v, ())
      rw [if_pos q3, if_pos q4, if_pos hr]
      exact h2
theorem name_eq (n : Nat) (c : Int) : ∃ s : List UInt8, s.length ≤ 8 ∧ f102 n c = some (s, ()) ∧ f98 n c = some (s, ()) := by
  unfold f102 f98 f180 f50 f38
  simp only [obind_some]
  by_cases hc : (if decide (c ≥ 0) = true then decide (c ≤ 5) else false) = true
  · have h0 : 0 ≤ c ∧ c ≤ 5 := by
      by_cases h : c ≥ 0
      · simp [h] at hc
        exact ⟨h, hc⟩
      · simp [h] at hc
    have : c = 0 ∨ c = 1 ∨ c = 2 ∨ c = 3 ∨ c = 4 ∨ c = 5 := by omega
    rcases this with rfl | rfl | rfl | rfl | rfl | rfl <;> exact ⟨_, by decide, rfl, rfl⟩
  · have hc' : (if decide (c ≥ 0) = true then decide (c ≤ 5) else false) = false := by simpa using hc
    rw [hc']
    exact ⟨[], by simp, rfl, rfl⟩
theorem cell_eq (n : Nat) (hn : 1048577 ≤ n) (c : Int) (l : List UInt8) (hl : l.length ≤ 1048576) : ∃ s : List UInt8, s.length ≤ 4194304 ∧ f48 n c l = some (s, ()) ∧ f45 n c l = some (s, ()) := by
  obtain ⟨a, ha, a1, a2⟩ := name_eq n c
  obtain ⟨v, hv, v1, v2⟩ := hex_loop n hl l.length 0 n [] (Nat.zero_add _) rfl (by omega)
  have v1' : f41 n l = some (v, ()) := v1
  have v2' : f13 n l = some (v, ()) := v2
  have c1 : decide (List.length a + [(61 : UInt8)].length ≤ 9223372036854775807) = true := by simp; omega
  have c2 : decide ((a ++ [(61 : UInt8)]).length + List.length v ≤ 9223372036854775807) = true := by simp; omega
  refine ⟨a ++ [(61 : UInt8)] ++ v, by simp; omega, ?_, ?_⟩
  · unfold f48
    rw [a1, obind_some]
    refine (if_pos c1).trans ?_
    rw [v1', obind_some]
    exact if_pos c2
  · unfold f45
    rw [a2, obind_some]
    refine (if_pos c1).trans ?_
    rw [v2', obind_some]
    exact if_pos c2
theorem and_two (x : Nat) : x &&& 2 = (x % 4) &&& 2 := by
  have h : x % 4 = x &&& 3 := (Nat.and_two_pow_sub_one_eq_mod x 2).symm
  rw [h, Nat.and_assoc]
  rfl
def bit (x : Int) (k : Nat) : Int := W (↑(BitVec.ofInt IntKind.i64.bits x &&& BitVec.ofInt IntKind.i64.bits (k : Int)).toNat : Int)
theorem bits (x : Int) : ((bit x 1 = 0 ∧ bit x 2 = 0 ∧ bit x 3 = 0) ∨ (bit x 1 = 1 ∧ bit x 2 = 0 ∧ bit x 3 = 1)) ∨ ((bit x 1 = 0 ∧ bit x 2 = 2 ∧ bit x 3 = 2) ∨ (bit x 1 = 1 ∧ bit x 2 = 2 ∧ bit x 3 = 3)) := by
  have e1 : (BitVec.ofInt IntKind.i64.bits x &&& BitVec.ofInt IntKind.i64.bits ((1 : Nat) : Int)).toNat = (BitVec.ofInt IntKind.i64.bits x).toNat % 4 % 2 := by
    rw [BitVec.toNat_and, show (BitVec.ofInt IntKind.i64.bits ((1 : Nat) : Int)).toNat = 1 from rfl, Nat.and_one_is_mod]
    omega
  have e2 : (BitVec.ofInt IntKind.i64.bits x &&& BitVec.ofInt IntKind.i64.bits ((2 : Nat) : Int)).toNat = (BitVec.ofInt IntKind.i64.bits x).toNat % 4 &&& 2 := by
    rw [BitVec.toNat_and, show (BitVec.ofInt IntKind.i64.bits ((2 : Nat) : Int)).toNat = 2 from rfl, and_two]
  have e3 : (BitVec.ofInt IntKind.i64.bits x &&& BitVec.ofInt IntKind.i64.bits ((3 : Nat) : Int)).toNat = (BitVec.ofInt IntKind.i64.bits x).toNat % 4 := by
    rw [BitVec.toNat_and, show (BitVec.ofInt IntKind.i64.bits ((3 : Nat) : Int)).toNat = 2 ^ 2 - 1 from rfl, Nat.and_two_pow_sub_one_eq_mod]
  unfold bit
  rw [e1, e2, e3]
  have hq : (BitVec.ofInt IntKind.i64.bits x).toNat % 4 < 4 := Nat.mod_lt _ (by decide)
  generalize (BitVec.ofInt IntKind.i64.bits x).toNat % 4 = q at hq
  have : q = 0 ∨ q = 1 ∨ q = 2 ∨ q = 3 := by omega
  rcases this with rfl | rfl | rfl | rfl
  · exact .inl (.inl ⟨rfl, rfl, rfl⟩)
  · exact .inl (.inr ⟨rfl, rfl, rfl⟩)
  · exact .inr (.inl ⟨rfl, rfl, rfl⟩)
  · exact .inr (.inr ⟨rfl, rfl, rfl⟩)
theorem len_ok {a b : Nat} (h : a + b ≤ 9223372036854775807) : decide (a + b ≤ 9223372036854775807) = true := by simpa using h
theorem join_1 (n : Nat) (a : List UInt8) (h : a.length ≤ 4194304) : f46 n ([] ++ [a]) [(32 : UInt8)] = some (a, ()) := by
  unfold f46
  have e : Lib.join ([] ++ [a]) [(32 : UInt8)] = a := Lib.join_one a _
  rw [e, if_pos (by simp), if_pos (by omega)]
  rfl
theorem join_2 (n : Nat) (a b : List UInt8) (h : a.length ≤ 4194304) (h' : b.length ≤ 4194304) : f46 n ([] ++ [a] ++ [b]) [(32 : UInt8)] = some (a ++ [(32 : UInt8)] ++ b, ()) := by
  unfold f46
  have e : Lib.join ([] ++ [a] ++ [b]) [(32 : UInt8)] = a ++ [(32 : UInt8)] ++ b := by simp [Lib.join, List.intercalate]
  rw [e, if_pos (by simp), if_pos (by simp; omega)]
  rfl
theorem join_0 (n : Nat) : f46 n [] [(32 : UInt8)] = some ([], ()) := by
  unfold f46
  rfl
theorem row_eq (n : Nat) (hn : 1048577 ≤ n) (x0 : List UInt8) (x1 : Int) (x2 : List UInt8) (x3 : Int) (x4 : List UInt8) (x5 : Int) (x6 : Bool) (h0 : x0.length ≤ 1048576) (h2 : x2.length ≤ 1048576) (h4 : x4.length ≤ 1048576) :
    ∃ s, f20 n x0 x1 x2 x3 x4 x5 x6 = some (s, ()) ∧ f19 n x0 x1 x2 x3 x4 x5 x6 = some (s, ()) := by
  obtain ⟨a, la, a1, a2⟩ := cell_eq n hn x1 x2 h2
  obtain ⟨b, lb, b1, b2⟩ := cell_eq n hn x3 x4 h4
  have t11 : ((1 : Int) == 1) = true := rfl
  have t01 : ((0 : Int) == 1) = false := rfl
  have t22 : ((2 : Int) == 2) = true := rfl
  have t02 : ((0 : Int) == 2) = false := rfl
  have t33 : ((3 : Int) == 3) = true := rfl
  have t23 : ((2 : Int) == 3) = false := rfl
  have t13 : ((1 : Int) == 3) = false := rfl
  have t03 : ((0 : Int) == 3) = false := rfl
  have n1 : ((1 : Int) != 0) = true := rfl
  have n2 : ((2 : Int) != 0) = true := rfl
  have n0 : ((0 : Int) != 0) = false := rfl
  have hb1 : ∀ z : List UInt8, ((0 + [z].length) * 16).ble 140737488355328 = true := fun z => rfl
  have hb2 : ∀ z y : List UInt8, ((([] ++ [z]).length + [y].length) * 16).ble 140737488355328 = true := fun z y => rfl
  have hk : ∀ (p q : List UInt8), p.length ≤ 16777216 → q.length ≤ 16777216 → decide (p.length + q.length ≤ 9223372036854775807) = true := fun p q hp hq => len_ok (by omega)
  have l1 : ([(58 : UInt8)]).length ≤ 16777216 := by decide
  have l2 : ([(32 : UInt8)]).length ≤ 16777216 := by decide
  have l3 : ([(33 : UInt8)]).length ≤ 16777216 := by decide
  have la' : a.length ≤ 16777216 := by omega
  have lb' : b.length ≤ 16777216 := by omega
  have l0' : x0.length ≤ 16777216 := by omega
  have k0 : (x0 ++ [(58 : UInt8)]).length ≤ 16777216 := by simp; omega
  have k1 : (x0 ++ [(58 : UInt8)] ++ a).length ≤ 16777216 := by simp; omega
  have k2 : (x0 ++ [(58 : UInt8)] ++ b).length ≤ 16777216 := by simp; omega
  have k3 : (x0 ++ [(58 : UInt8)] ++ a ++ [(32 : UInt8)]).length ≤ 16777216 := by simp; omega
  have k4 : (x0 ++ [(58 : UInt8)] ++ a ++ [(32 : UInt8)] ++ b).length ≤ 16777216 := by simp; omega
  have k5 : (a ++ [(32 : UInt8)] ++ b).length ≤ 16777216 := by simp; omega
  have k6 : (x0 ++ [(58 : UInt8)] ++ (a ++ [(32 : UInt8)] ++ b)).length ≤ 16777216 := by simp; omega
  have k7 : (x0 ++ [(58 : UInt8)] ++ []).length ≤ 16777216 := by simp; omega
  have kn : (([] : List UInt8)).length ≤ 16777216 := by simp
  have e11 : W (↑(BitVec.ofInt IntKind.i64.bits x5 &&& BitVec.ofInt IntKind.i64.bits 1).toNat : Int) = bit x5 1 := rfl
  have e12 : W (↑(BitVec.ofInt IntKind.i64.bits x5 &&& BitVec.ofInt IntKind.i64.bits 2).toNat : Int) = bit x5 2 := rfl
  have e13 : W (↑(BitVec.ofInt IntKind.i64.bits x5 &&& BitVec.ofInt IntKind.i64.bits 3).toNat : Int) = bit x5 3 := rfl
  unfold f20 f19 f47 f49
  rcases bits x5 with (⟨i1, i2, i3⟩ | ⟨i1, i2, i3⟩) | (⟨i1, i2, i3⟩ | ⟨i1, i2, i3⟩)
  all_goals rw [i1] at e11
  all_goals rw [i2] at e12
  all_goals rw [i3] at e13
  all_goals cases x6
  all_goals simp only [e11, e12, e13, obind_some, a1, a2, b1, b2, t11, t01, t22, t02, t33, t23, t13, t03, n0, n1, n2, if_true, Bool.false_eq_true, if_false, hb1, hb2, join_0, join_1 n a la, join_1 n b lb, join_2 n a b la lb, hk _ _ l0' l1, hk _ _ k0 la', hk _ _ k0 lb', hk _ _ k1 l2, hk _ _ k3 lb', hk _ _ k4 l3, hk _ _ k1 l3, hk _ _ k2 l3, hk _ _ k0 l3, hk _ _ k0 k5, hk _ _ k6 l3, hk _ _ k0 kn, hk _ _ k7 l3, hk _ _ k3 l3]
  · refine ⟨x0 ++ [(58 : UInt8)], ?_, ?_⟩ <;> (repeat (refine (if_pos (len_ok (by simp; omega))).trans ?_)) <;> simp
  · refine ⟨x0 ++ [(58 : UInt8)] ++ [(33 : UInt8)], ?_, ?_⟩ <;> (repeat (refine (if_pos (len_ok (by simp; omega))).trans ?_)) <;> simp
  · refine ⟨x0 ++ [(58 : UInt8)] ++ a, ?_, ?_⟩ <;> (repeat (refine (if_pos (len_ok (by simp; omega))).trans ?_)) <;> simp
  · refine ⟨x0 ++ [(58 : UInt8)] ++ a ++ [(33 : UInt8)], ?_, ?_⟩ <;> (repeat (refine (if_pos (len_ok (by simp; omega))).trans ?_)) <;> simp
  · refine ⟨x0 ++ [(58 : UInt8)] ++ b, ?_, ?_⟩ <;> (repeat (refine (if_pos (len_ok (by simp; omega))).trans ?_)) <;> simp
  · refine ⟨x0 ++ [(58 : UInt8)] ++ b ++ [(33 : UInt8)], ?_, ?_⟩ <;> (repeat (refine (if_pos (len_ok (by simp; omega))).trans ?_)) <;> simp
  · refine ⟨x0 ++ [(58 : UInt8)] ++ a ++ [(32 : UInt8)] ++ b, ?_, ?_⟩ <;> (repeat (refine (if_pos (len_ok (by simp; omega))).trans ?_)) <;> simp
  · refine ⟨x0 ++ [(58 : UInt8)] ++ a ++ [(32 : UInt8)] ++ b ++ [(33 : UInt8)], ?_, ?_⟩ <;> (repeat (refine (if_pos (len_ok (by simp; omega))).trans ?_)) <;> simp
end Go.Sym

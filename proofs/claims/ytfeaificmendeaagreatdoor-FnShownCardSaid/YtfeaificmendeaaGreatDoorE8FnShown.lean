import Derived.Test.YtfeaificmendeaaGreatDoorE7FnShown
namespace Go.Sym
open Go Go.Proofs
set_option maxRecDepth 100000
set_option linter.unusedVariables false
set_option linter.unusedSimpArgs false
theorem at_tot (n : Nat) (l : List UInt8) (hl : l.length ≤ 1048576) (i : Int) (h0 : 0 ≤ i) (h1 : i ≤ 100) : ∃ v, f6 n l i = some (v, ()) ∧ 0 ≤ v ∧ v ≤ 255 := by
  unfold f6
  by_cases h : i < (l.length : Int)
  · rw [if_pos (by simpa using h), if_pos (inR_iff.2 ⟨h0, h⟩)]
    have := (rd l i).toNat_lt
    rw [W_same (by omega) (by omega)]
    exact ⟨_, rfl, by omega, by omega⟩
  · rw [if_neg (by simpa using h), W_same (x := i * 31) (by omega) (by omega), W_same (x := (l.length : Int) * 7) (by omega) (by omega), W_same (by omega) (by omega)]
    exact ⟨_, rfl, Int.tmod_nonneg _ (by omega), by have := Int.tmod_lt_of_pos (i * 31 + (l.length : Int) * 7) (show (0 : Int) < 256 by omega); omega⟩
theorem dec_len : ∀ u : Nat, (Lib.decDigits u).length ≤ u + 1 := by
  intro u
  induction u using Nat.strongRecOn with
  | _ u ih =>
    rw [Lib.decDigits]
    split
    · simp
    · have := ih (u / 10) (by omega)
      simp
      omega
theorem itoa_nat (k : Nat) : Lib.itoa (k : Int) = Lib.decDigits k := by
  unfold Lib.itoa
  rw [if_neg (by omega)]
  simp
theorem drawnum_tot (n : Nat) (hn : 1048577 ≤ n) (b : List UInt8) (hb : b.length ≤ 1048576) : ∃ s, f9 n b = some (s, ()) ∧ s.length ≤ 1048576 := by
  unfold f9
  obtain ⟨h0, e0⟩ := new_dr n hn b hb
  rw [e0, obind_some]
  obtain ⟨x, i1, h1, e1, g1, _⟩ := once_dr n 3 b 0 h0 (by omega) hb
  rw [e1, obind_some]
  refine ite_tot (fun o : Option (List UInt8 × Unit) => ∃ s, o = some (s, ()) ∧ s.length ≤ 1048576) ?_ ?_
  · obtain ⟨v, i2, h2, e2, g2, p2⟩ := str_dr n [#[].toList, #[48, 48].toList, #[48, 49].toList, #[120].toList, #[45, 49].toList, #[54, 53, 53, 51, 53].toList, #[54, 53, 53, 51, 54].toList, #[49, 48, 48, 48, 48, 48].toList, #[49, 32].toList] (by simp) b i1 h1 g1 hb
    rw [e2, obind_some]
    refine ⟨_, rfl, ?_⟩
    simp only [List.mem_cons, List.not_mem_nil, or_false] at p2
    rcases p2 with rfl | rfl | rfl | rfl | rfl | rfl | rfl | rfl | rfl <;> simp
  · obtain ⟨v, i2, h2, e2, g2, q1, q2, _⟩ := below_dr n 70000 b i1 h1 g1 hb
    have := q2 (by omega)
    obtain ⟨k, rfl⟩ := Int.eq_ofNat_of_zero_le q1
    rw [e2, obind_some, (num_eq n (by omega) (k : Int) (by omega) (by omega)).1, obind_some]
    have := dec_len k
    exact ⟨_, rfl, by dsimp only; rw [itoa_nat]; omega⟩
theorem drawhex_tot (n : Nat) (hn : 1048577 ≤ n) (b : List UInt8) (hb : b.length ≤ 1048576) : ∃ s, f11 n b = some (s, ()) ∧ s.length ≤ 6 := by
  unfold f11
  obtain ⟨h0, e0⟩ := new_dr n hn b hb
  rw [e0, obind_some]
  obtain ⟨x, i1, h1, e1, g1, q1, q2, _⟩ := below_dr n 6 b 0 h0 (by omega) hb
  have := q2 (by omega)
  obtain ⟨k, rfl⟩ := Int.eq_ofNat_of_zero_le q1
  rw [e1, obind_some]
  obtain ⟨v, i2, h2, e2, g2, p2⟩ := bytes_dr n hn k (by omega) b i1 h1 g1 hb
  rw [e2, obind_some]
  exact ⟨_, rfl, by dsimp only; omega⟩
theorem drawparsehex_tot (n : Nat) (hn : 1048577 ≤ n) (b : List UInt8) (hb : b.length ≤ 1048576) : ∃ s, f14 n b = some (s, ()) ∧ s.length ≤ 100 := by
  unfold f14
  obtain ⟨h0, e0⟩ := new_dr n hn b hb
  rw [e0, obind_some]
  obtain ⟨x, i1, h1, e1, g1, q1, q2, _⟩ := below_dr n 5 b 0 h0 (by omega) hb
  have := q2 (by omega)
  obtain ⟨k, rfl⟩ := Int.eq_ofNat_of_zero_le q1
  rw [e1, obind_some]
  obtain ⟨v, i2, h2, e2, g2, p2⟩ := bytes_dr n hn k (by omega) b i1 h1 g1 hb
  rw [e2, obind_some, hexspec n hn v (by omega), obind_some]
  obtain ⟨t, i3, h3, e3, g3, p3⟩ := str_dr n [#[].toList, #[].toList, #[48].toList, #[71, 48].toList, #[102, 102].toList, #[70, 70].toList, #[32].toList] (by simp) b i2 h2 g2 hb
  rw [e3, obind_some]
  have ht : t.length ≤ 2 := by
    simp only [List.mem_cons, List.not_mem_nil, or_false] at p3
    rcases p3 with rfl | rfl | rfl | rfl | rfl | rfl | rfl <;> simp
  have hv := hexT_len v
  rw [if_pos (by simp; omega)]
  exact ⟨_, rfl, by simp; omega⟩
theorem drawcode_tot (n : Nat) (hn : 1048577 ≤ n) (b : List UInt8) (hb : b.length ≤ 1048576) : ∃ x, f17 n b = some (x, ()) := by
  unfold f17
  obtain ⟨h0, e0⟩ := new_dr n hn b hb
  rw [e0, obind_some]
  obtain ⟨x, i1, h1, e1, g1, q1, q2, _⟩ := below_dr n 10 b 0 h0 (by omega) hb
  rw [e1, obind_some]
  exact ⟨_, rfl⟩
theorem code_tot (n : Nat) (x : Int) : ∃ s, f21 n x = some (s, ()) ∧ f22 n x = some (s, ()) := by
  have h : @f21 = @f22 := rfl
  rw [h]
  suffices hh : ∃ s, f22 n x = some (s, ()) by
    obtain ⟨s, e⟩ := hh
    exact ⟨s, e, e⟩
  unfold f22
  rw [within_some, obind_some]
  by_cases hx : 0 ≤ x ∧ x ≤ 6
  · rw [decide_eq_true hx]
    simp only [Bool.not_true, Bool.false_eq_true, if_false]
    rw [if_pos (inR_iff.2 ⟨hx.1, by show x < 7; omega⟩)]
    exact ⟨_, rfl⟩
  · rw [decide_eq_false hx]
    exact ⟨_, rfl⟩
theorem drawnt_tot (n : Nat) (hn : 1048577 ≤ n) (b : List UInt8) (hb : b.length ≤ 1048576) : ∃ x, f18 n b = some (x, ()) ∧ -9223372036854775808 ≤ x ∧ x ≤ 9223372036854775807 := by
  unfold f18 f44
  obtain ⟨h0, e0⟩ := new_dr n hn b hb
  rw [e0, obind_some]
  obtain ⟨x, i1, h1, e1, g1, p1⟩ := int_dr n [0, 1, 7, 255, 256, 4660, 65535, 65536, -1, 9223372036854775807, -9223372036854775808] (by simp) b 0 h0 (by omega) hb
  simp only [e1, obind_some]
  refine ⟨_, rfl, ?_⟩
  simp only [List.mem_cons, List.not_mem_nil, or_false] at p1
  omega
theorem num_back (n : Nat) (k : Nat) (hk : k ≤ 65535) : f7 n (Lib.itoa (k : Int)) = some ((k : Int), true, ()) := by
  rw [itoa_nat]
  have := dec_len k
  exact (impl_eq n (Lib.decDigits k) (by omega)).1 k ⟨hk, rfl⟩
theorem num_both (n : Nat) (hn : 1048577 ≤ n) (s : List UInt8) (hs : s.length ≤ 1048576) : ∃ y p, f7 n s = some (y, p, ()) ∧ f10 n s = some (y, p, ()) ∧ (p = true → f8 n y = some (s, ())) := by
  by_cases h : ∃ u, isNum s u
  · obtain ⟨u, hu⟩ := h
    refine ⟨(u : Int), true, (impl_eq n s hs).1 u hu, (spec_eq n (by omega) s hs).1 u hu, fun _ => ?_⟩
    have := hu.1
    rw [(num_eq n (by omega) (u : Int) (by omega) (by omega)).2, itoa_nat, ← hu.2]
  · have h' : ∀ u, ¬ isNum s u := fun u hu => h ⟨u, hu⟩
    exact ⟨0, false, (impl_eq n s hs).2 h', (spec_eq n (by omega) s hs).2 h', fun hp => by cases hp⟩
theorem hex_both (n : Nat) (hn : 1048577 ≤ n) (h : List UInt8) (hl : h.length ≤ 1048576) : ∃ p r r', f12 n h = some (p, r, ()) ∧ f15 n h = some (p, r', ()) ∧ (p = true → f13 n r = some (h, ())) := by
  obtain ⟨b, r, g, e1, e2⟩ := parse_eq n hn h hl
  refine ⟨b, r, r, e2, e1, fun hb => ?_⟩
  subst hb
  rw [hexval n hn r (by omega), parse_back n hn h hl r e2]
theorem plain3' (n : Nat) (hn : 1048577 ≤ n) (x0 : List UInt8) : f3 n x0 = some (true, ()) := by
  unfold f3 f5
  rw [obind_some]
  by_cases hl : x0.length ≤ 1048576
  · rw [if_neg (by simp; omega)]
    obtain ⟨a, ea, a0, a1⟩ := at_tot n x0 hl 2 (by omega) (by omega)
    obtain ⟨b, eb, b0, b1⟩ := at_tot n x0 hl 3 (by omega) (by omega)
    obtain ⟨k, hk, hk1⟩ : ∃ k : Nat, W (W (a * 256) + b) = (k : Int) ∧ k ≤ 65535 := by
      rw [W_same (x := a * 256) (by omega) (by omega), W_same (by omega) (by omega)]
      exact ⟨(a * 256 + b).toNat, by omega, by omega⟩
    have e8 := (num_eq n (by omega) (k : Int) (by omega) (by omega)).2
    have e7 := num_back n k hk1
    obtain ⟨s, e9, g9⟩ := drawnum_tot n hn x0 hl
    obtain ⟨y, p, e10, e11, e12⟩ := num_both n hn s g9
    obtain ⟨hb, e13, g13⟩ := drawhex_tot n hn x0 hl
    have e14 := hexval n hn hb (by omega)
    have e15 := parse_of n hn hb (by omega)
    obtain ⟨ph, e16, g16⟩ := drawparsehex_tot n hn x0 hl
    obtain ⟨q, r, r', e17, e18, e19⟩ := hex_both n hn ph (by omega)
    obtain ⟨rk, ra, rc, rh, rz, ro, rn, e20, g20, g21, g22⟩ := drawrow_tot n hn x0 hl
    obtain ⟨line, e22, e21⟩ := row_eq n hn rk ra ro rc rn rh rz (by omega) (by omega) (by omega)
    obtain ⟨cd, e23⟩ := drawcode_tot n hn x0 hl
    obtain ⟨ct, e24, e25⟩ := code_tot n cd
    obtain ⟨nt, e26, g26, g27⟩ := drawnt_tot n hn x0 hl
    obtain ⟨e27, e28⟩ := num_eq n (by omega) nt g26 g27
    simp only [ea, eb, obind_some, hk, e8, e7, e9, e10, e11, e13, e14, e15, e16, e17, e18, e20, e23, e26]
    cases p with
    | true => cases q with
      | true =>
        have e12' := e12 rfl
        have e19' := e19 rfl
        simp [obind_some, agree_self, agreeN_self, e12', e19', e21, e22, e24, e25, e27, e28]
      | false =>
        have e12' := e12 rfl
        simp [obind_some, agree_self, agreeN_self, e12', e21, e22, e24, e25, e27, e28]
    | false => cases q with
      | true =>
        have e19' := e19 rfl
        simp [obind_some, agree_self, agreeN_self, e19', e21, e22, e24, e25, e27, e28]
      | false => simp [obind_some, agree_self, agreeN_self, e21, e22, e24, e25, e27, e28]
  · rw [if_pos (by simp; omega)]
theorem plain3 : ∀ y : F3.T, F3.Fit y → ∃ n, s3.fn n y = some (true, ()) := by
  rintro ⟨x0, _⟩ _
  exact ⟨1048577, (e3 1048577 x0).trans (plain3' 1048577 (Nat.le_refl _) x0)⟩
end Go.Sym

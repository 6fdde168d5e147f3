import Derived.Test.YtfeaificmendeaaGreatDoorE6FnShown
namespace Go.Sym
open Go Go.Proofs
set_option maxRecDepth 100000
set_option linter.unusedVariables false
set_option linter.unusedSimpArgs false
/-! ### bytes by their digits, there and back -/
abbrev hexD : List UInt8 := #[48, 49, 50, 51, 52, 53, 54, 55, 56, 57, 97, 98, 99, 100, 101, 102].toList
def dgt (k : Nat) : UInt8 := hexD.getD k 0
def hexT : List UInt8 → List UInt8
  | [] => []
  | b :: l => dgt (b.toNat / 16) :: dgt (b.toNat % 16) :: hexT l
theorem hexT_len : ∀ l : List UInt8, (hexT l).length = 2 * l.length
  | [] => rfl
  | b :: l => by simp [hexT, hexT_len l]; omega
abbrev hB1' (b : UInt8) : Int := (↑(UInt8.ofNat (IntKind.u8.wrap ((↑b.toNat : Int).tdiv (↑(UInt8.ofNat (Int.toNat 16)).toNat : Int))).toNat).toNat : Int)
theorem dig_of : ∀ b : UInt8, List.getD hexD (Int.toNat (hB1 b)) 0 = dgt (b.toNat / 16) ∧ List.getD hexD (Int.toNat (hB2 b)) 0 = dgt (b.toNat % 16) := u8_all (by decide +kernel)
theorem hexv_of : ∀ b : UInt8, hexv (dgt (b.toNat / 16)) = ((b.toNat / 16 : Nat) : Int) ∧ hexv (dgt (b.toNat % 16)) = ((b.toNat % 16 : Nat) : Int) := u8_all (by unfold hexv; decide +kernel)
theorem byte_of : ∀ b : UInt8, UInt8.ofNat (IntKind.u8.wrap (W (W (16 * ((b.toNat / 16 : Nat) : Int)) + ((b.toNat % 16 : Nat) : Int)))).toNat = b := u8_all (by decide +kernel)
theorem dgt_of : ∀ c : UInt8, 0 ≤ hexv c → dgt (hexv c).toNat = c := u8_all (by unfold hexv; decide +kernel)
theorem two_of : ∀ a b : Fin 16, (UInt8.ofNat (IntKind.u8.wrap (W (W (16 * (a.val : Int)) + (b.val : Int)))).toNat).toNat / 16 = a.val ∧ (UInt8.ofNat (IntKind.u8.wrap (W (W (16 * (a.val : Int)) + (b.val : Int)))).toNat).toNat % 16 = b.val := by decide +kernel
theorem hexval_loop (n : Nat) {l : List UInt8} (hl : l.length ≤ 1048576) :
    ∀ (k i m : Nat) (acc : List UInt8), i + k = l.length → acc.length = 2 * i → k < m → f13L0 n m (l, (l.length : Int), (i : Int), acc, ()) = some (acc ++ hexT (l.drop i), ())
  | k, i, 0, _, _, _, h => by omega
  | 0, i, m + 1, acc, hi, ha, _ => by
    rw [f13L0, if_neg (by simp; omega), List.drop_eq_nil_of_le (by omega)]
    simp [hexT]
  | k + 1, i, m + 1, acc, hi, ha, hm => by
    have hlt : i < l.length := by omega
    have hin : inR l.length (i : Int) = true := by rw [inR_nat]; simpa using hlt
    have hd : decide ((i : Int) < (l.length : Int)) = true := by simp; omega
    obtain ⟨_, _, q3, q4⟩ := hex_bits (rd l (i : Int))
    obtain ⟨d1, d2⟩ := dig_of (rd l (i : Int))
    have hb : rd l (i : Int) = l[i] := rd_get hlt
    have ih := hexval_loop n hl k (i + 1) m (acc ++ [dgt (l[i].toNat / 16), dgt (l[i].toNat % 16)]) (by omega) (by simp; omega) (by omega)
    have hr : (((acc.length + [List.getD hexD (Int.toNat (hB1 (rd l (i : Int)))) 0, List.getD hexD (Int.toNat (hB2 (rd l (i : Int)))) 0].length) * 1).ble 140737488355328) = true := Nat.ble_eq_true_of_le (by simp; omega)
    rw [f13L0, if_pos hd, if_pos hin, W_same (x := (i : Int) + 1) (by omega) (by omega)]
    refine (if_pos q3).trans ((if_pos q4).trans ((if_pos hr).trans ?_))
    have e : f13L0 n m (l, (l.length : Int), (i : Int) + 1, acc ++ [List.getD hexD (Int.toNat (hB1 (rd l (i : Int)))) 0, List.getD hexD (Int.toNat (hB2 (rd l (i : Int)))) 0], ()) = some (acc ++ hexT (l.drop i), ()) := by
      rw [d1, d2, hb]
      have e2 : l.drop i = l[i] :: l.drop (i + 1) := List.drop_eq_getElem_cons hlt
      rw [e2]
      refine ih.trans ?_
      simp [hexT]
    exact e
theorem hexval (n : Nat) (hn : 1048577 ≤ n) (l : List UInt8) (hl : l.length ≤ 1048576) : f13 n l = some (hexT l, ()) := by
  have h := hexval_loop n hl l.length 0 n [] (by omega) rfl (by omega)
  have h' : f13 n l = some ([] ++ hexT (l.drop 0), ()) := h
  rw [h']
  rfl
theorem hexspec (n : Nat) (hn : 1048577 ≤ n) (l : List UInt8) (hl : l.length ≤ 1048576) : f41 n l = some (hexT l, ()) := by
  obtain ⟨v, _, v1, v2⟩ := hex_loop n hl l.length 0 n [] (Nat.zero_add _) rfl (by omega)
  have v1' : f41 n l = some (v, ()) := v1
  have v2' : f13 n l = some (v, ()) := v2
  rw [hexval n hn l hl] at v2'
  rw [v1', ← v2']
theorem getD_mid0 (p r : List UInt8) (x : UInt8) : (p ++ x :: r).getD p.length 0 = x := by simp
theorem parse_loop (n : Nat) (h : List UInt8) (hl : h.length ≤ 1048576) : ∀ (s p : List UInt8) (m : Nat) (acc : List UInt8), h = p ++ hexT s → s.length < m → acc.length ≤ p.length →
    f12L0 n m (h, (p.length : Int), acc, ()) = some (true, acc ++ s, ())
  | _, _, 0, _, _, hm, _ => by omega
  | [], p, m + 1, acc, hh, hm, ha => by
    rw [f12L0, if_neg (by rw [hh]; simp [hexT])]
    simp
  | b :: s, p, m + 1, acc, hh, hm, ha => by
    have hlen : h.length = p.length + 2 + (hexT s).length := by rw [hh]; simp [hexT]; omega
    have c2 : inR h.length (p.length : Int) = true := by rw [inR_nat]; simp; omega
    have w1 : W ((p.length : Int) + 1) = ((p.length + 1 : Nat) : Int) := by rw [W_same (by omega) (by omega)]; omega
    have w2 : W ((p.length : Int) + 2) = ((p.length + 2 : Nat) : Int) := by rw [W_same (by omega) (by omega)]; omega
    have c3 : inR h.length ((p.length + 1 : Nat) : Int) = true := by rw [inR_nat]; simp; omega
    have d2 : decide ((p.length : Int) < (h.length : Int)) = true := by simp; omega
    have g1 : h.getD (Int.toNat (p.length : Int)) 0 = dgt (b.toNat / 16) := by
      rw [hh, Int.toNat_natCast]
      exact getD_mid0 p _ _
    have g2 : h.getD (Int.toNat ((p.length + 1 : Nat) : Int)) 0 = dgt (b.toNat % 16) := by
      rw [hh, Int.toNat_natCast]
      simp [hexT]
    obtain ⟨v1, v2⟩ := hexv_of b
    have ih := parse_loop n h hl s (p ++ [dgt (b.toNat / 16), dgt (b.toNat % 16)]) m (acc ++ [b]) (by rw [hh]; simp [hexT]) (by simp at hm; omega) (by simp; omega)
    have hble : ∀ z : UInt8, ((acc.length + [z].length) * 1).ble 140737488355328 = true := fun z => Nat.ble_eq_true_of_le (by simp only [List.length_singleton]; omega)
    have n1 : decide (((b.toNat / 16 : Nat) : Int) < 0) = false := by simp; omega
    have n2 : decide (((b.toNat % 16 : Nat) : Int) < 0) = false := by simp; omega
    rw [f12L0]
    simp only [w1, w2, d2, c2, c3, g1, g2, hexv_impl', obind_some, if_true, v1, v2, n1, n2, Bool.false_eq_true, if_false, byte_of]
    rw [if_pos (hble _)]
    refine Eq.trans ?_ (ih.trans (by simp))
    congr 2
    simp
theorem parse_of (n : Nat) (hn : 1048577 ≤ n) (l : List UInt8) (hl : l.length ≤ 524288) : f12 n (hexT l) = some (true, l, ()) := by
  unfold f12
  have hh := hexT_len l
  rw [if_neg (by
    rw [Int.tmod_eq_emod_of_nonneg (by omega), hh]
    simp)]
  have := parse_loop n (hexT l) (by omega) l [] n [] (by simp) (by omega) (by simp)
  simpa using this
theorem back_loop (n : Nat) (h : List UInt8) (hl : h.length ≤ 1048576) : ∀ (k i m : Nat) (acc : List UInt8), i + 2 * k = h.length → k < m → acc.length ≤ i →
    (∃ s, f12L0 n m (h, (i : Int), acc, ()) = some (true, acc ++ s, ()) ∧ hexT s = h.drop i) ∨ f12L0 n m (h, (i : Int), acc, ()) = some (false, [], ())
  | _, _, 0, _, _, hm, _ => by omega
  | 0, i, m + 1, acc, hk, hm, ha => by
    left
    refine ⟨[], ?_, ?_⟩
    · rw [f12L0, if_neg (by simp; omega)]
      simp
    · rw [List.drop_eq_nil_of_le (by omega)]
      rfl
  | k + 1, i, m + 1, acc, hk, hm, ha => by
    have c2 : inR h.length (i : Int) = true := by rw [inR_nat]; simp; omega
    have w1 : W ((i : Int) + 1) = ((i + 1 : Nat) : Int) := by rw [W_same (by omega) (by omega)]; omega
    have w2 : W ((i : Int) + 2) = ((i + 2 : Nat) : Int) := by rw [W_same (by omega) (by omega)]; omega
    have c3 : inR h.length ((i + 1 : Nat) : Int) = true := by rw [inR_nat]; simp; omega
    have d2 : decide ((i : Int) < (h.length : Int)) = true := by simp; omega
    have g1 : h.getD (Int.toNat (i : Int)) 0 = h[i] := by
      rw [Int.toNat_natCast]
      simp [show i < h.length by omega]
    have g2 : h.getD (Int.toNat ((i + 1 : Nat) : Int)) 0 = h[i + 1] := by
      rw [Int.toNat_natCast]
      simp [show i + 1 < h.length by omega]
    have hble : ∀ z : UInt8, ((acc.length + [z].length) * 1).ble 140737488355328 = true := fun z => Nat.ble_eq_true_of_le (by simp only [List.length_singleton]; omega)
    rw [f12L0]
    simp only [w1, w2, d2, c2, c3, g1, g2, hexv_impl', obind_some, if_true]
    by_cases b1 : hexv h[i] < 0
    · right
      simp [b1]
    · by_cases b2 : hexv h[i + 1] < 0
      · right
        simp [b1, b2]
      · have n1 : decide (hexv h[i] < 0) = false := by simpa using b1
        have n2 : decide (hexv h[i + 1] < 0) = false := by simpa using b2
        simp only [n1, n2, Bool.false_eq_true, if_false]
        rw [if_pos (hble _)]
        obtain ⟨_, u1⟩ := hexv_le h[i]
        obtain ⟨_, u2⟩ := hexv_le h[i + 1]
        obtain ⟨t1, t2⟩ := two_of ⟨(hexv h[i]).toNat, by omega⟩ ⟨(hexv h[i + 1]).toNat, by omega⟩
        have r1 : (((hexv h[i]).toNat : Nat) : Int) = hexv h[i] := by omega
        have r2 : (((hexv h[i + 1]).toNat : Nat) : Int) = hexv h[i + 1] := by omega
        simp only [r1, r2] at t1 t2
        rcases back_loop n h hl k (i + 2) m (acc ++ [UInt8.ofNat (IntKind.u8.wrap (W (W (16 * hexv h[i]) + hexv h[i + 1]))).toNat]) (by omega) (by omega) (by simp; omega) with ⟨s, e1, e2⟩ | e1
        · left
          refine ⟨UInt8.ofNat (IntKind.u8.wrap (W (W (16 * hexv h[i]) + hexv h[i + 1]))).toNat :: s, e1.trans (by simp), ?_⟩
          rw [hexT, t1, t2, e2, dgt_of _ (by omega), dgt_of _ (by omega)]
          rw [List.drop_eq_getElem_cons (show i < h.length by omega), List.drop_eq_getElem_cons (show i + 1 < h.length by omega)]
        · right
          exact e1
theorem parse_back (n : Nat) (hn : 1048577 ≤ n) (h : List UInt8) (hl : h.length ≤ 1048576) (r : List UInt8) (he : f12 n h = some (true, r, ())) : hexT r = h := by
  unfold f12 at he
  by_cases ho : h.length % 2 = 1
  · rw [if_pos (by rw [Int.tmod_eq_emod_of_nonneg (by omega)]; simp; omega)] at he
    cases he
  · rw [if_neg (by rw [Int.tmod_eq_emod_of_nonneg (by omega)]; simp; omega)] at he
    rcases back_loop n h hl (h.length / 2) 0 n [] (by omega) (by omega) (by simp) with ⟨s, e1, e2⟩ | e1
    · have e1' : f12L0 n n (h, 0, [], ()) = some (true, s, ()) := by simpa using e1
      rw [e1'] at he
      cases he
      simpa using e2
    · have e1' : f12L0 n n (h, 0, [], ()) = some (false, [], ()) := e1
      rw [e1'] at he
      cases he
end Go.Sym

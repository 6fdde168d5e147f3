import Derived.Test.YtolgphpkjmdlgaaGreatDoorE1FnTallies
import Derived.Test.YtolgphpkjmdlgaaGreatDoorC7FnTallies
namespace Go.Sym
open Go
set_option maxRecDepth 100000
set_option linter.unusedVariables false
set_option linter.unusedSimpArgs false
theorem getU_pos {s : List UInt8} {c k : Nat} (hs : s ≠ []) (h : getU s = some (c, k)) : 1 ≤ k ∧ k ≤ s.length := by
  have h1 := getU_some h
  have h2 := decL_pos hs
  rw [h1] at h2
  exact h2
theorem signs_tot_loop (n : Nat) (hn : 16 ≤ n) (l : List UInt8) (hl : l.length ≤ 1048576) : ∀ (k i m : Nat) (acc : List Int), l.length - i ≤ k → k < m → i ≤ l.length → acc.length ≤ i →
    ∃ q rs, f109L0 n m (l, (i : Int), acc, ()) = some (q, rs, ()) ∧ rs.length ≤ l.length
  | _, _, 0, _, _, h, _, _ => by omega
  | k, i, m + 1, acc, hk, hm, hi, ha => by
    rw [f109L0]
    by_cases hlt : i < l.length
    · rw [if_pos (by simp; omega), getspec n hn l i hlt (by omega), obind_some]
      have hne : l.drop i ≠ [] := fun h => by
        have := congrArg List.length h
        simp at this
        omega
      cases hg : getU (l.drop i) with
      | none => exact ⟨false, [], by simp, by simp⟩
      | some p =>
        obtain ⟨c, w⟩ := p
        obtain ⟨h1, h2⟩ := getU_pos hne hg
        rw [List.length_drop] at h2
        simp only [Bool.not_true, Bool.false_eq_true, if_false]
        rw [if_pos (Nat.ble_eq_true_of_le (by simp; omega))]
        obtain ⟨k', rfl⟩ : ∃ k', k = k' + 1 := ⟨k - 1, by omega⟩
        exact signs_tot_loop n hn l hl k' (i + w) m _ (by omega) (by omega) (by omega) (by simp; omega)
    · rw [if_neg (by simp; omega)]
      exact ⟨true, acc, rfl, by omega⟩
theorem signs_tot (n : Nat) (hn : 1048577 ≤ n) (l : List UInt8) (hl : l.length ≤ 1048576) : ∃ q rs, f109 n l = some (q, rs, ()) ∧ rs.length ≤ l.length :=
  signs_tot_loop n (by omega) l hl l.length 0 n [] (by omega) (by omega) (by omega) (by simp)
def okByteS (c : Nat) (b : Nat) : Bool := (f107 0 (c : Int) (b : Int)).isSome
theorem bytesS_all : ∀ c : Fin 5, ∀ b : Fin 256, okByteS c.val b.val = true := by decide +kernel
theorem bytesign_tot (n : Nat) (c : Int) (x : Int) : ∃ v p, f107 n c x = some (v, p, ()) := by
  by_cases hc : 1 ≤ c ∧ c ≤ 4
  · by_cases hx : 0 ≤ x ∧ x ≤ 255
    · rw [bs0]
      obtain ⟨c, rfl⟩ := Int.eq_ofNat_of_zero_le (show 0 ≤ c by omega)
      obtain ⟨x, rfl⟩ := Int.eq_ofNat_of_zero_le hx.1
      have h := bytesS_all ⟨c, by omega⟩ ⟨x, by omega⟩
      unfold okByteS at h
      obtain ⟨⟨v, p, _⟩, h1⟩ := Option.isSome_iff_exists.1 h
      exact ⟨v, p, h1⟩
    · unfold f107
      simp only [within_some, obind_some, decide_eq_true hc, decide_eq_false hx]
      exact ⟨0, false, by simp [obind_some]⟩
  · unfold f107
    simp only [within_some, obind_some, decide_eq_false hc]
    exact ⟨0, false, by simp [obind_some]⟩
theorem signbyte_loop (n : Nat) (c x : Int) : ∀ (k i m : Nat), 256 - i ≤ k → k < m → i ≤ 256 → ∃ v p, f140L0 n m (c, x, (i : Int), ()) = some (v, p, ())
  | _, _, 0, _, h, _ => by omega
  | k, i, m + 1, hk, hm, hi => by
    rw [f140L0]
    by_cases hlt : i < 256
    · rw [if_pos (by simp; omega)]
      obtain ⟨v, p, e⟩ := bytesign_tot n c (i : Int)
      rw [e, obind_some, W_same (x := (i : Int) + 1) (by omega) (by omega)]
      refine ite_tot (fun o => ∃ v p, o = some (v, p, ())) ?_ ?_
      · exact ⟨_, _, rfl⟩
      · obtain ⟨k', rfl⟩ : ∃ k', k = k' + 1 := ⟨k - 1, by omega⟩
        exact signbyte_loop n c x k' (i + 1) m (by omega) (by omega) (by omega)
    · rw [if_neg (by simp; omega)]
      exact ⟨_, _, rfl⟩
theorem signbyte_tot (n : Nat) (hn : 1048577 ≤ n) (c x : Int) : ∃ v p, f140 n c x = some (v, p, ()) := signbyte_loop n c x 256 0 n (by omega) (by omega) (by omega)
theorem signpair_tot (n : Nat) (x : Int) : ∃ a b p, f157 n x = some (a, b, p, ()) := by
  unfold f157
  simp only [within_some, obind_some]
  split
  · exact ⟨_, _, _, rfl⟩
  · split <;> exact ⟨_, _, _, rfl⟩
theorem puteuc_tot (n : Nat) (l : List UInt8) (x : Int) (hl : l.length ≤ 16777216) : ∃ p r, f139 n l x = some (p, r, ()) ∧ r.length ≤ l.length + 4 := by
  unfold f139
  obtain ⟨a, b, p, e⟩ := signpair_tot n x
  have h0 : ((0 + l.length) * 1).ble 140737488355328 = true := Nat.ble_eq_true_of_le (by omega)
  have h1 : ∀ y, ((([] ++ l).length + [y].length) * 1).ble 140737488355328 = true := fun (y : UInt8) => Nat.ble_eq_true_of_le (by simp; omega)
  have h2 : ∀ y z, ((([] ++ l).length + [y, z].length) * 1).ble 140737488355328 = true := fun (y z : UInt8) => Nat.ble_eq_true_of_le (by simp; omega)
  simp only [within_some, obind_some, e, h0, h1, h2, if_true]
  split
  · exact ⟨_, _, rfl, by simp⟩
  · split
    · exact ⟨_, _, rfl, by simp⟩
    · exact ⟨_, _, rfl, by simp⟩
theorem putsign_tot (n : Nat) (l : List UInt8) (x : Int) (hl : l.length ≤ 16777216) : ∃ r, f76 n l x = some (r, ()) ∧ r.length ≤ l.length + 4 := by
  rw [putspec n l x hl]
  split
  · have := (encU_len x.toNat).2
    exact ⟨_, rfl, by simp; omega⟩
  · exact ⟨_, rfl, by omega⟩
theorem l5put_tot (n : Nat) (hn : 1048577 ≤ n) (cs : Int) (l : List UInt8) (x : Int) (hl : l.length ≤ 16777215) : ∃ p r, f110 n cs l x = some (p, r, ()) ∧ r.length ≤ l.length + 4 := by
  unfold f110
  obtain ⟨r1, e1, g1⟩ := putsign_tot n l x (by omega)
  obtain ⟨p2, r2, e2, g2⟩ := puteuc_tot n l x (by omega)
  obtain ⟨v, p3, e3⟩ := signbyte_tot n hn cs x
  have h0 : ((0 + l.length) * 1).ble 140737488355328 = true := Nat.ble_eq_true_of_le (by omega)
  have h1 : ∀ y, ((([] ++ l).length + [y].length) * 1).ble 140737488355328 = true := fun (y : UInt8) => Nat.ble_eq_true_of_le (by simp; omega)
  simp only [e1, e2, e3, signok, obind_some, h0, h1, if_true]
  split
  · exact ⟨_, _, rfl, g1⟩
  · split
    · exact ⟨_, _, rfl, g2⟩
    · split
      · exact ⟨_, _, rfl, by simp⟩
      · exact ⟨_, _, rfl, by simp⟩
theorem enc_tot_loop (n : Nat) (hn : 1048577 ≤ n) (cs : Int) (rs : List Int) (hl : rs.length ≤ 1048576) : ∀ (k i m : Nat) (acc : List UInt8), rs.length - i ≤ k → k < m → i ≤ rs.length → acc.length ≤ 4 * i →
    ∃ p r, f77L0 n m (cs, (i : Int), acc, rs, ()) = some (p, r, ()) ∧ r.length ≤ 4 * rs.length
  | _, _, 0, _, _, h, _, _ => by omega
  | k, i, m + 1, acc, hk, hm, hi, ha => by
    rw [f77L0]
    by_cases hlt : i < rs.length
    · rw [if_pos (by simp; omega), if_pos (inR_lt' hlt)]
      obtain ⟨p, r, e, g⟩ := l5put_tot n hn cs acc (rdn rs (Int.toNat (i : Int))) (by omega)
      rw [e, obind_some, W_same (x := (i : Int) + 1) (by omega) (by omega)]
      split
      · exact ⟨_, _, rfl, by simp⟩
      · obtain ⟨k', rfl⟩ : ∃ k', k = k' + 1 := ⟨k - 1, by omega⟩
        exact enc_tot_loop n hn cs rs hl k' (i + 1) m r (by omega) (by omega) (by omega) (by omega)
    · rw [if_neg (by simp; omega)]
      exact ⟨_, _, rfl, by omega⟩
theorem encode_tot (n : Nat) (hn : 1048577 ≤ n) (cs : Int) (l : List UInt8) (hl : l.length ≤ 1048576) : ∃ p r, f77 n cs l = some (p, r, ()) ∧ r.length ≤ 4 * l.length := by
  unfold f77
  obtain ⟨q, rs, e, g⟩ := signs_tot n hn l hl
  rw [e, obind_some, within5, obind_some]
  refine ite_tot (fun o : Option (Bool × List UInt8 × Unit) => ∃ p r, o = some (p, r, ()) ∧ r.length ≤ 4 * l.length) ?_ ?_
  · exact ⟨_, _, rfl, by simp⟩
  · obtain ⟨p, r, e2, g2⟩ := enc_tot_loop n hn cs rs (by omega) rs.length 0 n [] (by omega) (by omega) (by omega) (by simp)
    exact ⟨p, r, e2, by omega⟩
theorem cellof_tot (n : Nat) (hn : 1048577 ≤ n) (t : Int) (l : List UInt8) (hl : l.length ≤ 1048576) : ∃ a p r, f50 n t l = some (a, p, r, ()) ∧ r.length ≤ 20 ∧ (a = t ∨ a = 0) := by
  unfold f50
  obtain ⟨q, rs, e, g⟩ := encode_tot n hn t l hl
  rw [e, obind_some]
  by_cases h : rs.length ≤ 20
  · refine ite_tot (fun o : Option (Int × Bool × List UInt8 × Unit) => ∃ a p r, o = some (a, p, r, ()) ∧ r.length ≤ 20 ∧ (a = t ∨ a = 0)) ?_ ?_
    · exact ⟨_, _, _, rfl, by simp, .inr rfl⟩
    · exact ⟨_, _, _, rfl, h, .inl rfl⟩
  · rw [if_pos (by cases q <;> simp; omega)]
    exact ⟨_, _, _, rfl, by simp, .inr rfl⟩
theorem nameok_loop (n : Nat) (l : List UInt8) (hl : l.length ≤ 1048576) : ∀ (k i m : Nat), l.length - i ≤ k → k < m → i ≤ l.length → ∃ q, f44L0 n m (l, (i : Int), ()) = some (q, ())
  | _, _, 0, _, h, _ => by omega
  | k, i, m + 1, hk, hm, hi => by
    rw [f44L0]
    by_cases hlt : i < l.length
    · rw [if_pos (by simp; omega), if_pos (inR_lt' hlt)]
      simp only [within_some, obind_some, inR_lt' hlt, Bool.or_true, if_true, obind_ite']
      rw [W_same (x := (i : Int) + 1) (by omega) (by omega)]
      refine ite_tot (fun o => ∃ q, o = some (q, ())) ?_ ?_
      · exact ⟨_, rfl⟩
      · obtain ⟨k', rfl⟩ : ∃ k', k = k' + 1 := ⟨k - 1, by omega⟩
        exact nameok_loop n l hl k' (i + 1) m (by omega) (by omega) (by omega)
    · rw [if_neg (by simp; omega)]
      simp only [within_some, obind_some]
      exact ⟨_, rfl⟩
theorem nameok_tot (n : Nat) (hn : 1048577 ≤ n) (l : List UInt8) (hl : l.length ≤ 1048576) : ∃ q, f44 n l = some (q, ()) := nameok_loop n l hl l.length 0 n (by omega) (by omega) (by omega)
end Go.Sym

import Derived.Test.YtolgphpkjmdlgaaGreatDoorE4FnTallies
namespace Go.Sym
open Go
set_option maxRecDepth 100000
set_option linter.unusedVariables false
set_option linter.unusedSimpArgs false
abbrev WrT := D43
def DevI (s : List (List UInt8)) (c : List WrT) : Prop := s.length ≤ 64 ∧ (∀ b ∈ s, b.length ≤ 1048576) ∧ c.length ≤ 1048576 ∧ ∀ e ∈ c, 0 ≤ e.1 ∧ e.1 < (s.length : Int) ∧ e.2.length ≤ 1048576
theorem op_tot (n : Nat) (f : Int) (d : Bool) (s : List (List UInt8)) (c : List WrT) : ∃ q f' d', f141 n f d s c = some (q, f', d', s, c, ()) := by
  unfold f141
  split
  · exact ⟨_, _, _, rfl⟩
  · split <;> exact ⟨_, _, _, rfl⟩
theorem devi_app {s : List (List UInt8)} {c : List WrT} (h : DevI s c) {k : Int} {b : List UInt8} (h0 : 0 ≤ k) (h1 : k < (s.length : Int)) (hb : b.length ≤ 1048576) (hc : c.length < 1048576) : DevI s (c ++ [(k, b)]) := by
  refine ⟨h.1, h.2.1, by simp; omega, fun e he => ?_⟩
  rcases List.mem_append.1 he with he | he
  · exact h.2.2.2 e he
  · simp only [List.mem_singleton] at he
    subst he
    exact ⟨h0, h1, hb⟩
theorem write_tot (n : Nat) (k : Int) (b : List UInt8) (f : Int) (d : Bool) (s : List (List UInt8)) (c : List WrT) (h : DevI s c) (hb : b.length ≤ 1048576) :
    ∃ f' d' c', f112 n k b f d s c = some (f', d', s, c', ()) ∧ DevI s c' := by
  unfold f112
  obtain ⟨q, f1, d1, e1⟩ := op_tot n f d s c
  have hw : W ((s.length : Int) - 1) = (s.length : Int) - 1 := by
    have := h.1
    exact W_same (by omega) (by omega)
  have hk1 : ((0 + b.length) * 1).ble 140737488355328 = true := Nat.ble_eq_true_of_le (by omega)
  have hk2 : ((c.length + 1) * 32).ble 140737488355328 = true := Nat.ble_eq_true_of_le (by have := h.2.2.1; omega)
  cases d with
  | true =>
    simp only [within_some, obind_some, Bool.true_and, if_true, show ((true == false) = true) = False by simp, if_false, show ((true : Bool) = true) = True by simp]
    exact ⟨_, _, _, rfl, h⟩
  | false =>
    simp only [within_some, obind_some, e1, hk1, hk2, hw, Bool.true_and, if_true, show ((false == false) = true) = True by simp, show ((false : Bool) = true) = False by simp, if_false]
    by_cases h1 : 0 ≤ k ∧ k ≤ (s.length : Int) - 1
    · by_cases h2 : (b.length : Int) > 120
      · simp only [decide_eq_true h1, decide_eq_true h2, Bool.not_true, Bool.false_eq_true, if_false, if_true, show ((true == false) = true) = False by simp]
        exact ⟨_, _, _, rfl, h⟩
      · by_cases h3 : (c.length : Int) ≥ 40
        · simp only [decide_eq_true h1, decide_eq_false h2, decide_eq_true h3, Bool.not_true, Bool.false_eq_true, if_false, if_true, show ((true == false) = true) = False by simp]
          exact ⟨_, _, _, rfl, h⟩
        · simp only [decide_eq_true h1, decide_eq_false h2, decide_eq_false h3, Bool.not_true, Bool.false_eq_true, if_false, if_true, show ((false == false) = true) = True by simp]
          cases q with
          | false => exact ⟨_, _, _, rfl, h⟩
          | true =>
            refine ⟨_, _, _, rfl, ?_⟩
            exact devi_app h h1.1 (by omega) (by simpa using hb) (by omega)
    · simp only [decide_eq_false h1, Bool.not_false, if_true, show ((true == false) = true) = False by simp, if_false]
      exact ⟨_, _, _, rfl, h⟩
theorem rdn_mem {α : Type} [Inhabited α] {l : List α} {i : Nat} (h : i < l.length) : rdn l i ∈ l := by
  have h1 : rdn l i = l[i] := by
    unfold rdn
    rw [List.getElem?_eq_getElem h]
    rfl
  rw [h1]
  exact List.getElem_mem h
theorem flush_loop (n : Nat) : ∀ (k j m : Nat) (f : Int) (d : Bool) (s : List (List UInt8)) (c : List WrT), DevI s c → c.length - j ≤ k → k < m → j ≤ c.length →
    ∃ s', f115L0 n m ((j : Int), f, d, s, c, ()) = some (f, d, s', [], ()) ∧ s'.length = s.length ∧ DevI s' []
  | _, _, 0, _, _, _, _, _, _, h, _ => by omega
  | k, j, m + 1, f, d, s, c, h, hk, hm, hj => by
    rw [f115L0]
    by_cases hlt : j < c.length
    · have hmem := rdn_mem (l := c) (i := j) hlt
      have he := h.2.2.2 _ hmem
      have hin : inR s.length (rdn c (Int.toNat (j : Int))).1 = true := inR_iff.2 ⟨he.1, he.2.1⟩
      have hcl := h.2.2.1
      rw [if_pos (by simp; omega), if_pos (inR_lt' hlt), if_pos (inR_lt' hlt), if_pos hin, obind_some, W_same (x := (j : Int) + 1) (by omega) (by omega)]
      obtain ⟨k', rfl⟩ : ∃ k', k = k' + 1 := ⟨k - 1, by omega⟩
      have h' : DevI (s.set (Int.toNat (rdn c (Int.toNat (j : Int))).1) (rdn c (Int.toNat (j : Int))).2) c := by
        refine ⟨by rw [List.length_set]; exact h.1, fun b hb => ?_, h.2.2.1, fun e he => by rw [List.length_set]; exact h.2.2.2 e he⟩
        rcases List.mem_or_eq_of_mem_set hb with hb | hb
        · exact h.2.1 b hb
        · rw [hb]
          exact he.2.2
      obtain ⟨s', e1, e2, e3⟩ := flush_loop n k' (j + 1) m f d _ c h' (by omega) (by omega) (by omega)
      exact ⟨s', e1, by rw [e2, List.length_set], e3⟩
    · rw [if_neg (by simp; omega)]
      exact ⟨s, rfl, rfl, h.1, h.2.1, by simp, fun e he => by simp at he⟩
theorem flush_tot (n : Nat) (hn : 1048577 ≤ n) (f : Int) (d : Bool) (s : List (List UInt8)) (c : List WrT) (h : DevI s c) :
    ∃ f' d' s' c', f115 n f d s c = some (f', d', s', c', ()) ∧ s'.length = s.length ∧ DevI s' c' := by
  have hl : ∀ f d, ∃ f' d' s' c', f115L0 n n (0, f, d, s, c, ()) = some (f', d', s', c', ()) ∧ s'.length = s.length ∧ DevI s' c' := fun f d => by
    obtain ⟨s', e1, e2, e3⟩ := flush_loop n c.length 0 n f d s c h (by omega) (by have := h.2.2.1; omega) (by omega)
    exact ⟨f, d, s', [], e1, e2, e3⟩
  unfold f115
  obtain ⟨q, f1, d1, e1⟩ := op_tot n f d s c
  simp only [e1, obind_some]
  have hP : ∀ (x y : Option (Int × Bool × List (List UInt8) × List WrT × Unit)) (q : Bool), (∃ f' d' s' c', x = some (f', d', s', c', ()) ∧ s'.length = s.length ∧ DevI s' c') → (∃ f' d' s' c', y = some (f', d', s', c', ()) ∧ s'.length = s.length ∧ DevI s' c') → ∃ f' d' s' c', (if q = true then x else y) = some (f', d', s', c', ()) ∧ s'.length = s.length ∧ DevI s' c' := fun x y q hx hy => by
    cases q
    · simpa using hy
    · simpa using hx
  exact hP _ _ _ (hP _ _ _ ⟨_, _, _, _, rfl, rfl, h⟩ (hl _ _)) (hP _ _ _ ⟨_, _, _, _, rfl, rfl, h⟩ (hl _ _))
theorem devnew_loop (n : Nat) (K : Nat) (hK : K ≤ 64) (f1 : Int) (d1 : Bool) (s1 : List (List UInt8)) (c1 : List WrT) (f : Int) (d : Bool) (c : List WrT) : ∀ (k j m : Nat) (s : List (List UInt8)), K - j ≤ k → k < m → j ≤ K → s = List.replicate j [] →
    f78L0 n m ((K : Int), (j : Int), f1, d1, s1, c1, f, d, s, c, ()) = some (f, d, List.replicate K [], c, ())
  | _, _, 0, _, _, h, _, _ => by omega
  | k, j, m + 1, s, hk, hm, hj, hs => by
    rw [f78L0]
    by_cases hlt : j < K
    · rw [if_pos (by simp; omega), if_pos (Nat.ble_eq_true_of_le (by rw [hs]; simp; omega)), W_same (x := (j : Int) + 1) (by omega) (by omega)]
      obtain ⟨k', rfl⟩ : ∃ k', k = k' + 1 := ⟨k - 1, by omega⟩
      exact devnew_loop n K hK f1 d1 s1 c1 f d c k' (j + 1) m _ (by omega) (by omega) (by omega) (by rw [hs, ← List.replicate_succ'])
    · rw [if_neg (by simp; omega)]
      obtain rfl : j = K := by omega
      rw [hs]
theorem devnew_tot (n : Nat) (hn : 1048577 ≤ n) (K : Nat) (h0 : 1 ≤ K) (hK : K ≤ 64) : f78 n (K : Int) = some (-1, false, List.replicate K [], [], ()) := by
  unfold f78
  simp only [within_some, obind_some]
  rw [decide_eq_true (show (1 : Int) ≤ (K : Int) ∧ (K : Int) ≤ 64 by omega)]
  exact devnew_loop n K hK _ _ _ _ _ _ _ K 0 n [] (by omega) (by omega) (by omega) rfl
theorem devnew_inv (K : Nat) (hK : K ≤ 64) : DevI (List.replicate K []) [] := ⟨by simpa using hK, fun b hb => by rw [(List.mem_replicate.1 hb).2]; simp, by simp, fun e he => by simp at he⟩
end Go.Sym

import Derived.Test.YtolgphpkjmdlgaaGreatDoorC7FnTallies
import Derived.KernelRfl
namespace Go.Sym
open Go
set_option maxRecDepth 100000
set_option linter.unusedVariables false
set_option linter.unusedSimpArgs false
theorem obind_ite {α β : Type} {c : Bool} {a b : α} {f : α → Option β} : obind (if c = true then some a else some b) f = f (if c = true then a else b) := by
  cases c <;> simp [obind_some]
theorem name_eq : @f29 = @f44 := by kernel_rfl
theorem ite_ex {C : Bool} {X : Option (Bool × Unit)} (h : ∃ b, X = some (b, ())) : ∃ b, (if C = true then some (false, ()) else X) = some (b, ()) := by
  cases C with
  | true => exact ⟨false, rfl⟩
  | false => exact h
theorem name_loop (n : Nat) (l : List UInt8) (hl : l.length ≤ 1048576) : ∀ (k i m : Nat), l.length - i ≤ k → k < m → i ≤ l.length → ∃ b, f44L0 n m (l, (i : Int), ()) = some (b, ())
  | _, _, 0, _, h, _ => by omega
  | k, i, m + 1, hk, hm, hi => by
    rw [f44L0]
    by_cases hlt : i < l.length
    · have hin : inR l.length (i : Int) = true := by rw [inR_nat]; simpa using hlt
      rw [if_pos (by simp; omega), if_pos hin, within_some, obind_some, within_some, obind_ite, if_pos (by rw [hin]; simp), W_same (x := (i : Int) + 1) (by omega) (by omega)]
      refine ite_ex ?_
      cases k with
      | zero => omega
      | succ k => exact name_loop n l hl k (i + 1) m (by omega) (by omega) (by omega)
    · rw [if_neg (by simp; omega), within_some, obind_some]
      exact ⟨_, rfl⟩
theorem name_some (n : Nat) (hn : 1048577 ≤ n) (l : List UInt8) (hl : l.length ≤ 1048576) : ∃ b, f44 n l = some (b, ()) :=
  name_loop n l hl l.length 0 n (by omega) (by omega) (by omega)
theorem cellok_eq : @f32 = @f47 := rfl
theorem cellok (n : Nat) (t : Int) (b : List UInt8) : f47 n t b = some (decide (0 ≤ t ∧ t ≤ 5 ∧ b.length ≤ 20), ()) := by
  unfold f47
  rw [within5, obind_some]
  by_cases h : 0 ≤ t ∧ t ≤ 5
  · by_cases h2 : b.length ≤ 20 <;> simp [h, h2] <;> omega
  · have h2 : ¬ (0 ≤ t ∧ t ≤ 5 ∧ b.length ≤ 20) := fun hh => h ⟨hh.1, hh.2.1⟩
    simp only [h, h2, decide_false, Bool.false_eq_true, if_false]
theorem cell_text (n : Nat) (hn : 1048577 ≤ n) (t : Int) (b : List UInt8) : ∃ s o, f24 n t b = some (s, o, ()) ∧ f16 n t b = some (s, o, ()) ∧ s.length ≤ 80 ∧ (o = true → 0 ≤ t ∧ t ≤ 5 ∧ b.length ≤ 20) := by
  unfold f24 f16
  rw [cellok_eq, cellok, obind_some, obind_some]
  by_cases h : 0 ≤ t ∧ t ≤ 5 ∧ b.length ≤ 20
  · obtain ⟨s, o, h1, h2, h3⟩ := decode_eq n hn t b (by omega)
    rw [if_neg (by simp [h]), if_neg (by simp [h]), h1, h2]
    simp only [obind_some]
    exact ⟨s, o, rfl, rfl, by omega, fun _ => h⟩
  · rw [decide_eq_false h]
    exact ⟨[], false, rfl, rfl, by simp, fun h => by cases h⟩
theorem cell_of (n : Nat) (hn : 1048577 ≤ n) (t : Int) (s : List UInt8) (hs : s.length ≤ 1048576) : ∃ t' o b, f50 n t s = some (t', o, b, ()) ∧ f36 n t s = some (t', o, b, ()) ∧ b.length ≤ 20 := by
  unfold f50 f36
  obtain ⟨o, b, h1, h2, h3, h4⟩ := encode_eq n hn t s hs
  rw [h1, h2, cellok_eq]
  simp only [obind_some, cellok, obind_ite]
  cases o with
  | false => exact ⟨0, false, [], by simp, by simp, by simp⟩
  | true =>
    obtain ⟨g1, g2⟩ := h4 rfl
    by_cases hb : b.length ≤ 20
    · exact ⟨t, true, b, by simp [hb]; omega, by simp [hb, g1, g2], hb⟩
    · exact ⟨0, false, [], by simp; omega, by simp [g1, g2, hb], by simp⟩
theorem copy_spec (n : Nat) (t : Int) (b : List UInt8) (hb : b.length ≤ 4194304) : f51 n t b = some (t, b, ()) := by
  unfold f51
  rw [if_pos (ble1 (by omega))]
theorem copy_impl (n : Nat) (hn : 1048577 ≤ n) (t : Int) (b : List UInt8) (hb : b.length ≤ 4194304) : f35 n t b = some (t, b, ()) := by
  unfold f35
  rw [joined1 n hn _ (by omega), obind_some]
theorem turn_eq (n : Nat) (hn : 1048577 ≤ n) (t : Int) (b : List UInt8) (hb : b.length ≤ 1048576) (t' : Int) : ∃ t2 o b2, f25 n t b t' = some (t2, o, b2, ()) ∧ f17 n t b t' = some (t2, o, b2, ()) ∧ b2.length ≤ b.length + 20 := by
  unfold f25 f17
  obtain ⟨s, o, h1, h2, h3, h4⟩ := cell_text n hn t b
  obtain ⟨t2, o2, b2, g1, g2, g3⟩ := cell_of n hn t' s (by omega)
  simp only [h1, h2, obind_some, g1, g2, copy_spec n t b (by omega), copy_impl n hn t b (by omega)]
  cases o with
  | false => exact ⟨t, false, b, by simp, by simp, by omega⟩
  | true =>
    cases o2 with
    | false => exact ⟨t, false, b, by simp, by simp, by omega⟩
    | true => exact ⟨t2, true, b2, by simp, by simp, by omega⟩
theorem same_text (n : Nat) (hn : 1048577 ≤ n) (t : Int) (b : List UInt8) (t' : Int) (b' : List UInt8) : ∃ q, f48 n t b t' b' = some (q, ()) ∧ f33 n t b t' b' = some (q, ()) := by
  unfold f48 f33
  obtain ⟨s, o, h1, h2, h3, h4⟩ := cell_text n hn t b
  obtain ⟨s', o', g1, g2, g3, g4⟩ := cell_text n hn t' b'
  simp only [h1, h2, g1, g2, obind_some]
  exact ⟨_, rfl, rfl⟩
theorem old_of (n : Nat) (k : List UInt8) (t : Int) (b : List UInt8) (t' : Int) (b' : List UInt8) (a : Bool) : f21 n k t b t' b' 1 a = some (true, ()) ∧ f21 n k t b t' b' 2 a = some (false, ()) ∧ f21 n k t b t' b' 3 a = some (true, ()) := ⟨rfl, rfl, rfl⟩
theorem new_of (n : Nat) (k : List UInt8) (t : Int) (b : List UInt8) (t' : Int) (b' : List UInt8) (a : Bool) : f22 n k t b t' b' 1 a = some (false, ()) ∧ f22 n k t b t' b' 2 a = some (true, ()) ∧ f22 n k t b t' b' 3 a = some (true, ()) := ⟨rfl, rfl, rfl⟩
theorem none_some (n : Nat) (t : Int) (b : List UInt8) : f46 n t b = some (decide (t = 0 ∧ b = []), ()) := by
  unfold f46
  by_cases h : t = 0
  · cases b with
    | nil => simp [h]
    | cons x b => simp [h]; omega
  · simp [h]
theorem same_none (n : Nat) (t : Int) (b : List UInt8) : f31 n t b 0 [] = some (decide (t = 0 ∧ b = []), ()) := by
  unfold f31
  by_cases h : t = 0
  · cases b with
    | nil => simp [h]
    | cons x b => simp [h]
  · simp [h]
theorem row_ok (n : Nat) (hn : 1048577 ≤ n) (k : List UInt8) (hk : k.length ≤ 1048576) (t : Int) (b : List UInt8) (t' : Int) (b' : List UInt8) (has : Int) (a : Bool) :
    ∃ q, f23 n k t b t' b' has a = some (q, ()) ∧ f15 n k t b t' b' has a = some (q, ()) ∧ (q = true → 1 ≤ has ∧ has ≤ 3) := by
  obtain ⟨na, hna⟩ := name_some n hn k hk
  obtain ⟨s, o, h1, h2, h3, h4⟩ := cell_text n hn t b
  obtain ⟨s', o', g1, g2, g3, g4⟩ := cell_text n hn t' b'
  obtain ⟨q, q1, q2⟩ := same_text n hn t b t' b'
  unfold f23 f15
  rw [name_eq, hna]
  simp only [obind_some, within_eq, within_some, obind_ite]
  cases na with
  | false => exact ⟨false, by simp [obind_some], by simp [obind_some], fun h => by cases h⟩
  | true =>
    by_cases hh : 1 ≤ has ∧ has ≤ 3
    · have h123 : has = 1 ∨ has = 2 ∨ has = 3 := by omega
      simp only [h1, h2, g1, g2, q1, q2, none_some, same_none, cellok_eq, cellok, obind_some, within_some]
      rcases h123 with rfl | rfl | rfl
      · simp only [(old_of n k t b t' b' a).1, (new_of n k t b t' b' a).1, obind_some, obind_ite]
        by_cases c1 : 0 ≤ t ∧ t ≤ 5 ∧ b.length ≤ 20 <;> by_cases c2 : t = 0 <;> by_cases c3 : 1 ≤ t ∧ t ≤ 5 <;> by_cases c4 : t' = 0 ∧ b' = [] <;> cases o <;> cases a <;>
          first
          | (exfalso; omega)
          | (refine ⟨true, ?_, ?_, fun _ => hh⟩ <;> (simp [c1, c2, c3, c4] <;> (intros; omega)))
          | (refine ⟨false, ?_, ?_, fun h => by cases h⟩ <;> (simp [c1, c2, c3, c4] <;> (intros; omega)))
      · simp only [(old_of n k t b t' b' a).2.1, (new_of n k t b t' b' a).2.1, obind_some, obind_ite]
        by_cases c1 : t = 0 ∧ b = [] <;> by_cases c2 : t' = 0 <;> cases o' <;>
          first
          | (refine ⟨true, ?_, ?_, fun _ => hh⟩ <;> (simp [c1, c2] <;> (intros; omega)))
          | (refine ⟨false, ?_, ?_, fun h => by cases h⟩ <;> (simp [c1, c2] <;> (intros; omega)))
      · simp only [(old_of n k t b t' b' a).2.2, (new_of n k t b t' b' a).2.2, obind_some, obind_ite]
        by_cases c1 : 0 ≤ t ∧ t ≤ 5 ∧ b.length ≤ 20 <;> by_cases c2 : t = 0 <;> by_cases c3 : 1 ≤ t ∧ t ≤ 5 <;> by_cases c4 : t' = 0 <;> cases o <;> cases o' <;> cases q <;> cases a <;>
          first
          | (exfalso; omega)
          | (refine ⟨true, ?_, ?_, fun _ => hh⟩ <;> (simp [c1, c2, c3, c4] <;> (intros; omega)))
          | (refine ⟨false, ?_, ?_, fun h => by cases h⟩ <;> (simp [c1, c2, c3, c4] <;> (intros; omega)))
    · exact ⟨false, by simp [obind_some, hh], by simp [obind_some, hh], fun h => by cases h⟩
end Go.Sym

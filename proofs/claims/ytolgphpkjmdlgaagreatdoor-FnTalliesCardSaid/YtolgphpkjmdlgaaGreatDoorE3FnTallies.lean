import Derived.Test.YtolgphpkjmdlgaaGreatDoorE2FnTallies
namespace Go.Sym
open Go
set_option maxRecDepth 100000
set_option linter.unusedVariables false
set_option linter.unusedSimpArgs false
theorem rowof_tot (n : Nat) (hn : 1048577 ≤ n) (p : Int) (k : List UInt8) (t : Int) (s : List UInt8) (hk : k.length ≤ 1048576) (hs : s.length ≤ 1048576) :
    ∃ k' a c h z q ob nb, f70 n p k t s = some (k', a, c, h, z, q, ob, nb, ()) ∧ k'.length ≤ k.length ∧ ob.length ≤ 20 ∧ nb.length ≤ 20 := by
  unfold f70
  obtain ⟨a1, p1, r1, e1, g1, _⟩ := cellof_tot n hn 0 s hs
  obtain ⟨a2, p2, r2, e2, g2, _⟩ := cellof_tot n hn t s hs
  obtain ⟨q3, e3⟩ := nameok_tot n hn k hk
  simp only [e1, e2, e3, within_some, obind_some, obind_ite']
  repeat' first
    | refine ite_tot (fun o : Option (List UInt8 × Int × Int × Int × Bool × Int × List UInt8 × List UInt8 × Unit) => ∃ k' a c h z q ob nb, o = some (k', a, c, h, z, q, ob, nb, ()) ∧ k'.length ≤ k.length ∧ ob.length ≤ 20 ∧ nb.length ≤ 20) ?_ ?_
    | exact ⟨_, _, _, _, _, _, _, _, rfl, by simp, by first | exact g1 | exact g2 | simp, by first | exact g1 | exact g2 | simp⟩
theorem pair_tot (n : Nat) (x y : Int) : ∃ c b, f135 n x y = some (c, b, ()) := by
  unfold f135
  simp only [within_some, obind_some, obind_ite']
  repeat' first
    | refine ite_tot (fun o : Option (Int × Bool × Unit) => ∃ c b, o = some (c, b, ())) ?_ ?_
    | exact ⟨_, _, rfl⟩
def GetS (l : List UInt8) (i : Nat) (o : Option (Int × Int × Bool × Unit)) : Prop := ∃ c j p, o = some (c, j, p, ()) ∧ (p = true → ∃ k, 1 ≤ k ∧ i + k ≤ l.length ∧ j = ((i + k : Nat) : Int))
theorem euc_tot (n : Nat) (l : List UInt8) (i : Nat) (hi : i < l.length) (hl : l.length ≤ 4194304) : GetS l i (f106 n l (i : Int)) := by
  unfold f106
  have w1 : W ((l.length : Int) - 1) = (l.length : Int) - 1 := W_same (by omega) (by omega)
  have w2 : W ((i : Int) + 1) = ((i + 1 : Nat) : Int) := by rw [W_same (by omega) (by omega)]; omega
  have w3 : W ((i : Int) + 2) = ((i + 2 : Nat) : Int) := by rw [W_same (by omega) (by omega)]; omega
  have h0 : decide (0 ≤ (i : Int) ∧ (i : Int) ≤ (l.length : Int) - 1) = true := by simp; omega
  simp only [within_some, obind_some, w1, h0, Bool.not_true, Bool.false_eq_true, if_false, inR_lt' hi, if_true, w2, w3]
  refine ite_tot (GetS l i) ?_ ?_
  · exact ⟨_, _, _, rfl, fun _ => ⟨1, by omega, by omega, rfl⟩⟩
  · by_cases h1 : i + 1 < l.length
    · rw [if_neg (by simp; omega), if_pos (inR_lt' h1)]
      obtain ⟨c, b, e⟩ := pair_tot n (W (↑(rd l (i : Int)).toNat : Int)) (W (↑(rd l ((i + 1 : Nat) : Int)).toNat : Int))
      rw [e, obind_some]
      refine ite_tot (GetS l i) ?_ ?_
      · exact ⟨_, _, _, rfl, fun h => by cases h⟩
      · exact ⟨_, _, _, rfl, fun _ => ⟨2, by omega, by omega, rfl⟩⟩
    · rw [if_pos (by simp; omega)]
      exact ⟨_, _, _, rfl, fun h => by cases h⟩
theorem l5get_tot (n : Nat) (hn : 16 ≤ n) (cs : Int) (l : List UInt8) (i : Nat) (hi : i < l.length) (hl : l.length ≤ 4194304) : GetS l i (f75 n cs l (i : Int)) := by
  unfold f75
  refine ite_tot (GetS l i) ?_ (ite_tot (GetS l i) ?_ ?_)
  · rw [getspec n hn l i hi hl, obind_some]
    have hne : l.drop i ≠ [] := fun h => by
      have := congrArg List.length h
      simp at this
      omega
    cases hg : getU (l.drop i) with
    | none => exact ⟨_, _, _, rfl, fun h => by cases h⟩
    | some p =>
      obtain ⟨c, w⟩ := p
      obtain ⟨h1, h2⟩ := getU_pos hne hg
      rw [List.length_drop] at h2
      exact ⟨_, _, _, rfl, fun _ => ⟨w, h1, by omega, rfl⟩⟩
  · obtain ⟨c, j, p, e, g⟩ := euc_tot n l i hi hl
    rw [e, obind_some]
    exact ⟨_, _, _, rfl, g⟩
  · rw [if_pos (inR_lt' hi)]
    obtain ⟨v, p, e⟩ := bytesign_tot n cs (W (↑(rd l (i : Int)).toNat : Int))
    rw [e, obind_some, W_same (x := (i : Int) + 1) (by omega) (by omega)]
    exact ⟨_, _, _, rfl, fun _ => ⟨1, by omega, by omega, rfl⟩⟩
theorem dec_tot_loop (n : Nat) (hn : 16 ≤ n) (cs : Int) (l : List UInt8) (hl : l.length ≤ 1048576) : ∀ (k i m : Nat) (acc : List UInt8), l.length - i ≤ k → k < m → i ≤ l.length → acc.length ≤ 4 * i →
    ∃ s p, f49L0 n m (cs, l, (i : Int), acc, ()) = some (s, p, ()) ∧ s.length ≤ 4 * l.length
  | _, _, 0, _, _, h, _, _ => by omega
  | k, i, m + 1, acc, hk, hm, hi, ha => by
    rw [f49L0]
    by_cases hlt : i < l.length
    · rw [if_pos (by simp; omega)]
      obtain ⟨c, j, p, e, g⟩ := l5get_tot n hn cs l i hlt (by omega)
      rw [e, obind_some]
      cases p with
      | false => exact ⟨_, _, rfl, by simp⟩
      | true =>
        obtain ⟨w, h1, h2, rfl⟩ := g rfl
        simp only [Bool.not_true, Bool.false_eq_true, if_false]
        obtain ⟨r, e2, g2⟩ := putsign_tot n acc c (by omega)
        rw [e2, obind_some]
        obtain ⟨k', rfl⟩ : ∃ k', k = k' + 1 := ⟨k - 1, by omega⟩
        exact dec_tot_loop n hn cs l hl k' (i + w) m r (by omega) (by omega) (by omega) (by omega)
    · rw [if_neg (by simp; omega)]
      exact ⟨_, _, rfl, by omega⟩
theorem decode_tot (n : Nat) (hn : 1048577 ≤ n) (cs : Int) (l : List UInt8) (hl : l.length ≤ 1048576) : ∃ s p, f49 n cs l = some (s, p, ()) ∧ s.length ≤ 4 * l.length := by
  unfold f49
  rw [within5, obind_some]
  refine ite_tot (fun o : Option (List UInt8 × Bool × Unit) => ∃ s p, o = some (s, p, ()) ∧ s.length ≤ 4 * l.length) ?_ ?_
  · exact ⟨_, _, rfl, by simp⟩
  · exact dec_tot_loop n (by omega) cs l hl l.length 0 n [] (by omega) (by omega) (by omega) (by simp)
theorem cellok_tot (n : Nat) (t : Int) (l : List UInt8) : ∃ q, f47 n t l = some (q, ()) := by
  unfold f47
  rw [within5, obind_some]
  exact ⟨_, rfl⟩
theorem celltext_tot (n : Nat) (hn : 1048577 ≤ n) (t : Int) (l : List UInt8) (hl : l.length ≤ 1048576) : ∃ s p, f24 n t l = some (s, p, ()) ∧ s.length ≤ 4 * l.length := by
  unfold f24
  obtain ⟨q, e⟩ := cellok_tot n t l
  obtain ⟨s, p, e2, g⟩ := decode_tot n hn t l hl
  simp only [e, e2, obind_some]
  refine ite_tot (fun o : Option (List UInt8 × Bool × Unit) => ∃ s p, o = some (s, p, ()) ∧ s.length ≤ 4 * l.length) ?_ ?_
  · exact ⟨_, _, rfl, by simp⟩
  · exact ⟨_, _, rfl, g⟩
theorem sametext_tot (n : Nat) (hn : 1048577 ≤ n) (t : Int) (l : List UInt8) (t' : Int) (l' : List UInt8) (hl : l.length ≤ 1048576) (hl' : l'.length ≤ 1048576) : ∃ q, f48 n t l t' l' = some (q, ()) := by
  unfold f48
  obtain ⟨s, p, e, g⟩ := celltext_tot n hn t l hl
  obtain ⟨s', p', e', g'⟩ := celltext_tot n hn t' l' hl'
  rw [e, e', obind_some, obind_some]
  exact ⟨_, rfl⟩
theorem rowok_tot (n : Nat) (hn : 1048577 ≤ n) (k : List UInt8) (a : Int) (ob : List UInt8) (c : Int) (nb : List UInt8) (h : Int) (z : Bool) (hk : k.length ≤ 1048576) (ho : ob.length ≤ 1048576) (hb : nb.length ≤ 1048576) : ∃ q, f23 n k a ob c nb h z = some (q, ()) := by
  unfold f23 f21 f22 f46
  obtain ⟨q1, e1⟩ := nameok_tot n hn k hk
  obtain ⟨s2, p2, e2, _⟩ := celltext_tot n hn a ob ho
  obtain ⟨s3, p3, e3, _⟩ := celltext_tot n hn c nb hb
  obtain ⟨q4, e4⟩ := cellok_tot n a ob
  obtain ⟨q5, e5⟩ := sametext_tot n hn a ob c nb ho hb
  simp only [e1, e2, e3, e4, e5, within_some, obind_some, obind_ite']
  repeat' first
    | refine ite_tot (fun o : Option (Bool × Unit) => ∃ q, o = some (q, ())) ?_ ?_
    | exact ⟨_, rfl⟩
theorem copy_tot (n : Nat) (t : Int) (l : List UInt8) (hl : l.length ≤ 1048576) : f51 n t l = some (t, l, ()) := by
  unfold f51
  rw [if_pos (Nat.ble_eq_true_of_le (by omega))]
theorem rcopy_tot (n : Nat) (k : List UInt8) (a : Int) (ob : List UInt8) (c : Int) (nb : List UInt8) (h : Int) (z : Bool) (ho : ob.length ≤ 1048576) (hb : nb.length ≤ 1048576) : f104 n k a ob c nb h z = some (k, a, c, h, z, ob, nb, ()) := by
  unfold f104
  rw [copy_tot n a ob ho, copy_tot n c nb hb, obind_some, obind_some]
theorem turn_tot (n : Nat) (hn : 1048577 ≤ n) (t : Int) (l : List UInt8) (t' : Int) (hl : l.length ≤ 262144) : ∃ a p r, f25 n t l t' = some (a, p, r, ()) ∧ r.length ≤ l.length + 20 := by
  unfold f25
  obtain ⟨s, p, e, g⟩ := celltext_tot n hn t l (by omega)
  obtain ⟨a2, p2, r2, e2, g2, _⟩ := cellof_tot n hn t' s (by omega)
  simp only [e, e2, copy_tot n t l (by omega), obind_some]
  refine ite_tot (fun o : Option (Int × Bool × List UInt8 × Unit) => ∃ a p r, o = some (a, p, r, ()) ∧ r.length ≤ l.length + 20) ?_ ?_
  · exact ⟨_, _, _, rfl, by omega⟩
  · exact ⟨_, _, _, rfl, by omega⟩
abbrev RowR : Type := List UInt8 × Int × Int × Int × Bool × List UInt8 × List UInt8 × Unit
theorem fill_tot (n : Nat) (hn : 1048577 ≤ n) (k : List UInt8) (a : Int) (ob : List UInt8) (c : Int) (nb : List UInt8) (h : Int) (z : Bool) (hk : k.length ≤ 1048576) (ho : ob.length ≤ 20) (hb : nb.length ≤ 20) :
    ∃ k' a' c' h' z' ob' nb', f71 n k a ob c nb h z = some (k', a', c', h', z', ob', nb', ()) ∧ k'.length ≤ k.length ∧ ob'.length ≤ 40 ∧ nb'.length ≤ 40 := by
  unfold f71 f22
  obtain ⟨q, e⟩ := rowok_tot n hn k a ob c nb h z hk (by omega) (by omega)
  obtain ⟨a2, p2, r2, e2, g2⟩ := turn_tot n hn a ob 0 (by omega)
  rw [rcopy_tot n k a ob c nb h z (by omega) (by omega)]
  simp only [e, e2, obind_some, obind_ite']
  repeat' first
    | refine ite_tot (fun o : Option RowR => ∃ k' a' c' h' z' ob' nb', o = some (k', a', c', h', z', ob', nb', ()) ∧ k'.length ≤ k.length ∧ ob'.length ≤ 40 ∧ nb'.length ≤ 40) ?_ ?_
    | exact ⟨_, _, _, _, _, _, _, rfl, Nat.le_refl _, by omega, by omega⟩
theorem back_tot (n : Nat) (hn : 1048577 ≤ n) (k : List UInt8) (a : Int) (ob : List UInt8) (c : Int) (nb : List UInt8) (h : Int) (z : Bool) (hk : k.length ≤ 1048576) (ho : ob.length ≤ 20) (hb : nb.length ≤ 20) :
    ∃ k' a' c' h' z' ob' nb', f72 n k a ob c nb h z = some (k', a', c', h', z', ob', nb', ()) ∧ k'.length ≤ k.length ∧ ob'.length ≤ 40 ∧ nb'.length ≤ 40 := by
  unfold f72 f22 f21
  obtain ⟨q, e⟩ := rowok_tot n hn k a ob c nb h z hk (by omega) (by omega)
  rw [rcopy_tot n k a ob c nb h z (by omega) (by omega)]
  simp only [e, obind_some, obind_ite']
  repeat' first
    | refine ite_tot (fun o : Option RowR => ∃ k' a' c' h' z' ob' nb', o = some (k', a', c', h', z', ob', nb', ()) ∧ k'.length ≤ k.length ∧ ob'.length ≤ 40 ∧ nb'.length ≤ 40) ?_ ?_
    | exact ⟨_, _, _, _, _, _, _, rfl, Nat.le_refl _, by first | omega | (simp; done), by first | omega | (simp; done)⟩
end Go.Sym

import Derived.Test.YtolgphpkjmdlgaaGreatDoorE9FnTallies
namespace Go.Sym
open Go
set_option maxRecDepth 100000
set_option linter.unusedVariables false
set_option linter.unusedSimpArgs false
theorem blb1 {a : Nat} (h : a ≤ 140737488355328) : (a * 1).ble 140737488355328 = true := Nat.ble_eq_true_of_le (by omega)
theorem putw_tot (n : Nat) (l : List UInt8) (x : Int) (hl : l.length ≤ 1073741824) : ∃ r, f144 n l x = some (r, ()) ∧ r.length = l.length + 2 := by
  unfold f144
  rw [if_pos (blb1 (by omega)), if_pos (blb1 (by simp; omega))]
  exact ⟨_, rfl, by simp⟩
theorem sum_inner (n : Nat) (g : List UInt8 × Int × Int × Unit → Option (Int × Unit)) (l : List UInt8) (i : Int) (hg : ∀ c, ∃ v, g (l, c, W (i + 1), ()) = some (v, ())) : ∀ (k j m : Nat) (c : Int), 8 - j ≤ k → k < m → j ≤ 8 →
    ∃ v, f147L1 n g m (l, c, i, (j : Int), ()) = some (v, ())
  | _, _, 0, _, _, h, _ => by omega
  | k, j, m + 1, c, hk, hm, hj => by
    rw [f147L1]
    by_cases hlt : j < 8
    · rw [if_pos (by simp; omega), W_same (x := (j : Int) + 1) (by omega) (by omega)]
      obtain ⟨k', rfl⟩ : ∃ k', k = k' + 1 := ⟨k - 1, by omega⟩
      exact ite_tot (fun o => ∃ v, o = some (v, ())) (sum_inner n g l i hg k' (j + 1) m _ (by omega) (by omega) (by omega)) (sum_inner n g l i hg k' (j + 1) m _ (by omega) (by omega) (by omega))
    · rw [if_neg (by simp; omega)]
      exact hg c
theorem sum_loop (n : Nat) (hn : 16 ≤ n) (l : List UInt8) (hl : l.length ≤ 1073741824) : ∀ (k i m : Nat) (c : Int), l.length - i ≤ k → k < m → i ≤ l.length → ∃ v, f147L0 n m (l, c, (i : Int), ()) = some (v, ())
  | _, _, 0, _, _, h, _ => by omega
  | k, i, m + 1, c, hk, hm, hi => by
    rw [f147L0]
    by_cases hlt : i < l.length
    · rw [if_pos (by simp; omega), if_pos (inR_lt' hlt)]
      obtain ⟨k', rfl⟩ : ∃ k', k = k' + 1 := ⟨k - 1, by omega⟩
      refine sum_inner n _ l (i : Int) (fun c => ?_) 8 0 n _ (by omega) (by omega) (by omega)
      rw [W_same (x := (i : Int) + 1) (by omega) (by omega)]
      exact sum_loop n hn l hl k' (i + 1) m c (by omega) (by omega) (by omega)
    · rw [if_neg (by simp; omega)]
      exact ⟨_, rfl⟩
theorem sum_tot (n : Nat) (hn : 1048577 ≤ n) (l : List UInt8) (hl : l.length ≤ 1048576) : ∃ v, f147 n l = some (v, ()) := sum_loop n (by omega) l (by omega) l.length 0 n _ (by omega) (by omega) (by omega)
theorem puttext_tot (n : Nat) (l s : List UInt8) (hl : l.length ≤ 1073741000) : ∃ r, f146 n l s = some (r, ()) ∧ r.length ≤ l.length + 62 := by
  unfold f146
  obtain ⟨r, e, g⟩ := putw_tot n l (s.length : Int) (by omega)
  rw [if_pos (blb1 (by omega)), e, obind_some]
  by_cases h : 60 < s.length
  · rw [if_pos (by simp; omega)]
    exact ⟨_, rfl, by simp⟩
  · rw [if_neg (by simp; omega), if_pos (blb1 (by simp only [g]; omega))]
    exact ⟨_, rfl, by simp; omega⟩
theorem l11cell_tot (n : Nat) (t : Int) (b l : List UInt8) (hl : l.length ≤ 1073740000) : ∃ r, f200161 n t b l = some (r, ()) ∧ r.length ≤ l.length + 63 := by
  unfold f200161
  rw [if_pos (blb1 (by simp; omega))]
  obtain ⟨r, e, g⟩ := puttext_tot n (l ++ [UInt8.ofNat (IntKind.u8.wrap t).toNat]) b (by simp; omega)
  rw [e, obind_some, obind_some]
  exact ⟨_, rfl, by simp at g; omega⟩
theorem putrow_tot (n : Nat) (hn : 1048577 ≤ n) (l k : List UInt8) (a : Int) (ob : List UInt8) (c : Int) (nb : List UInt8) (h : Int) (z : Bool) (hl : l.length ≤ 1048576) (hk : k.length ≤ 1048576) (ho : ob.length ≤ 1048576) (hb : nb.length ≤ 1048576) :
    ∃ r, f145 n l k a ob c nb h z = some (r, ()) ∧ r.length ≤ l.length + 200 := by
  unfold f145 f21 f22 f160
  obtain ⟨q, e⟩ := rowok_tot n hn k a ob c nb h z hk ho hb
  obtain ⟨r1, e1, g1⟩ := puttext_tot n ([] ++ l) k (by simp; omega)
  simp only [List.nil_append] at e1 g1
  rw [if_pos (blb1 (by omega)), e, obind_some]
  refine ite_tot (fun o : Option (List UInt8 × Unit) => ∃ r, o = some (r, ()) ∧ r.length ≤ l.length + 200) ⟨_, rfl, by simp⟩ ?_
  simp only [List.nil_append]
  rw [e1, obind_some, obind_ite']
  have hz : ∀ (y : UInt8), ((r1.length + [UInt8.ofNat (IntKind.u8.wrap h).toNat, y].length) * 1).ble 140737488355328 = true := fun y => blb1 (by simp; omega)
  rw [hz, if_pos rfl]
  simp only [obind_some]
  generalize hr2 : r1 ++ [UInt8.ofNat (IntKind.u8.wrap h).toNat, _] = r2
  have g2 : r2.length = r1.length + 2 := by rw [← hr2]; simp
  obtain ⟨r4, e4, g4⟩ := l11cell_tot n a ob r2 (by omega)
  obtain ⟨r6, e6, g6⟩ := l11cell_tot n c nb r4 (by omega)
  obtain ⟨r8, e8, g8⟩ := l11cell_tot n c nb r2 (by omega)
  simp only [e4, e6, e8, obind_some]
  repeat' first
    | refine ite_tot (fun o : Option (List UInt8 × Unit) => ∃ r, o = some (r, ()) ∧ r.length ≤ l.length + 200) ?_ ?_
    | exact ⟨_, rfl, by omega⟩
theorem l11who_tot (n : Nat) (x0 : Int) (x1 : List UInt8) (x2 : Int) (x3 : List UInt8) (x4 : Int) (x5 : List UInt8) (x6 : Int) (x7 : Bool) (x8 : List UInt8) (x9 x10 x11 x12 : Int) : ∃ q, f159 n x0 x1 x2 x3 x4 x5 x6 x7 x8 x9 x10 x11 x12 = some (q, ()) := by
  unfold f159 f143
  simp only [within_some, obind_some, obind_ite']
  exact ite_tot (fun o => ∃ q, o = some (q, ())) ⟨_, rfl⟩ ⟨_, rfl⟩
theorem l11norow_tot (n : Nat) (x1 : List UInt8) (x2 : Int) (x3 : List UInt8) (x4 : Int) (x5 : List UInt8) (x6 : Int) (x7 : Bool) : ∃ q, f158 n x1 x2 x3 x4 x5 x6 x7 = some (q, ()) := by
  unfold f158 f46
  simp only [obind_ite', obind_some]
  exact ⟨_, rfl⟩
theorem recok_tot (n : Nat) (hn : 1048577 ≤ n) (x0 : Int) (x1 : List UInt8) (x2 : Int) (x3 : List UInt8) (x4 : Int) (x5 : List UInt8) (x6 : Int) (x7 : Bool) (x8 : List UInt8) (x9 x10 x11 x12 : Int) (h1 : x1.length ≤ 1048576) (h3 : x3.length ≤ 1048576) (h5 : x5.length ≤ 1048576) (h8 : x8.length ≤ 1048576) :
    ∃ q, f142 n x0 x1 x2 x3 x4 x5 x6 x7 x8 x9 x10 x11 x12 = some (q, ()) := by
  unfold f142
  obtain ⟨q1, e1⟩ := l11norow_tot n x1 x2 x3 x4 x5 x6 x7
  obtain ⟨q2, e2⟩ := rowok_tot n hn x1 x2 x3 x4 x5 x6 x7 h1 h3 h5
  obtain ⟨q3, e3⟩ := nameok_tot n hn x8 h8
  obtain ⟨q4, e4⟩ := l11who_tot n x0 x1 x2 x3 x4 x5 x6 x7 x8 x9 x10 x11 x12
  simp only [e1, e2, e3, e4, within_some, obind_some, obind_ite']
  repeat' first
    | refine ite_tot (fun o : Option (Bool × Unit) => ∃ q, o = some (q, ())) ?_ ?_
    | exact ⟨_, rfl⟩
end Go.Sym

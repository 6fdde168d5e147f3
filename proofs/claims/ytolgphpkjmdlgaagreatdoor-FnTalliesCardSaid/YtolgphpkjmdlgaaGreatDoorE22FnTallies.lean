import Derived.Test.YtolgphpkjmdlgaaGreatDoorE21FnTallies
import Derived.Test.YtolgphpkjmdlgaaGreatDoorC9FnTallies
namespace Go.Sym
open Go
set_option maxRecDepth 100000
set_option linter.unusedVariables false
set_option linter.unusedSimpArgs false
abbrev hb (x c : Int) : Int := W ((BitVec.ofInt IntKind.i64.bits x &&& BitVec.ofInt IntKind.i64.bits c).toNat : Int)
theorem has_bits (x : Int) : ∃ q : Nat, q < 4 ∧ hb x 1 = ((q &&& 1 : Nat) : Int) ∧ hb x 2 = ((q &&& 2 : Nat) : Int) ∧ hb x 3 = (q : Int) := by
  obtain ⟨a, ha⟩ : ∃ a : Nat, a = (BitVec.ofInt IntKind.i64.bits x).toNat := ⟨_, rfl⟩
  have key : ∀ (c : Nat), c < 4 → hb x (c : Int) = ((a &&& c : Nat) : Int) := fun c hc => by
    unfold hb
    rw [BitVec.toNat_and, ← ha]
    have e : (BitVec.ofInt IntKind.i64.bits (c : Int)).toNat = c := by
      match c, hc with
      | 0, _ => rfl
      | 1, _ => rfl
      | 2, _ => rfl
      | 3, _ => rfl
    rw [e]
    have := Nat.and_le_right (n := a) (m := c)
    exact W_same (by omega) (by omega)
  have h3 : a &&& 3 = a % 4 := Nat.and_two_pow_sub_one_eq_mod a 2
  have e1 : a &&& 1 = (a % 4) &&& 1 := by rw [← h3, Nat.and_assoc]; rfl
  have e2 : a &&& 2 = (a % 4) &&& 2 := by rw [← h3, Nat.and_assoc]; rfl
  refine ⟨a % 4, Nat.mod_lt _ (by omega), ?_, ?_, ?_⟩
  · rw [← e1]; exact key 1 (by omega)
  · rw [← e2]; exact key 2 (by omega)
  · rw [← h3]; exact key 3 (by omega)
def isOld (x : D45) : Bool := hb x.2.2.2.1 1 == 1
def isNew (x : D45) : Bool := hb x.2.2.2.1 2 == 2
def cnt {α : Type} (p : α → Bool) (l : List α) : Int := ((l.countP p : Nat) : Int)
theorem cnt_snoc {α : Type} (p : α → Bool) (l : List α) (i : Nat) (h : i < l.length) : cnt p (l.take (i + 1)) = cnt p (l.take i) + if p l[i] = true then 1 else 0 := by
  unfold cnt
  rw [List.take_succ_eq_append_getElem h, List.countP_append]
  by_cases hp : p l[i] = true <;> simp [hp]
theorem cnt_le {α : Type} (p : α → Bool) (l : List α) (i : Nat) : 0 ≤ cnt p (l.take i) ∧ cnt p (l.take i) ≤ i := by
  unfold cnt
  have h1 := List.countP_le_length (p := p) (l := l.take i)
  have h2 : (l.take i).length ≤ i := List.length_take_le _ _
  omega
def cO (l : List D45) : Int := cnt (fun x => isOld x && !isNew x) l
def cN (l : List D45) : Int := cnt (fun x => !isOld x && isNew x) l
def cB (l : List D45) : Int := cnt (fun x => isOld x && isNew x) l
def cA (l : List D45) : Int := cnt (fun x => x.2.2.2.2) l
theorem spec_tally (n : Nat) {l : List D45} (hl : l.length ≤ 1048576) (y1 : List (List UInt8)) (y2 : List WrT) (y3 : Int) (y4 : Bool) (y6 : Int) (y7 : List D127) (y8 y9 y10 y11 y12 y13 y14 : Int) :
    ∀ (k i m : Nat), i + k = l.length → k < m →
      f11L0 n m ((i : Int), y1, y2, y3, y4, l, y6, y7, y8, y9, y10, y11, y12, y13, y14, cO (l.take i), cN (l.take i), cB (l.take i), cA (l.take i), ()) = some (cO l, cN l, cB l, cA l, ())
  | k, i, 0, _, h => by omega
  | 0, i, m + 1, hi, _ => by rw [f11L0, if_neg (by simp; omega), List.take_of_length_le (by omega)]
  | k + 1, i, m + 1, hi, hm => by
    have hlt : i < l.length := by omega
    have c1 : decide ((i : Int) < (l.length : Int)) = true := by simp; omega
    have c2 : inR l.length (i : Int) = true := by rw [inR_nat]; simpa using hlt
    have ih := spec_tally n hl y1 y2 y3 y4 y6 y7 y8 y9 y10 y11 y12 y13 y14 k (i + 1) m (by omega) (by omega)
    rw [f11L0, if_pos c1, if_pos c2]
    simp only [rd_get hlt, f21, f22, obind_some, W_same (x := (i : Int) + 1) (by omega) (by omega)]
    have bO := cnt_le (fun x => isOld x && !isNew x) l i
    have bN := cnt_le (fun x => !isOld x && isNew x) l i
    have bB := cnt_le (fun x => isOld x && isNew x) l i
    have bA := cnt_le (fun x : D45 => x.2.2.2.2) l i
    have sO := cnt_snoc (fun x => isOld x && !isNew x) l i hlt
    have sN := cnt_snoc (fun x => !isOld x && isNew x) l i hlt
    have sB := cnt_snoc (fun x => isOld x && isNew x) l i hlt
    have sA := cnt_snoc (fun x : D45 => x.2.2.2.2) l i hlt
    change 0 ≤ cO (l.take i) ∧ cO (l.take i) ≤ i at bO
    change 0 ≤ cN (l.take i) ∧ cN (l.take i) ≤ i at bN
    change 0 ≤ cB (l.take i) ∧ cB (l.take i) ≤ i at bB
    change 0 ≤ cA (l.take i) ∧ cA (l.take i) ≤ i at bA
    change cO (l.take (i + 1)) = cO (l.take i) + _ at sO
    change cN (l.take (i + 1)) = cN (l.take i) + _ at sN
    change cB (l.take (i + 1)) = cB (l.take i) + _ at sB
    change cA (l.take (i + 1)) = cA (l.take i) + _ at sA
    rw [sO, sN, sB, sA] at ih
    have w1 := W_same (x := cO (l.take i) + 1) (by omega) (by omega)
    have w2 := W_same (x := cN (l.take i) + 1) (by omega) (by omega)
    have w3 := W_same (x := cB (l.take i) + 1) (by omega) (by omega)
    have w4 := W_same (x := cA (l.take i) + 1) (by omega) (by omega)
    have hO : (W ((BitVec.ofInt IntKind.i64.bits l[i].2.2.2.1 &&& BitVec.ofInt IntKind.i64.bits 1).toNat : Int) == 1) = isOld l[i] := rfl
    have hN : (W ((BitVec.ofInt IntKind.i64.bits l[i].2.2.2.1 &&& BitVec.ofInt IntKind.i64.bits 2).toNat : Int) == 2) = isNew l[i] := rfl
    rw [hO, hN]
    simp only [w1, w2, w3, w4]
    cases e1 : isOld l[i] <;> cases e2 : isNew l[i] <;> cases e3 : (l[i]).2.2.2.2 <;> simp [e1, e2, e3, obind_some] at ih ⊢ <;> exact ih
theorem tally_spec (n : Nat) (hn : 1048577 ≤ n) (x0 : List (List UInt8)) (x1 : List WrT) (x2 : Int) (x3 : Bool) (x4 : List D45) (x5 : Int) (x6 : List D127) (x7 x8 x9 : Int) (hl : x4.length ≤ 1048576) :
    f11 n x0 x1 x2 x3 x4 x5 x6 x7 x8 x9 = some (cO x4, cN x4, cB x4, cA x4, ()) :=
  spec_tally n hl x0 x1 x2 x3 x5 x6 x7 x8 x9 0 0 0 0 x4.length 0 n (by omega) (by omega)
theorem impl_tally (n : Nat) {l : List D45} (hl : l.length ≤ 1048576) (y3 y4 y5 y6 : Int) :
    ∀ (k i m : Nat), i + k = l.length → k < m →
      f6L0 n m (l, (l.length : Int), (i : Int), y3, y4, y5, y6, cO (l.take i), cN (l.take i), cB (l.take i), cA (l.take i), ()) = some (cO l, cN l, cB l, cA l, ())
  | k, i, 0, _, h => by omega
  | 0, i, m + 1, hi, _ => by rw [f6L0, if_neg (by simp; omega), List.take_of_length_le (by omega)]
  | k + 1, i, m + 1, hi, hm => by
    have hlt : i < l.length := by omega
    have c1 : decide ((i : Int) < (l.length : Int)) = true := by simp; omega
    have c2 : inR l.length (i : Int) = true := by rw [inR_nat]; simpa using hlt
    have ih := impl_tally n hl y3 y4 y5 y6 k (i + 1) m (by omega) (by omega)
    rw [f6L0, if_pos c1, if_pos c2]
    simp only [rd_get hlt, W_same (x := (i : Int) + 1) (by omega) (by omega)]
    have bO := cnt_le (fun x => isOld x && !isNew x) l i
    have bN := cnt_le (fun x => !isOld x && isNew x) l i
    have bB := cnt_le (fun x => isOld x && isNew x) l i
    have bA := cnt_le (fun x : D45 => x.2.2.2.2) l i
    have sO := cnt_snoc (fun x => isOld x && !isNew x) l i hlt
    have sN := cnt_snoc (fun x => !isOld x && isNew x) l i hlt
    have sB := cnt_snoc (fun x => isOld x && isNew x) l i hlt
    have sA := cnt_snoc (fun x : D45 => x.2.2.2.2) l i hlt
    change 0 ≤ cO (l.take i) ∧ cO (l.take i) ≤ i at bO
    change 0 ≤ cN (l.take i) ∧ cN (l.take i) ≤ i at bN
    change 0 ≤ cB (l.take i) ∧ cB (l.take i) ≤ i at bB
    change 0 ≤ cA (l.take i) ∧ cA (l.take i) ≤ i at bA
    change cO (l.take (i + 1)) = cO (l.take i) + _ at sO
    change cN (l.take (i + 1)) = cN (l.take i) + _ at sN
    change cB (l.take (i + 1)) = cB (l.take i) + _ at sB
    change cA (l.take (i + 1)) = cA (l.take i) + _ at sA
    rw [sO, sN, sB, sA] at ih
    have w1 := W_same (x := cO (l.take i) + 1) (by omega) (by omega)
    have w2 := W_same (x := cN (l.take i) + 1) (by omega) (by omega)
    have w3 := W_same (x := cB (l.take i) + 1) (by omega) (by omega)
    have w4 := W_same (x := cA (l.take i) + 1) (by omega) (by omega)
    simp only [w1, w2, w3, w4]
    obtain ⟨q, hq, hq1, hq2, hq3⟩ := has_bits l[i].2.2.2.1
    have hO : isOld l[i] = (((q &&& 1 : Nat) : Int) == 1) := by unfold isOld; rw [hq1]
    have hN : isNew l[i] = (((q &&& 2 : Nat) : Int) == 2) := by unfold isNew; rw [hq2]
    have h3 : W ((BitVec.ofInt IntKind.i64.bits l[i].2.2.2.1 &&& BitVec.ofInt IntKind.i64.bits 3).toNat : Int) = (q : Int) := hq3
    rw [h3]
    rw [hO, hN] at ih
    match q, hq with
    | 0, _ => cases e3 : (l[i]).2.2.2.2 <;> simp [e3] at ih ⊢ <;> exact ih
    | 1, _ => cases e3 : (l[i]).2.2.2.2 <;> simp [e3] at ih ⊢ <;> exact ih
    | 2, _ => cases e3 : (l[i]).2.2.2.2 <;> simp [e3] at ih ⊢ <;> exact ih
    | 3, _ => cases e3 : (l[i]).2.2.2.2 <;> simp [e3] at ih ⊢ <;> exact ih
theorem tally_impl (n : Nat) (hn : 1048577 ≤ n) (x0 : List (List UInt8)) (x1 : List WrT) (x2 : Int) (x3 : Bool) (x4 : List D45) (x5 : Int) (x6 : List D127) (x7 x8 x9 : Int) (hl : x4.length ≤ 1048576) :
    f6 n x0 x1 x2 x3 x4 x5 x6 x7 x8 x9 = some (cO x4, cN x4, cB x4, cA x4, ()) :=
  impl_tally n hl 0 0 0 0 x4.length 0 n (by omega) (by omega)
theorem three_ways {α : Type} (p q : α → Bool) : ∀ (l : List α), (∀ x ∈ l, (p x || q x) = true) → cnt (fun x => p x && !q x) l + cnt (fun x => !p x && q x) l + cnt (fun x => p x && q x) l = (l.length : Int)
  | [], _ => rfl
  | x :: l, h => by
    have ih := three_ways p q l (fun y hy => h y (List.mem_cons_of_mem _ hy))
    have hx := h x (List.mem_cons_self ..)
    unfold cnt at ih ⊢
    rw [List.countP_cons, List.countP_cons, List.countP_cons, List.length_cons]
    cases h1 : p x <;> cases h2 : q x <;> simp [h1, h2] at hx ⊢ <;> omega
theorem all_told (l : List D45) (h : ∀ r ∈ l, 1 ≤ r.2.2.2.1 ∧ r.2.2.2.1 ≤ 3) : cO l + cN l + cB l = (l.length : Int) := by
  refine three_ways isOld isNew l (fun x hx => ?_)
  obtain ⟨h1, h2⟩ := h x hx
  have h3 : x.2.2.2.1 = 1 ∨ x.2.2.2.1 = 2 ∨ x.2.2.2.1 = 3 := by omega
  unfold isOld isNew
  rcases h3 with e | e | e <;> rw [e] <;> decide
def asl (l : List D45) : List (List UInt8) := (l.filter (fun r => r.2.2.2.2)).map (·.1)
theorem asl_len (l : List D45) : ((asl l).length : Int) = cA l := by
  unfold asl cA cnt
  rw [List.length_map, List.countP_eq_length_filter]
theorem asl_snoc (l : List D45) (i : Nat) (h : i < l.length) : asl (l.take (i + 1)) = asl (l.take i) ++ if l[i].2.2.2.2 = true then [l[i].1] else [] := by
  unfold asl
  rw [List.take_succ_eq_append_getElem h, List.filter_append, List.map_append]
  by_cases hp : l[i].2.2.2.2 = true <;> simp [hp]
theorem asl_le (l : List D45) : (asl l).length ≤ l.length := by
  unfold asl
  rw [List.length_map]
  exact List.length_filter_le ..
theorem asl_at (l : List D45) (i : Nat) (h : i < l.length) (hp : l[i].2.2.2.2 = true) : ∃ g : (asl (l.take i)).length < (asl l).length, (asl l)[(asl (l.take i)).length] = l[i].1 := by
  have e : asl l = asl (l.take i) ++ l[i].1 :: asl (l.drop (i + 1)) := by
    have e1 : l = l.take i ++ l[i] :: l.drop (i + 1) := by rw [List.getElem_cons_drop, List.take_append_drop]
    conv => lhs; rw [e1]
    unfold asl
    rw [List.filter_append, List.map_append, List.filter_cons, if_pos hp, List.map_cons]
  refine ⟨by have := congrArg List.length e; simp only [List.length_append, List.length_cons] at this; omega, ?_⟩
  have : (asl l)[(asl (l.take i)).length]? = some l[i].1 := by
    rw [e, List.getElem?_append_right (Nat.le_refl _)]
    simp
  obtain ⟨g, h2⟩ := List.getElem?_eq_some_iff.1 this
  exact h2
theorem asl_impl (n : Nat) {l : List D45} (hl : l.length ≤ 1048576) : ∀ (k i m : Nat), l.length - i ≤ k → k < m → i ≤ l.length → f7L0 n m (l, (l.length : Int), (i : Int), asl (l.take i), ()) = some (asl l, ())
  | k, i, 0, _, h, _ => by omega
  | k, i, m + 1, hk, hm, hi => by
    rw [f7L0]
    by_cases hlt : i < l.length
    · have hs := asl_snoc l i hlt
      have hle := asl_le (l.take i)
      rw [List.length_take] at hle
      obtain ⟨k', rfl⟩ : ∃ q', k = q' + 1 := ⟨k - 1, by omega⟩
      have ih := asl_impl n hl k' (i + 1) m (by omega) (by omega) (by omega)
      rw [if_pos (by simp; omega), if_pos (inR_lt' hlt), rd_get hlt, W_same (x := (i : Int) + 1) (by omega) (by omega)]
      rw [hs] at ih
      by_cases hp : l[i].2.2.2.2 = true
      · rw [if_pos hp, if_pos (Nat.ble_eq_true_of_le (by simp only [List.length_singleton]; omega))]
        rw [if_pos hp] at ih
        exact ih
      · rw [if_neg hp]
        rw [if_neg hp, List.append_nil] at ih
        exact ih
    · rw [if_neg (by simp; omega), List.take_of_length_le (by omega)]
theorem aside_impl (n : Nat) (hn : 1048577 ≤ n) (x0 : List (List UInt8)) (x1 : List WrT) (x2 : Int) (x3 : Bool) (x4 : List D45) (x5 : Int) (x6 : List D127) (x7 x8 x9 : Int) (hl : x4.length ≤ 1048576) :
    f7 n x0 x1 x2 x3 x4 x5 x6 x7 x8 x9 = some (asl x4, ()) :=
  asl_impl n hl x4.length 0 n (by omega) (by omega) (by omega)
theorem why_iff (n : Nat) (hn : 1048577 ≤ n) (r : D45) (hS : RowS r) (hG : RowG n r) :
    (∃ v, f8 n r.1 r.2.1.1 r.2.1.2 r.2.2.1.1 r.2.2.1.2 r.2.2.2.1 r.2.2.2.2 = some (v, ()) ∧ (v != 0) = r.2.2.2.2) ∧ 1 ≤ r.2.2.2.1 ∧ r.2.2.2.1 ≤ 3 := by
  obtain ⟨k, ⟨t, b⟩, ⟨t', b'⟩, has, a⟩ := r
  have hk : k.length ≤ 1048576 := by have := hS.1; dsimp only at this; omega
  have hbb : b.length ≤ 1048576 := by have := hS.2.1; dsimp only at this; omega
  obtain ⟨q, q1, q2, q3⟩ := row_ok n hn k hk t b t' b' has a
  have hG' : f23 n k t b t' b' has a = some (true, ()) := hG
  have hq : q = true := by
    rw [q1] at hG'
    simpa using hG'
  subst hq
  obtain ⟨h5, h6⟩ := q3 rfl
  refine ⟨?_, by first | exact h5 | omega, by first | exact h6 | omega⟩
  obtain ⟨s, o, h1, h2, _⟩ := cell_text n hn t b
  obtain ⟨t2, o2, b2, g1, g2, _⟩ := turn_eq n hn t b hbb 0
  dsimp only
  unfold f8
  rw [q2, obind_some]
  cases a with
  | false => exact ⟨0, rfl, rfl⟩
  | true =>
    rw [if_neg (by simp)]
    simp only [h2, g2, obind_some]
    refine ite_tot (fun o : Option (Int × Unit) => ∃ v, o = some (v, ()) ∧ (v != 0) = true) ⟨_, rfl, rfl⟩ ?_
    refine ite_tot (fun o : Option (Int × Unit) => ∃ v, o = some (v, ()) ∧ (v != 0) = true) ⟨_, rfl, rfl⟩ ?_
    exact ite_tot (fun o : Option (Int × Unit) => ∃ v, o = some (v, ()) ∧ (v != 0) = true) ⟨_, rfl, rfl⟩ ⟨_, rfl, rfl⟩
end Go.Sym

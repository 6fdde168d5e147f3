import Derived.Test.YtpbfjemedfnkeaaQFnExactShare
import Derived.Test.YtpbfjemedfnkeaaL2
namespace Go.Sym
open Go
set_option maxRecDepth 100000
set_option linter.unusedVariables false
/-- The bits of a number that a mask takes. -/
abbrev hb (x c : Int) : Int := W ((BitVec.ofInt IntKind.i64.bits x &&& BitVec.ofInt IntKind.i64.bits c).toNat : Int)
theorem has_bits (x : Int) : ∃ q : Nat, q < 4 ∧ hb x 1 = ((q &&& 1 : Nat) : Int) ∧ hb x 2 = ((q &&& 2 : Nat) : Int) ∧ hb x 3 = (q : Int) := by
  obtain ⟨a, ha⟩ : ∃ a : Nat, a = (BitVec.ofInt IntKind.i64.bits x).toNat := ⟨_, rfl⟩
  have key : ∀ (c : Nat), c < 4 → hb x (c : Int) = ((a &&& c : Nat) : Int) := fun c hc => by
    unfold hb
    rw [BitVec.toNat_and, ← ha]
    have e : (BitVec.ofInt IntKind.i64.bits (c : Int)).toNat = c := by
      match c, hc with
      | 0, _ => rfl
      | 1, _ => rfl
      | 2, _ => rfl
      | 3, _ => rfl
    rw [e]
    have := Nat.and_le_right (n := a) (m := c)
    exact W_same (by omega) (by omega)
  have h3 : a &&& 3 = a % 4 := Nat.and_two_pow_sub_one_eq_mod a 2
  have e1 : a &&& 1 = (a % 4) &&& 1 := by rw [← h3, Nat.and_assoc]; rfl
  have e2 : a &&& 2 = (a % 4) &&& 2 := by rw [← h3, Nat.and_assoc]; rfl
  refine ⟨a % 4, Nat.mod_lt _ (by omega), ?_, ?_, ?_⟩
  · rw [← e1]; exact key 1 (by omega)
  · rw [← e2]; exact key 2 (by omega)
  · rw [← h3]; exact key 3 (by omega)

/-- What a row is counted as. -/
def isOld (x : D25) : Bool := hb x.2.2.2.1 1 == 1
def isNew (x : D25) : Bool := hb x.2.2.2.1 2 == 2
def cnt {α : Type} (p : α → Bool) (l : List α) : Int := ((l.countP p : Nat) : Int)
theorem cnt_snoc {α : Type} (p : α → Bool) (l : List α) (i : Nat) (h : i < l.length) : cnt p (l.take (i + 1)) = cnt p (l.take i) + if p l[i] = true then 1 else 0 := by
  unfold cnt
  rw [List.take_succ_eq_append_getElem h, List.countP_append]
  by_cases hp : p l[i] = true <;> simp [hp]
theorem cnt_le {α : Type} (p : α → Bool) (l : List α) (i : Nat) : 0 ≤ cnt p (l.take i) ∧ cnt p (l.take i) ≤ i := by
  unfold cnt
  have h1 := List.countP_le_length (p := p) (l := l.take i)
  have h2 : (l.take i).length ≤ i := List.length_take_le _ _
  omega
def cO (l : List D25) : Int := cnt (fun x => isOld x && !isNew x) l
def cN (l : List D25) : Int := cnt (fun x => !isOld x && isNew x) l
def cB (l : List D25) : Int := cnt (fun x => isOld x && isNew x) l
def cA (l : List D25) : Int := cnt (fun x => x.2.2.2.2) l

theorem spec_tally (n : Nat) {l : List D25} (hl : l.length ≤ 1048576) (y1 : List (List UInt8)) (y2 : List D23) (y3 : Int) (y4 : Bool) (y6 : Int) (y7 : List D219) (y8 y9 y10 y11 y12 y13 y14 : Int) :
    ∀ (k i m : Nat), i + k = l.length → k < m →
      f29L0 n m ((i : Int), y1, y2, y3, y4, l, y6, y7, y8, y9, y10, y11, y12, y13, y14, cO (l.take i), cN (l.take i), cB (l.take i), cA (l.take i), ()) = some (cO l, cN l, cB l, cA l, ())
  | k, i, 0, _, h => by omega
  | 0, i, m + 1, hi, _ => by rw [f29L0, if_neg (by simp; omega), List.take_of_length_le (by omega)]
  | k + 1, i, m + 1, hi, hm => by
    have hlt : i < l.length := by omega
    have c1 : decide ((i : Int) < (l.length : Int)) = true := by simp; omega
    have c2 : inR l.length (i : Int) = true := by rw [inR_nat]; simpa using hlt
    have ih := spec_tally n hl y1 y2 y3 y4 y6 y7 y8 y9 y10 y11 y12 y13 y14 k (i + 1) m (by omega) (by omega)
    rw [f29L0, if_pos c1, if_pos c2]
    simp only [rd_get hlt, f46, f48, obind_some, W_same (x := (i : Int) + 1) (by omega) (by omega)]
    have bO := cnt_le (fun x => isOld x && !isNew x) l i
    have bN := cnt_le (fun x => !isOld x && isNew x) l i
    have bB := cnt_le (fun x => isOld x && isNew x) l i
    have bA := cnt_le (fun x : D25 => x.2.2.2.2) l i
    have sO := cnt_snoc (fun x => isOld x && !isNew x) l i hlt
    have sN := cnt_snoc (fun x => !isOld x && isNew x) l i hlt
    have sB := cnt_snoc (fun x => isOld x && isNew x) l i hlt
    have sA := cnt_snoc (fun x : D25 => x.2.2.2.2) l i hlt
    change 0 ≤ cO (l.take i) ∧ cO (l.take i) ≤ i at bO
    change 0 ≤ cN (l.take i) ∧ cN (l.take i) ≤ i at bN
    change 0 ≤ cB (l.take i) ∧ cB (l.take i) ≤ i at bB
    change 0 ≤ cA (l.take i) ∧ cA (l.take i) ≤ i at bA
    change cO (l.take (i + 1)) = cO (l.take i) + _ at sO
    change cN (l.take (i + 1)) = cN (l.take i) + _ at sN
    change cB (l.take (i + 1)) = cB (l.take i) + _ at sB
    change cA (l.take (i + 1)) = cA (l.take i) + _ at sA
    rw [sO, sN, sB, sA] at ih
    have w1 := W_same (x := cO (l.take i) + 1) (by omega) (by omega)
    have w2 := W_same (x := cN (l.take i) + 1) (by omega) (by omega)
    have w3 := W_same (x := cB (l.take i) + 1) (by omega) (by omega)
    have w4 := W_same (x := cA (l.take i) + 1) (by omega) (by omega)
    have hO : (W ((BitVec.ofInt IntKind.i64.bits l[i].2.2.2.1 &&& BitVec.ofInt IntKind.i64.bits 1).toNat : Int) == 1) = isOld l[i] := rfl
    have hN : (W ((BitVec.ofInt IntKind.i64.bits l[i].2.2.2.1 &&& BitVec.ofInt IntKind.i64.bits 2).toNat : Int) == 2) = isNew l[i] := rfl
    rw [hO, hN]
    simp only [w1, w2, w3, w4]
    cases e1 : isOld l[i] <;> cases e2 : isNew l[i] <;> cases e3 : (l[i]).2.2.2.2 <;> simp [e1, e2, e3, obind_some] at ih ⊢ <;> exact ih

theorem tally_spec (n : Nat) (hn : 1048577 ≤ n) (x0 : List (List UInt8)) (x1 : List D23) (x2 : Int) (x3 : Bool) (x4 : List D25) (x5 : Int) (x6 : List D219) (x7 x8 x9 : Int) (hl : x4.length ≤ 1048576) :
    f29 n x0 x1 x2 x3 x4 x5 x6 x7 x8 x9 = some (cO x4, cN x4, cB x4, cA x4, ()) :=
  spec_tally n hl x0 x1 x2 x3 x5 x6 x7 x8 x9 0 0 0 0 x4.length 0 n (by omega) (by omega)
end Go.Sym

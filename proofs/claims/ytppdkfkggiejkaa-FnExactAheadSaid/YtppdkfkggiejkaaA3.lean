import Derived.Test.YtppdkfkggiejkaaA2
namespace Go.Sym
open Go.Proofs
abbrev O1 := Option (Bool × Unit)
def NX (a p : Int) : Bool :=
  if (if (if decide (a ≥ 0) = true then decide (a ≤ 4) else false) = true then p == IntKind.i64.wrap (a + 1) else false) = true then true
  else if (if (if decide (a ≥ 0) = true then decide (a ≤ 3) else false) = true then p == 6 else false) = true then true
  else if (a == 6) = true then p == 7 else false
theorem three {c1 c2 : Prop} [Decidable c1] [Decidable c2] (x : Bool) : (if c1 then some (true, ()) else if c2 then some (true, ()) else some (x, ()) : O1) = some ((if c1 then true else if c2 then true else x), ()) := by
  split
  · rfl
  · split <;> rfl
theorem s46_fn (n : Nat) (a p : Int) : (show O1 from s46.fn n (a, p, ())) = some (NX a p, ()) := three (c1 := (if (if decide (a ≥ 0) = true then decide (a ≤ 4) else false) = true then p == IntKind.i64.wrap (a + 1) else false) = true) (c2 := (if (if decide (a ≥ 0) = true then decide (a ≤ 3) else false) = true then p == 6 else false) = true) (if (a == 6) = true then p == 7 else false)
theorem s44_fn (n : Nat) (a p : Int) : (show O1 from s44.fn n (a, p, ())) = some (NX a p, ()) := three (c1 := (if (if decide (a ≥ 0) = true then decide (a ≤ 4) else false) = true then p == IntKind.i64.wrap (a + 1) else false) = true) (c2 := (if (if decide (a ≥ 0) = true then decide (a ≤ 3) else false) = true then p == 6 else false) = true) (if (a == 6) = true then p == 7 else false)

noncomputable def L43 (n : Nat) (k : Int × Int × Int × Unit → O1) : Nat → Int × Int × Int × Int × Unit → O1
  | 0, _ => none
  | m + 1, (a, b, c, i, _) => if (if decide (i ≤ 7) = true then decide (c > 0) else false) = true then
      (show O1 from s46.fn n (a, i, ())).bind fun r =>
        (if (true && r.1 == true) = true then k (i, b, IntKind.i64.wrap (c - 1), ()) else some (false, ())).bind fun r1 =>
          if (if r.1 = true then r1.1 else false) = true then some (true, ()) else L43 n k m (a, b, c, IntKind.i64.wrap (i + 1), ())
    else some (false, ())
theorem r43_fn (n : Nat) (k : Sem' Try.prog 43 (iF 3) oB) (a b c : Int) : (r43 k).fn n (a, b, c, ()) = if (a == b) = true then some (true, ()) else L43 n (k.fn n) n (a, b, c, 0, ()) := by
  refine ite_congr rfl (fun _ => rfl) (fun _ => ?_)
  refine congrFun (loopFn_eq (L43 n (k.fn n)) (by funext x; rfl) (fun m k' hk => ?_) n) _
  obtain ⟨f, okk⟩ := k'
  subst hk
  rfl
noncomputable def L34 (n : Nat) (k : Int × Int × Unit → O1) : Nat → Int × Int × Int × Unit → O1
  | 0, _ => none
  | m + 1, (a, b, i, _) => if decide (i ≤ 7) = true then
      (if (true && decide (i > a) == true) = true then (show O1 from s44.fn n (a, i, ())) else some (false, ())).bind fun r =>
        (if (true && (if decide (i > a) = true then r.1 else false) == true) = true then k (i, b, ()) else some (false, ())).bind fun r1 =>
          if (if (if decide (i > a) = true then r.1 else false) = true then r1.1 else false) = true then some (true, ()) else L34 n k m (a, b, IntKind.i64.wrap (i + 1), ())
    else some (false, ())
theorem r34_fn (n : Nat) (k : Sem' Try.prog 34 (iF 2) oB) (a b : Int) : (r34 k).fn n (a, b, ()) = if (a == b) = true then some (true, ()) else L34 n (k.fn n) n (a, b, 0, ()) := by
  refine ite_congr rfl (fun _ => rfl) (fun _ => ?_)
  refine congrFun (loopFn_eq (L34 n (k.fn n)) (by funext x; rfl) (fun m k' hk => ?_) n) _
  obtain ⟨f, okk⟩ := k'
  subst hk
  rfl

def WW : Nat → Int → Int → Bool
  | 0, a, b => a == b
  | d + 1, a, b => (a == b) || (List.range 8).any fun p => NX a p && WW d p b
def RV : Nat → Int → Int → Bool
  | 0, a, b => a == b
  | d + 1, a, b => (a == b) || (List.range 8).any fun p => decide ((p : Int) > a) && NX a p && RV d p b

theorem WW_succ (d : Nat) (a b : Int) : WW (d + 1) a b = ((a == b) || (List.range 8).any fun p => NX a p && WW d p b) := rfl
theorem RV_succ (d : Nat) (a b : Int) : RV (d + 1) a b = ((a == b) || (List.range 8).any fun p => decide ((p : Int) > a) && NX a p && RV d p b) := rfl
theorem wrap_small {i : Int} (h0 : 0 ≤ i) (h : i ≤ 100) : IntKind.i64.wrap i = i := by
  rw [IntKind.wrap_i64]
  omega
theorem L43_eq (n : Nat) (k : Int × Int × Int × Unit → O1) (a b : Int) (d : Nat) (hd : d ≤ 8) (hk : ∀ p : Nat, p < 8 → k (p, b, (d : Int), ()) = some (WW d p b, ())) : ∀ (j i m : Nat), j = 8 - i → i ≤ 8 → j < m →
    L43 n k m (a, b, ((d + 1 : Nat) : Int), (i : Int), ()) = some ((List.range' i j).any (fun p => NX a p && WW d p b), ())
  | j, i, 0, _, _, h => by omega
  | j, i, m + 1, hj, hi, hm => by
    unfold L43
    by_cases h : i < 8
    · obtain ⟨j', rfl⟩ : ∃ j', j = j' + 1 := ⟨j - 1, by omega⟩
      have c1 : decide ((i : Int) ≤ 7) = true := by simp; omega
      have c2 : decide (((d + 1 : Nat) : Int) > 0) = true := by rw [decide_eq_true_eq]; omega
      have w1 : IntKind.i64.wrap (((d + 1 : Nat) : Int) - 1) = (d : Int) := by rw [wrap_small (by omega) (by omega)]; omega
      have w2 : IntKind.i64.wrap ((i : Int) + 1) = ((i + 1 : Nat) : Int) := by rw [wrap_small (by omega) (by omega)]; omega
      have IH := L43_eq n k a b d hd hk j' (i + 1) m (by omega) (by omega) (by omega)
      rw [c1, c2, s46_fn, w1, w2, hk i h, IH, List.range'_succ]
      simp only [if_true, Option.bind_some, List.any_cons]
      cases NX a i <;> cases WW d i b <;> simp
    · have c1 : decide ((i : Int) ≤ 7) = false := by simp; omega
      have : j = 0 := by omega
      subst this
      rw [c1]
      rfl
theorem s43_eq (n : Nat) (hn : 9 ≤ n) (b : Int) : ∀ (d e : Nat) (a : Int), d ≤ 8 → d < e → (recS r43 e).fn n (a, b, (d : Int), ()) = some (WW d a b, ())
  | d, 0, a, _, h => by omega
  | 0, e + 1, a, hd, he => by
    show (r43 (recS r43 e)).fn n (a, b, ((0 : Nat) : Int), ()) = _
    rw [r43_fn]
    have e0 : L43 n ((recS r43 e).fn n) n (a, b, ((0 : Nat) : Int), 0, ()) = some (false, ()) := by
      obtain ⟨m, rfl⟩ : ∃ m, n = m + 1 := ⟨n - 1, by omega⟩
      rfl
    rw [e0, show WW 0 a b = (a == b) from rfl]
    cases h : (a == b) <;> rfl
  | d + 1, e + 1, a, hd, he => by
    show (r43 (recS r43 e)).fn n (a, b, ((d + 1 : Nat) : Int), ()) = _
    rw [r43_fn]
    have := L43_eq n ((recS r43 e).fn n) a b d (by omega) (fun p _ => s43_eq n hn b d e p (by omega) (by omega)) 8 0 n rfl (by omega) (by omega)
    have h0 : ((0 : Nat) : Int) = 0 := rfl
    rw [h0] at this
    rw [this]
    rw [WW_succ, List.range_eq_range']
    cases h : (a == b) <;> rfl
theorem L34_eq (n : Nat) (k : Int × Int × Unit → O1) (a b : Int) (d : Nat) (hk : ∀ p : Nat, p < 8 → a < p → NX a p = true → k (p, b, ()) = some (RV d p b, ())) : ∀ (j i m : Nat), j = 8 - i → i ≤ 8 → j < m →
    L34 n k m (a, b, (i : Int), ()) = some ((List.range' i j).any (fun p => decide ((p : Int) > a) && NX a p && RV d p b), ())
  | j, i, 0, _, _, h => by omega
  | j, i, m + 1, hj, hi, hm => by
    unfold L34
    by_cases h : i < 8
    · obtain ⟨j', rfl⟩ : ∃ j', j = j' + 1 := ⟨j - 1, by omega⟩
      have c1 : decide ((i : Int) ≤ 7) = true := by simp; omega
      have w2 : IntKind.i64.wrap ((i : Int) + 1) = ((i + 1 : Nat) : Int) := by rw [wrap_small (by omega) (by omega)]; omega
      have IH := L34_eq n k a b d hk j' (i + 1) m (by omega) (by omega) (by omega)
      rw [c1, s44_fn, w2, IH, List.range'_succ]
      simp only [if_true, List.any_cons]
      by_cases hia : a < (i : Int)
      · have h1 : decide ((i : Int) > a) = true := by simpa using hia
        rw [h1]
        cases hN : NX a i with
        | false => simp
        | true =>
          rw [hk i h hia hN]
          cases RV d i b <;> simp
      · have h1 : decide ((i : Int) > a) = false := by simpa using hia
        rw [h1]
        simp
    · have c1 : decide ((i : Int) ≤ 7) = false := by simp; omega
      have : j = 0 := by omega
      subst this
      rw [c1]
      rfl
theorem s34_eq (n : Nat) (hn : 9 ≤ n) (b : Int) : ∀ (e : Nat) (a : Int), 0 < e → (9 ≤ a + e ∨ 10 ≤ e) → (recS r34 e).fn n (a, b, ()) = some (RV e a b, ())
  | 0, a, h, _ => by omega
  | e + 1, a, _, h => by
    show (r34 (recS r34 e)).fn n (a, b, ()) = _
    rw [r34_fn]
    have := L34_eq n ((recS r34 e).fn n) a b e (fun p hp hap _ => s34_eq n hn b e p (by omega) (by omega)) 8 0 n rfl (by omega) (by omega)
    have h0 : ((0 : Nat) : Int) = 0 := rfl
    rw [h0] at this
    rw [this]
    rw [RV_succ, List.range_eq_range']
    cases h : (a == b) <;> rfl
theorem NX_out {a : Int} (h : a < 0 ∨ 6 < a) (p : Int) : NX a p = false := by
  unfold NX
  have h1 : (if decide (a ≥ 0) = true then decide (a ≤ 4) else false) = false := by
    by_cases h2 : a ≥ 0 <;> simp [h2]
    omega
  have h2 : (if decide (a ≥ 0) = true then decide (a ≤ 3) else false) = false := by
    by_cases h2 : a ≥ 0 <;> simp [h2]
    omega
  have h3 : (a == 6) = false := by simp; omega
  rw [h1, h2, h3]
  rfl
theorem WW_out {b : Int} (hb : b < 0 ∨ 7 < b) : ∀ (d : Nat) (a : Int), a ≠ b → WW d a b = false
  | 0, a, h => by simp [WW, h]
  | d + 1, a, h => by
    simp only [WW, Bool.or_eq_false_iff, beq_eq_false_iff_ne, List.any_eq_false]
    refine ⟨h, fun p hp => ?_⟩
    rw [WW_out hb d p (by have := List.mem_range.1 hp; omega)]
    simp
theorem RV_out {b : Int} (hb : b < 0 ∨ 7 < b) : ∀ (d : Nat) (a : Int), a ≠ b → RV d a b = false
  | 0, a, h => by simp [RV, h]
  | d + 1, a, h => by
    simp only [RV, Bool.or_eq_false_iff, beq_eq_false_iff_ne, List.any_eq_false]
    refine ⟨h, fun p hp => ?_⟩
    rw [RV_out hb d p (by have := List.mem_range.1 hp; omega)]
    simp
theorem small_eq : ∀ a ∈ List.range 7, ∀ b ∈ List.range 8, WW 8 (a : Int) (b : Int) = RV 10 (a : Int) (b : Int) := by decide +kernel
theorem ways (a b : Int) : WW 8 a b = RV 10 a b := by
  by_cases hab : a = b
  · subst hab
    simp [WW, RV]
  · by_cases ha : a < 0 ∨ 6 < a
    · simp [WW, RV, NX_out ha]
    · by_cases hb : b < 0 ∨ 7 < b
      · rw [WW_out hb _ _ hab, RV_out hb _ _ hab]
      · obtain ⟨m, rfl⟩ : ∃ m : Nat, a = m := ⟨a.toNat, by omega⟩
        obtain ⟨k, rfl⟩ : ∃ k : Nat, b = k := ⟨b.toNat, by omega⟩
        exact small_eq m (List.mem_range.2 (by omega)) k (List.mem_range.2 (by omega))
theorem s33_eq (a b : Int) : s33.fn 10 (a, b, ()) = some (WW 8 a b, ()) := by
  show ((recS r43 10).fn 10 (a, b, ((8 : Nat) : Int), ())).bind (fun r => some (r.1, ())) = _
  rw [s43_eq 10 (by omega) b 8 10 a (by omega) (by omega)]
  rfl
theorem s5_true (a b : Int) : s5.fn 10 (a, b, ()) = some (true, ()) := by
  show (((if (true && (a != b) == true) = true then s33.fn 10 (a, b, ()) else some (false, ())).bind fun r => some (if (a != b) = true then r.1 else false, ()) : O1).bind fun r =>
    ((if (true && (a != b) == true) = true then (recS r34 10).fn 10 (a, b, ()) else some (false, ())).bind fun r => some (if (a != b) = true then r.1 else false, ()) : O1).bind fun r_1 => if (!r_1.1 == r.1) = true then some (false, ()) else some (true, ())) = _
  rw [s33_eq, s34_eq 10 (by omega) b 10 a (by omega) (by omega), ways]
  cases (a != b) <;> cases RV 10 a b <;> rfl
end Go.Sym

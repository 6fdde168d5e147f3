import Derived.Test.YtgaeiofkkklglaaGreatDoorC10FnExactSettled
import Derived.Test.YtgaeiofkkklglaaGreatDoorU2FnExactSettled
namespace Go.Sym
open Go
set_option maxRecDepth 100000
set_option linter.unusedVariables false
set_option linter.unusedSimpArgs false
/-! ### messages, acts -/
theorem msg_eq : @f135 = @f129 := rfl
theorem word_some (n : Nat) (x : Int) : f172 n x = some (decide (0 ≤ x ∧ x ≤ 65535), ()) := by
  unfold f172
  rw [within_some, obind_some]
theorem msg_some (n : Nat) (x0 x1 x2 x3 : Int) (x4 x5 : List UInt8) (x6 x7 : Int) : ∃ q, f129 n x0 x1 x2 x3 x4 x5 x6 x7 = some (q, ()) := by
  unfold f129
  simp only [within_some, word_some, obind_some, obind_ite]
  exact ⟨_, rfl⟩
theorem act_some (n : Nat) (x0 x1 x2 : Int) (x3 x4 : List UInt8) (x5 : Int) : f130 n x0 x1 x2 x3 x4 x5 = some (decide (1 ≤ x0 ∧ x0 ≤ 3) && decide (0 ≤ x1 ∧ x1 ≤ 9) && decide (0 ≤ x2 ∧ x2 ≤ 65535) && decide (x3.length ≤ 60) && decide (x4.length ≤ 60) && decide (0 ≤ x5 ∧ x5 ≤ 6), ()) := by
  unfold f130
  simp only [within_some, word_some, obind_some, obind_ite]
  generalize decide (1 ≤ x0 ∧ x0 ≤ 3) = a
  generalize decide (0 ≤ x1 ∧ x1 ≤ 9) = b
  generalize decide (0 ≤ x2 ∧ x2 ≤ 65535) = c
  generalize decide (0 ≤ x5 ∧ x5 ≤ 6) = d
  have h3 : decide ((x3.length : Int) ≤ 60) = decide (x3.length ≤ 60) := by simp; omega
  have h4 : decide ((x4.length : Int) ≤ 60) = decide (x4.length ≤ 60) := by simp; omega
  rw [h3, h4]
  generalize decide (x3.length ≤ 60) = e
  generalize decide (x4.length ≤ 60) = g
  cases a <;> cases b <;> cases c <;> cases e <;> cases g <;> cases d <;> rfl
def actB (a : Int × Int × Int × List UInt8 × List UInt8 × Int) : Bool := decide (1 ≤ a.1 ∧ a.1 ≤ 3) && decide (0 ≤ a.2.1 ∧ a.2.1 ≤ 9) && decide (0 ≤ a.2.2.1 ∧ a.2.2.1 ≤ 65535) && decide (a.2.2.2.1.length ≤ 60) && decide (a.2.2.2.2.1.length ≤ 60) && decide (0 ≤ a.2.2.2.2.2 ∧ a.2.2.2.2.2 ≤ 6)
theorem acts_spec (n : Nat) (hn : 1048577 ≤ n) (l : List (Int × Int × Int × List UInt8 × List UInt8 × Int)) (hl : l.length ≤ 1048576) (k : Int) :
    f79 n l k = if (List.range l.length).all (fun i => actB (rd l (i : Int))) = true then some (decide ((l.length : Int) ≤ k), ()) else some (false, ()) := by
  have hA := loop_all0 (L := fun m i => f79L0 n m (l, k, i, ())) (N := l.length) (P := fun i => actB (rd l (i : Int))) (n := n) (K := some (decide ((l.length : Int) ≤ k), ())) (by omega)
    (fun m i hi => by
      show f79L0 n (m + 1) _ = _
      rw [f79L0, if_pos (by simp; omega), if_pos (inR_lt hi), act_some, obind_some, W_same (x := (i : Int) + 1) (by omega) (by omega)]
      show (if (!actB (rd l (i : Int))) = true then _ else _) = _
      cases actB (rd l (i : Int)) <;> rfl)
    (fun m => by
      show f79L0 n (m + 1) _ = _
      rw [f79L0, if_neg (by simp)])
  exact hA
theorem acts_impl (n : Nat) (hn : 1048577 ≤ n) (l : List (Int × Int × Int × List UInt8 × List UInt8 × Int)) (hl : l.length ≤ 1048576) :
    f91 n l = if (List.range l.length).all (fun i => actB (rd l (i : Int))) = true then some (true, ()) else some (false, ()) := by
  have hA := loop_all0 (L := fun m i => f91L0 n m (l, (l.length : Int), i, ())) (N := l.length) (P := fun i => actB (rd l (i : Int))) (n := n) (K := some (true, ())) (by omega)
    (fun m i hi => by
      show f91L0 n (m + 1) _ = _
      rw [f91L0, if_pos (by simp; omega), if_pos (inR_lt hi), W_same (x := (i : Int) + 1) (by omega) (by omega)]
      simp only [within_eq, word_eq, within_some, word_some, obind_some, obind_ite]
      generalize rd l (i : Int) = a
      obtain ⟨x0, x1, x2, x3, x4, x5⟩ := a
      unfold actB
      dsimp only
      have h3 : decide ((x3.length : Int) > 60) = !decide (x3.length ≤ 60) := by by_cases h : x3.length ≤ 60 <;> simp [h] <;> omega
      have h4 : decide ((x4.length : Int) > 60) = !decide (x4.length ≤ 60) := by by_cases h : x4.length ≤ 60 <;> simp [h] <;> omega
      rw [h3, h4]
      generalize decide (1 ≤ x0 ∧ x0 ≤ 3) = a
      generalize decide (0 ≤ x1 ∧ x1 ≤ 9) = b
      generalize decide (0 ≤ x2 ∧ x2 ≤ 65535) = c
      generalize decide (0 ≤ x5 ∧ x5 ≤ 6) = d
      generalize decide (x3.length ≤ 60) = e
      generalize decide (x4.length ≤ 60) = g
      cases a <;> cases b <;> cases c <;> cases e <;> cases g <;> cases d <;> rfl)
    (fun m => by
      show f91L0 n (m + 1) _ = _
      rw [f91L0, if_neg (by simp)])
  exact hA
abbrev MsgT : Type := Int × Int × Int × Int × List UInt8 × List UInt8 × Int × Int
def msgB (n : Nat) (a : MsgT) : Bool := ((f129 n a.1 a.2.1 a.2.2.1 a.2.2.2.1 a.2.2.2.2.1 a.2.2.2.2.2.1 a.2.2.2.2.2.2.1 a.2.2.2.2.2.2.2).getD (false, ())).1
theorem msgB_spec (n : Nat) (a : MsgT) : f129 n a.1 a.2.1 a.2.2.1 a.2.2.2.1 a.2.2.2.2.1 a.2.2.2.2.2.1 a.2.2.2.2.2.2.1 a.2.2.2.2.2.2.2 = some (msgB n a, ()) := by
  obtain ⟨q, h⟩ := msg_some n a.1 a.2.1 a.2.2.1 a.2.2.2.1 a.2.2.2.2.1 a.2.2.2.2.2.1 a.2.2.2.2.2.2.1 a.2.2.2.2.2.2.2
  rw [msgB, h]
  rfl
theorem net_spec (n : Nat) (hn : 1048577 ≤ n) (l : List MsgT) (hl : l.length ≤ 1048576) :
    f78 n l = if (List.range l.length).all (fun i => msgB n (rd l (i : Int))) = true then some (decide ((l.length : Int) ≤ 20), ()) else some (false, ()) := by
  have hA := loop_all0 (L := fun m i => f78L0 n m (l, i, ())) (N := l.length) (P := fun i => msgB n (rd l (i : Int))) (n := n) (K := some (decide ((l.length : Int) ≤ 20), ())) (by omega)
    (fun m i hi => by
      show f78L0 n (m + 1) _ = _
      rw [f78L0, if_pos (by simp; omega), if_pos (inR_lt hi), msgB_spec, obind_some, W_same (x := (i : Int) + 1) (by omega) (by omega)]
      cases msgB n (rd l (i : Int)) <;> rfl)
    (fun m => by
      show f78L0 n (m + 1) _ = _
      rw [f78L0, if_neg (by simp)])
  exact hA
theorem net_impl (n : Nat) (hn : 1048577 ≤ n) (l : List MsgT) (hl : l.length ≤ 1048576) : f88 n l = f78 n l := by
  have hA := loop_all0 (L := fun m i => f88L0 n m (l, l, (l.length : Int), i, ())) (N := l.length) (P := fun i => msgB n (rd l (i : Int))) (n := n) (K := some (decide ((l.length : Int) ≤ 20), ())) (by omega)
    (fun m i hi => by
      show f88L0 n (m + 1) _ = _
      rw [f88L0, if_pos (by simp; omega), if_pos (inR_lt hi), msg_eq, msgB_spec, obind_some, W_same (x := (i : Int) + 1) (by omega) (by omega)]
      cases msgB n (rd l (i : Int)) <;> rfl)
    (fun m => by
      show f88L0 n (m + 1) _ = _
      rw [f88L0, if_neg (by simp)])
  rw [net_spec n hn l hl]
  exact hA
theorem lead_eq (n : Nat) (hn : 1048577 ≤ n) (x0 : Int) (x1 x2 : List Bool) (x3 : List (List UInt8)) (hl : x3.length ≤ 1048576) :
    ∃ q, f77 n x0 x1 x2 x3 = some (q, ()) ∧ f87 n x0 x1 x2 x3 = some (q, ()) := by
  have hA := loop_all0 (L := fun m i => f87L0 n m (x3, (x3.length : Int), i, x0, x1, x2, x3, ())) (N := x3.length) (P := fun i => decide ((rd x3 (i : Int)).length ≤ 60)) (n := n) (K := some (decide (0 ≤ x0 ∧ x0 ≤ 7) && ((x1.length : Int) == 2) && ((x2.length : Int) == 2) && ((x3.length : Int) == 2), ())) (by omega)
    (fun m i hi => by
      show f87L0 n (m + 1) _ = _
      rw [f87L0, if_pos (by simp; omega), if_pos (inR_lt hi), W_same (x := (i : Int) + 1) (by omega) (by omega)]
      by_cases h : (rd x3 (i : Int)).length ≤ 60
      · rw [if_neg (by simp; omega), if_pos (by simpa using h)]
        rfl
      · rw [if_pos (by simp; omega), if_neg (by simpa using h)])
    (fun m => by
      show f87L0 n (m + 1) _ = _
      rw [f87L0, if_neg (by simp), within_eq, within_some, obind_some]
      cases decide (0 ≤ x0 ∧ x0 ≤ 7) <;> cases ((x1.length : Int) == 2) <;> cases ((x2.length : Int) == 2) <;> rfl)
  have hB : f87 n x0 x1 x2 x3 = _ := hA
  rw [hB]
  unfold f77
  rw [within_some, obind_some]
  by_cases h : x3.length = 2
  · obtain ⟨a, b, rfl⟩ : ∃ a b, x3 = [a, b] := by
      match x3, h with
      | [a, b], _ => exact ⟨a, b, rfl⟩
    generalize decide (0 ≤ x0 ∧ x0 ≤ 7) = w
    generalize ((x1.length : Int) == 2) = p
    generalize ((x2.length : Int) == 2) = q
    have e0 : rd [a, b] ((0 : Nat) : Int) = a := rfl
    have e1 : rd [a, b] ((1 : Nat) : Int) = b := rfl
    have r0 : rd [a, b] 0 = a := rfl
    have r1 : rd [a, b] 1 = b := rfl
    by_cases ha : a.length ≤ 60 <;> by_cases hb : b.length ≤ 60 <;> cases w <;> cases p <;> cases q <;> simp [List.range_succ, e0, e1, r0, r1, ha, hb, inR] <;> omega
  · have h2 : ((x3.length : Int) == 2) = false := by simp; omega
    rw [h2]
    refine ⟨false, ?_, by split <;> simp⟩
    simp
def parB (b : UInt8) : Bool := (((UInt8.ofNat (((b.toNat : Nat) : Int).tmod (((UInt8.ofNat (Int.toNat 2)).toNat : Nat) : Int)).toNat).toNat : Nat) : Int) == (((UInt8.ofNat (Int.toNat 1)).toNat : Nat) : Int)
theorem par_all : ∀ k : Fin 256, W (3 + (W (((UInt8.ofNat k.val).toNat : Nat) : Int)).tmod 2) = if parB (UInt8.ofNat k.val) = true then 4 else 3 := by decide +kernel
theorem par_one (b : UInt8) : W (3 + (W ((b.toNat : Nat) : Int)).tmod 2) = if parB b = true then 4 else 3 := by
  have := par_all ⟨b.toNat, b.toNat_lt⟩
  simpa using this
theorem nodeof_eq (n : Nat) (l : List UInt8) : ∃ q, f101 n l = some (q, ()) ∧ f55 n l = some (q, ()) := by
  unfold f101 f55
  cases l with
  | nil => exact ⟨3, by simp, by simp⟩
  | cons b t =>
    have h0 : inR (b :: t).length 0 = true := by simp [inR] <;> omega
    have hg : (b :: t).getD (Int.toNat 0) 0 = b := rfl
    have hz : (((b :: t).length : Int) == 0) = false := by simp <;> omega
    have hn : (!(b :: t) == (#[] : Array UInt8).toList) = true := by simp
    rw [hz, if_neg (by simp), if_pos h0, hg, par_one, hn, h0]
    refine ⟨_, rfl, ?_⟩
    show (if (!(true && true == true) || true) = true then (if (if true = true then parB b else false) = true then some (4, ()) else some (3, ())) else none) = _
    cases parB b <;> rfl
theorem kind_eq : @f137 = @f132 := rfl
def kindB (k : Int) : Bool := if (if (k == 1) = true then true else k == 3) = true then true else k == 4
theorem kind_some (n : Nat) (k : Int) : f132 n k = some (kindB k, ()) := rfl
theorem l20msg_eq (n : Nat) (x0 x1 : Int) (x2 : Bool) (x3 x4 x5 x6 : Int) (x7 x8 : List UInt8) (x9 x10 : Int) (x11 : List (Int × Int × List UInt8 × List UInt8 × Int)) :
    ∃ q, f133 n x0 x1 x2 x3 x4 x5 x6 x7 x8 x9 x10 x11 = some (q, ()) ∧ (if (!x2) = true then (some (x3 == 0 && (x4 == 0 && (x5 == 0 && (x6 == 0 && (x7 == #[].toList && (x8 == #[].toList && (x9 == 0 && (x10 == 0 && true))))))), ())) else (obind (f135 n x3 x4 x5 x6 x7 x8 x9 x10) fun r5 => obind (if (true && r5.fst == true) = true then (f137 n x3) else (some (Ty.bool.dflt, ()))) fun r6 => obind (if (true && (if (if r5.fst = true then r6.fst else false) = true then x4 == x0 else false) == true) = true then (f55 n x7) else (some ((Ty.int IntKind.i64).dflt, ()))) fun r7 => some (if (if (if (if (if r5.fst = true then r6.fst else false) = true then x4 == x0 else false) = true then x5 == r7.fst else false) = true then x6 == x1 else false) = true then decide (x1 ≥ 1) else false, ()))) = some (q, ()) := by
  unfold f133
  rw [msg_eq, kind_eq]
  obtain ⟨q1, h1⟩ := msg_some n x3 x4 x5 x6 x7 x8 x9 x10
  obtain ⟨q2, h2, h3⟩ := nodeof_eq n x7
  cases x2 with
  | false => exact ⟨_, rfl, rfl⟩
  | true =>
    rw [if_neg (by simp), if_neg (by simp)]
    simp only [h1, h2, h3, kind_some, obind_some, obind_ite]
    exact ⟨_, rfl, rfl⟩
abbrev DoneT : Type := Int × Int × List UInt8 × List UInt8 × Int
def doneB (s : Int) (d : DoneT) : Bool := kindB d.2.1 && decide (1 ≤ d.1 ∧ d.1 ≤ s) && decide (0 ≤ d.2.2.2.2 ∧ d.2.2.2.2 ≤ 6) && decide (d.2.2.1.length ≤ 60) && decide (d.2.2.2.1.length ≤ 60)
theorem gt60 (l : List UInt8) : decide ((l.length : Int) > 60) = !decide (l.length ≤ 60) := by by_cases h : l.length ≤ 60 <;> simp [h] <;> omega
theorem client_eq (n : Nat) (hn : 1048577 ≤ n) (x0 x1 : Int) (x2 : Bool) (x3 x4 x5 x6 : Int) (x7 x8 : List UInt8) (x9 x10 : Int) (x11 : List DoneT) (hl : x11.length ≤ 1048576) :
    ∃ q, f81 n x0 x1 x2 x3 x4 x5 x6 x7 x8 x9 x10 x11 = some (q, ()) ∧ f90 n x0 x1 x2 x3 x4 x5 x6 x7 x8 x9 x10 x11 = some (q, ()) := by
  obtain ⟨q, hq1, hq2⟩ := l20msg_eq n x0 x1 x2 x3 x4 x5 x6 x7 x8 x9 x10 x11
  have hA := loop_all0 (L := fun m i => f81L0 n m (i, x0, x1, x2, x3, x4, x5, x6, x7, x8, x9, x10, x11, ())) (N := x11.length) (P := fun i => doneB x1 (rd x11 (i : Int))) (n := n) (K := some (decide (1 ≤ x0 ∧ x0 ≤ 2) && decide (0 ≤ x1 ∧ x1 ≤ 60000) && q && decide ((x11.length : Int) ≤ 60), ())) (by omega)
    (fun m i hi => by
      show f81L0 n (m + 1) _ = _
      rw [f81L0, if_pos (by simp; omega), if_pos (inR_lt hi), W_same (x := (i : Int) + 1) (by omega) (by omega)]
      simp only [kind_some, within_some, obind_some, obind_ite, gt60]
      generalize rd x11 (i : Int) = a
      obtain ⟨d0, d1, d2, d3, d4⟩ := a
      unfold doneB
      dsimp only
      generalize kindB d1 = a
      generalize decide (1 ≤ d0 ∧ d0 ≤ x1) = b
      generalize decide (0 ≤ d4 ∧ d4 ≤ 6) = c
      generalize decide (d2.length ≤ 60) = d
      generalize decide (d3.length ≤ 60) = e
      cases a <;> cases b <;> cases c <;> cases d <;> cases e <;> rfl)
    (fun m => by
      show f81L0 n (m + 1) _ = _
      rw [f81L0, if_neg (by simp)]
      simp only [within_some, obind_some, obind_ite, hq1]
      generalize decide (1 ≤ x0 ∧ x0 ≤ 2) = a
      generalize decide (0 ≤ x1 ∧ x1 ≤ 60000) = b
      cases a <;> cases b <;> cases q <;> rfl)
  have hA1 : f81 n x0 x1 x2 x3 x4 x5 x6 x7 x8 x9 x10 x11 = _ := hA
  have hB := loop_all0 (L := fun m i => f90L0 n m (x11, (x11.length : Int), i, x0, x1, x2, x3, x4, x5, x6, x7, x8, x9, x10, x11, ())) (N := x11.length) (P := fun i => doneB x1 (rd x11 (i : Int))) (n := n) (K := some (q, ())) (by omega)
    (fun m i hi => by
      show f90L0 n (m + 1) _ = _
      rw [f90L0, if_pos (by simp; omega), if_pos (inR_lt hi), W_same (x := (i : Int) + 1) (by omega) (by omega)]
      simp only [kind_eq, within_eq, kind_some, within_some, obind_some, obind_ite, gt60]
      generalize rd x11 (i : Int) = a
      obtain ⟨d0, d1, d2, d3, d4⟩ := a
      unfold doneB
      dsimp only
      generalize kindB d1 = a
      generalize decide (1 ≤ d0 ∧ d0 ≤ x1) = b
      generalize decide (0 ≤ d4 ∧ d4 ≤ 6) = c
      generalize decide (d2.length ≤ 60) = d
      generalize decide (d3.length ≤ 60) = e
      cases a <;> cases b <;> cases c <;> cases d <;> cases e <;> rfl)
    (fun m => by
      show f90L0 n (m + 1) _ = _
      rw [f90L0, if_neg (by simp)]
      exact hq2)
  unfold f90
  simp only [within_eq, within_some, obind_some, obind_ite]
  rw [hA1]
  have hB1 : f90L0 n n (x11, (x11.length : Int), 0, x0, x1, x2, x3, x4, x5, x6, x7, x8, x9, x10, x11, ()) = _ := hB
  rw [hB1]
  generalize (List.range x11.length).all (fun i => doneB x1 (rd x11 (i : Int))) = A
  have h60 : decide ((x11.length : Int) > 60) = !decide ((x11.length : Int) ≤ 60) := by by_cases h : (x11.length : Int) ≤ 60 <;> simp [h] <;> omega
  rw [h60]
  generalize decide (1 ≤ x0 ∧ x0 ≤ 2) = a
  generalize decide (0 ≤ x1 ∧ x1 ≤ 60000) = b
  generalize decide ((x11.length : Int) ≤ 60) = c
  cases A <;> cases a <;> cases b <;> cases c <;> cases q <;> exact ⟨_, rfl, rfl⟩
/-! ### worlds -/
theorem acts_spec' (n : Nat) (hn : 1048577 ≤ n) (l : List (Int × Int × Int × List UInt8 × List UInt8 × Int)) (hl : l.length ≤ 1048576) (k : Int) :
    f79 n l k = some ((List.range l.length).all (fun i => actB (rd l (i : Int))) && decide ((l.length : Int) ≤ k), ()) := by
  rw [acts_spec n hn l hl k]
  cases (List.range l.length).all (fun i => actB (rd l (i : Int))) <;> simp
theorem acts_impl' (n : Nat) (hn : 1048577 ≤ n) (l : List (Int × Int × Int × List UInt8 × List UInt8 × Int)) (hl : l.length ≤ 1048576) :
    f91 n l = some ((List.range l.length).all (fun i => actB (rd l (i : Int))), ()) := by
  rw [acts_impl n hn l hl]
  cases (List.range l.length).all (fun i => actB (rd l (i : Int))) <;> simp
theorem net_spec' (n : Nat) (hn : 1048577 ≤ n) (l : List MsgT) (hl : l.length ≤ 1048576) :
    f78 n l = some ((List.range l.length).all (fun i => msgB n (rd l (i : Int))) && decide ((l.length : Int) ≤ 20), ()) := by
  rw [net_spec n hn l hl]
  cases (List.range l.length).all (fun i => msgB n (rd l (i : Int))) <;> simp
def nodeFit (d : D32) : Prop := d.1.1.1.length ≤ 1048576 ∧ d.1.1.2.1.length ≤ 1048576 ∧ d.1.2.1.1.length ≤ 1048576 ∧ d.1.2.1.2.2.length ≤ 1048576 ∧ ∀ r ∈ d.1.2.1.1, r.1.length ≤ 1048576
def nodeB (n : Nat) (d : D32) : Bool := ((f80 n d.1.1.1 d.1.1.2.1 d.1.1.2.2.1 d.1.1.2.2.2 d.1.2.1.1 d.1.2.1.2.1 d.1.2.1.2.2 d.1.2.2.1 d.1.2.2.2 d.2).getD (false, ())).1
theorem nodeB_eq (n : Nat) (hn : 1048577 ≤ n) (d : D32) (h : nodeFit d) : f80 n d.1.1.1 d.1.1.2.1 d.1.1.2.2.1 d.1.1.2.2.2 d.1.2.1.1 d.1.2.1.2.1 d.1.2.1.2.2 d.1.2.2.1 d.1.2.2.2 d.2 = some (nodeB n d, ()) ∧
    f89 n d.1.1.1 d.1.1.2.1 d.1.1.2.2.1 d.1.1.2.2.2 d.1.2.1.1 d.1.2.1.2.1 d.1.2.1.2.2 d.1.2.2.1 d.1.2.2.2 d.2 = some (nodeB n d, ()) := by
  obtain ⟨h1, h2, h3, h4, h5⟩ := h
  obtain ⟨q, e1, e2, _⟩ := node_ok n hn d.1.1.1 d.1.1.2.1 d.1.1.2.2.1 d.1.1.2.2.2 d.1.2.1.1 d.1.2.1.2.1 d.1.2.1.2.2 d.1.2.2.1 d.1.2.2.2 d.2 h1 h2 h3 h4 h5
  unfold nodeB
  rw [e1, e2]
  exact ⟨rfl, rfl⟩
def clientB (n : Nat) (c : D128) : Bool := ((f81 n c.1 c.2.1 c.2.2.1 c.2.2.2.1.1 c.2.2.2.1.2.1 c.2.2.2.1.2.2.1 c.2.2.2.1.2.2.2.1 c.2.2.2.1.2.2.2.2.1 c.2.2.2.1.2.2.2.2.2.1 c.2.2.2.1.2.2.2.2.2.2.1 c.2.2.2.1.2.2.2.2.2.2.2 c.2.2.2.2).getD (false, ())).1
theorem clientB_eq (n : Nat) (hn : 1048577 ≤ n) (c : D128) (h : c.2.2.2.2.length ≤ 1048576) : f81 n c.1 c.2.1 c.2.2.1 c.2.2.2.1.1 c.2.2.2.1.2.1 c.2.2.2.1.2.2.1 c.2.2.2.1.2.2.2.1 c.2.2.2.1.2.2.2.2.1 c.2.2.2.1.2.2.2.2.2.1 c.2.2.2.1.2.2.2.2.2.2.1 c.2.2.2.1.2.2.2.2.2.2.2 c.2.2.2.2 = some (clientB n c, ()) ∧
    f90 n c.1 c.2.1 c.2.2.1 c.2.2.2.1.1 c.2.2.2.1.2.1 c.2.2.2.1.2.2.1 c.2.2.2.1.2.2.2.1 c.2.2.2.1.2.2.2.2.1 c.2.2.2.1.2.2.2.2.2.1 c.2.2.2.1.2.2.2.2.2.2.1 c.2.2.2.1.2.2.2.2.2.2.2 c.2.2.2.2 = some (clientB n c, ()) := by
  obtain ⟨q, e1, e2⟩ := client_eq n hn c.1 c.2.1 c.2.2.1 c.2.2.2.1.1 c.2.2.2.1.2.1 c.2.2.2.1.2.2.1 c.2.2.2.1.2.2.2.1 c.2.2.2.1.2.2.2.2.1 c.2.2.2.1.2.2.2.2.2.1 c.2.2.2.1.2.2.2.2.2.2.1 c.2.2.2.1.2.2.2.2.2.2.2 c.2.2.2.2 h
  unfold clientB
  rw [e1, e2]
  exact ⟨rfl, rfl⟩
def actsB (l : List D132) : Bool := (List.range l.length).all (fun i => actB (rd l (i : Int)))
def placeB (n : Nat) (x4 : List D32) (x5 : List D128) (x8 : List (List D132)) (i : Nat) : Bool :=
  nodeB n (rd x4 (i : Int)) && clientB n (rd x5 (i : Int)) && ((rd x5 (i : Int)).1 == (i : Int) + 1) && (actsB (rd x8 (i : Int)) && decide (((rd x8 (i : Int)).length : Int) ≤ 1))
theorem world_eq (n : Nat) (hn : 1048577 ≤ n) (x0 : Int) (x1 x2 : List Bool) (x3 : List (List UInt8)) (x4 : List D32) (x5 : List D128) (x6 : List D125) (x7 : List D132) (x8 : List (List D132))
    (h3 : x3.length ≤ 1048576) (h4 : ∀ d ∈ x4, nodeFit d) (h5 : ∀ c ∈ x5, c.2.2.2.2.length ≤ 1048576) (h6 : x6.length ≤ 1048576) (h7 : x7.length ≤ 1048576) (h8 : ∀ l ∈ x8, l.length ≤ 1048576) :
    ∃ q, f33 n x0 x1 x2 x3 x4 x5 x6 x7 x8 = some (q, ()) ∧ f41 n x0 x1 x2 x3 x4 x5 x6 x7 x8 = some (q, ()) ∧ (q = true → x4.length = 2) := by
  obtain ⟨q0, l1, l2⟩ := lead_eq n hn x0 x1 x2 x3 h3
  unfold f33 f41
  rw [l1, l2, net_impl n hn x6 h6, net_spec' n hn x6 h6, acts_spec' n hn x7 h7 200]
  simp only [obind_some, obind_ite]
  by_cases hl : x4.length = 2 ∧ x5.length = 2 ∧ x8.length = 2
  · obtain ⟨hl4, hl5, hl8⟩ := hl
    have hA := loop_all0 (L := fun m i => f33L0 n m (i, x0, x1, x2, x3, x4, x5, x6, x7, x8, ())) (N := 2) (P := placeB n x4 x5 x8) (n := n) (K := some ((rd x4 0).snd == (rd x4 1).snd, ())) (by omega)
      (fun m i hi => by
        show f33L0 n (m + 1) _ = _
        have i4 : inR x4.length (i : Int) = true := inR_lt (by omega)
        have i5 : inR x5.length (i : Int) = true := inR_lt (by omega)
        have i8 : inR x8.length (i : Int) = true := inR_lt (by omega)
        obtain ⟨e1, _⟩ := nodeB_eq n hn (rd x4 (i : Int)) (h4 _ (by rw [rd_get (by omega)]; exact List.getElem_mem _))
        obtain ⟨e2, _⟩ := clientB_eq n hn (rd x5 (i : Int)) (h5 _ (by rw [rd_get (by omega)]; exact List.getElem_mem _))
        have e3 := acts_spec' n hn (rd x8 (i : Int)) (h8 _ (by rw [rd_get (by omega)]; exact List.getElem_mem _)) 1
        rw [f33L0, if_pos (by simp; omega), if_pos i4, e1, e2, e3, W_same (x := (i : Int) + 1) (by omega) (by omega)]
        simp only [obind_some, obind_ite, i5, i8, Bool.or_true, if_true]
        unfold placeB actsB
        have hb : ((rd x5 (i : Int)).1 != (i : Int) + 1) = !((rd x5 (i : Int)).1 == (i : Int) + 1) := rfl
        rw [hb]
        generalize nodeB n (rd x4 (i : Int)) = a
        generalize clientB n (rd x5 (i : Int)) = b
        generalize ((rd x5 (i : Int)).1 == (i : Int) + 1) = c
        generalize ((List.range (rd x8 (i : Int)).length).all fun j => actB (rd (rd x8 (i : Int)) (j : Int))) = d
        generalize decide (((rd x8 (i : Int)).length : Int) ≤ 1) = e
        cases a <;> cases b <;> cases c <;> cases d <;> cases e <;> rfl)
      (fun m => by
        show f33L0 n (m + 1) _ = _
        rw [f33L0, if_neg (by simp), if_pos (by rw [hl4]; rfl), if_pos (by rw [hl4]; rfl)])
    have hB := loop_all0 (L := fun m i => f41L0 n m (i, x0, x1, x2, x3, x4, x5, x6, x7, x8, ())) (N := 2) (P := placeB n x4 x5 x8) (n := n) (K := some (((rd x4 0).snd == (rd x4 1).snd) && actsB x7, ())) (by omega)
      (fun m i hi => by
        show f41L0 n (m + 1) _ = _
        have i4 : inR x4.length (i : Int) = true := inR_lt (by omega)
        have i5 : inR x5.length (i : Int) = true := inR_lt (by omega)
        have i8 : inR x8.length (i : Int) = true := inR_lt (by omega)
        obtain ⟨_, e1⟩ := nodeB_eq n hn (rd x4 (i : Int)) (h4 _ (by rw [rd_get (by omega)]; exact List.getElem_mem _))
        obtain ⟨_, e2⟩ := clientB_eq n hn (rd x5 (i : Int)) (h5 _ (by rw [rd_get (by omega)]; exact List.getElem_mem _))
        have e3 := acts_impl' n hn (rd x8 (i : Int)) (h8 _ (by rw [rd_get (by omega)]; exact List.getElem_mem _))
        rw [f41L0, if_pos (by simp; omega), if_pos i4, e1, e2, e3, W_same (x := (i : Int) + 1) (by omega) (by omega)]
        simp only [obind_some, obind_ite, i5, i8, Bool.or_true, if_true]
        unfold placeB actsB
        have hb : ((rd x5 (i : Int)).1 != (i : Int) + 1) = !((rd x5 (i : Int)).1 == (i : Int) + 1) := rfl
        have hg : decide (((rd x8 (i : Int)).length : Int) > 1) = !decide (((rd x8 (i : Int)).length : Int) ≤ 1) := by
          by_cases h : ((rd x8 (i : Int)).length : Int) ≤ 1
          · rw [decide_eq_true h, decide_eq_false (by omega)]; rfl
          · rw [decide_eq_false h, decide_eq_true (by omega)]; rfl
        rw [hb, hg]
        generalize nodeB n (rd x4 (i : Int)) = a
        generalize clientB n (rd x5 (i : Int)) = b
        generalize ((rd x5 (i : Int)).1 == (i : Int) + 1) = c
        generalize ((List.range (rd x8 (i : Int)).length).all fun j => actB (rd (rd x8 (i : Int)) (j : Int))) = d
        generalize decide (((rd x8 (i : Int)).length : Int) ≤ 1) = e
        cases a <;> cases b <;> cases c <;> cases d <;> cases e <;> rfl)
      (fun m => by
        show f41L0 n (m + 1) _ = _
        rw [f41L0, if_neg (by simp), if_pos (by rw [hl4]; rfl), if_pos (by rw [hl4]; rfl), acts_impl' n hn x7 h7]
        unfold actsB
        generalize ((rd x4 0).snd == (rd x4 1).snd) = a
        cases a <;> simp [obind_some])
    have hA1 : f33L0 n n (0, x0, x1, x2, x3, x4, x5, x6, x7, x8, ()) = _ := hA
    have hB1 : f41L0 n n (0, x0, x1, x2, x3, x4, x5, x6, x7, x8, ()) = _ := hB
    rw [hA1, hB1, hl4, hl5, hl8]
    have h200 : decide ((x7.length : Int) > 200) = !decide ((x7.length : Int) ≤ 200) := by
      by_cases h : (x7.length : Int) ≤ 200
      · rw [decide_eq_true h, decide_eq_false (by omega)]; rfl
      · rw [decide_eq_false h, decide_eq_true (by omega)]; rfl
    rw [h200]
    unfold actsB
    generalize (List.range 2).all (placeB n x4 x5 x8) = a
    generalize ((rd x4 0).snd == (rd x4 1).snd) = b
    generalize ((List.range x7.length).all fun i => actB (rd x7 (i : Int))) = c
    generalize ((List.range x6.length).all (fun i => msgB n (rd x6 (i : Int))) && decide ((x6.length : Int) ≤ 20)) = d
    generalize decide ((x7.length : Int) ≤ 200) = e
    cases q0 <;> cases a <;> cases b <;> cases c <;> cases d <;> cases e <;> exact ⟨_, rfl, rfl, fun _ => rfl⟩
  · have hb : (if (if ((x4.length : Int) != 2) = true then true else (x5.length : Int) != 2) = true then true else (x8.length : Int) != 2) = true := by
      have p : ∀ k : Nat, ((k : Int) != 2) = !decide (k = 2) := fun k => by
        by_cases h : k = 2
        · subst h
          rfl
        · rw [decide_eq_false h]
          simp
          omega
      rw [p, p, p]
      cases e4 : decide (x4.length = 2) with
      | false => rfl
      | true => cases e5 : decide (x5.length = 2) with
        | false => rfl
        | true => cases e8 : decide (x8.length = 2) with
          | false => rfl
          | true => exact absurd ⟨of_decide_eq_true e4, of_decide_eq_true e5, of_decide_eq_true e8⟩ hl
    have hb' : (if (if (if (!q0) = true then true else (x4.length : Int) != 2) = true then true else (x5.length : Int) != 2) = true then true else (x8.length : Int) != 2) = true := by
      cases q0
      · rfl
      · simpa using hb
    refine ⟨false, ?_, ?_, fun h => by cases h⟩
    · simp only [hb, if_true]
    · simp only [hb', if_true]
/-! ### settled -/
theorem final_eq : @f34 = @f42 := rfl
theorem final_some (n : Nat) (x : Int) : ∃ q, f42 n x = some (q, ()) := by
  unfold f42
  exact ⟨_, rfl⟩
theorem settled_eq (n : Nat) (hn : 1048577 ≤ n) (x0 : Int) (x1 x2 : List Bool) (x3 : List (List UInt8)) (x4 : List D32) (x5 : List D128) (x6 : List D125) (x7 : List D132) (x8 : List (List D132))
    (h3 : x3.length ≤ 1048576) (h4 : ∀ d ∈ x4, nodeFit d) (h5 : ∀ c ∈ x5, c.2.2.2.2.length ≤ 1048576) (h6 : x6.length ≤ 1048576) (h7 : x7.length ≤ 1048576) (h8 : ∀ l ∈ x8, l.length ≤ 1048576) :
    ∃ q, f12 n x0 x1 x2 x3 x4 x5 x6 x7 x8 = some (q, ()) ∧ f14 n x0 x1 x2 x3 x4 x5 x6 x7 x8 = some (q, ()) := by
  obtain ⟨w, w1, w2, w3⟩ := world_eq n hn x0 x1 x2 x3 x4 x5 x6 x7 x8 h3 h4 h5 h6 h7 h8
  obtain ⟨fi, hfin⟩ := final_some n x0
  unfold f12 f14
  rw [w1, w2, hfin]
  simp only [obind_some]
  cases w with
  | false => exact ⟨false, rfl, rfl⟩
  | true =>
    have hl4 := w3 rfl
    have hA := loop_all0 (L := fun m i => f12L0 n m (i, x0, x1, x2, x3, x4, x5, x6, x7, x8, ())) (N := 2) (P := fun i => !(rd x4 (i : Int)).1.1.2.2.2 && ((rd x4 (i : Int)).1.2.1.2.1 == x0)) (n := n) (K := some (fi, ())) (by omega)
      (fun m i hi => by
        show f12L0 n (m + 1) _ = _
        have i4 : inR x4.length (i : Int) = true := inR_lt (by omega)
        rw [f12L0, if_pos (by simp; omega), if_pos i4, if_pos (by rw [i4, Bool.or_true]), W_same (x := (i : Int) + 1) (by omega) (by omega)]
        have hb : ((rd x4 (i : Int)).1.2.1.2.1 != x0) = !((rd x4 (i : Int)).1.2.1.2.1 == x0) := rfl
        rw [hb]
        generalize (rd x4 (i : Int)).1.1.2.2.2 = a
        generalize ((rd x4 (i : Int)).1.2.1.2.1 == x0) = b
        cases a <;> cases b <;> rfl)
      (fun m => by
        show f12L0 n (m + 1) _ = _
        rw [f12L0, if_neg (by simp), final_eq, hfin, obind_some])
    have hB := loop_all0 (L := fun m i => f14L0 n m (x4, (x4.length : Int), i, x0, x1, x2, x3, x4, x5, x6, x7, x8, ())) (N := 2) (P := fun i => !(rd x4 (i : Int)).1.1.2.2.2 && ((rd x4 (i : Int)).1.2.1.2.1 == x0)) (n := n) (K := some (true, ())) (by omega)
      (fun m i hi => by
        show f14L0 n (m + 1) _ = _
        have i4 : inR x4.length (i : Int) = true := inR_lt (by omega)
        rw [f14L0, if_pos (by rw [hl4]; simp; omega), if_pos i4, W_same (x := (i : Int) + 1) (by omega) (by omega)]
        have hb : ((rd x4 (i : Int)).1.2.1.2.1 != x0) = !((rd x4 (i : Int)).1.2.1.2.1 == x0) := rfl
        rw [hb]
        generalize (rd x4 (i : Int)).1.1.2.2.2 = a
        generalize ((rd x4 (i : Int)).1.2.1.2.1 == x0) = b
        cases a <;> cases b <;> rfl)
      (fun m => by
        show f14L0 n (m + 1) _ = _
        rw [f14L0, if_neg (by rw [hl4]; simp)])
    have hA1 : f12L0 n n (0, x0, x1, x2, x3, x4, x5, x6, x7, x8, ()) = _ := hA
    have hB1 : f14L0 n n (x4, (x4.length : Int), 0, x0, x1, x2, x3, x4, x5, x6, x7, x8, ()) = _ := hB
    rw [hA1, hB1]
    generalize (List.range 2).all (fun i => !(rd x4 (i : Int)).1.1.2.2.2 && ((rd x4 (i : Int)).1.2.1.2.1 == x0)) = a
    have hf : fi = true → (x0 == 0) = false := fun h => by
      unfold f42 at hfin
      by_cases h0 : x0 = 0
      · subst h0
        simp [h] at hfin
      · simpa using h0
    cases hx : (x0 == 0) with
    | true => cases fi with
      | true => rw [hf rfl] at hx; cases hx
      | false => exact ⟨true, by simp, by simp⟩
    | false =>
      refine ⟨fi && a, ?_, ?_⟩
      · cases fi <;> cases a <;> simp
      · cases fi <;> cases a <;> simp
theorem plain4' (n : Nat) (hn : 1048577 ≤ n) (x0 : Int) (x1 x2 : List Bool) (x3 : List (List UInt8)) (x4 : List D32) (x5 : List D128) (x6 : List D125) (x7 : List D132) (x8 : List (List D132))
    (h1 : Ty.Fit (.sl .bool) x1) (h2 : Ty.Fit (.sl .bool) x2) (h3 : Ty.Fit (.sl .str) x3) (h4 : Ty.Fit (.sl ty32) x4) (h5 : Ty.Fit (.sl ty128) x5) (h6 : Ty.Fit (.sl ty125) x6) (h7 : Ty.Fit (.sl ty132) x7) (h8 : Ty.Fit (.sl (.sl ty132)) x8) :
    f4 n x0 x1 x2 x3 x4 x5 x6 x7 x8 = some (true, ()) := by
  unfold f4
  rw [Z11 n hn x0 x1 x2 x3 x4 x5 x6 x7 x8 1048576 (by omega) (by omega) h1 h2 h3 h4 h5 h6 h7 h8]
  refine law_start (fun hz => ?_)
  have l3 : x3.length ≤ 1048576 := szL_len (g := fun s : List UInt8 => s.length) (by omega)
  have l6 : x6.length ≤ 1048576 := szL_len (g := z125) (by omega)
  have l7 : x7.length ≤ 1048576 := szL_len (g := z132) (by omega)
  have l4 : ∀ d ∈ x4, nodeFit d := fun d hd => by
    have := szL_le (g := z32) (N := 1048576) hd (by omega)
    unfold z32 at this
    have hr : szL z79 d.1.2.1.1 ≤ 1048576 := by omega
    refine ⟨szL_len (g := fun l : List UInt8 => l.length) (by omega), szL_len (g := z77) (by omega), szL_len hr, by omega, fun r hrr => ?_⟩
    have h9 := szL_le (N := 1048576) hrr hr
    unfold z79 at h9
    omega
  have l5 : ∀ c ∈ x5, c.2.2.2.2.length ≤ 1048576 := fun c hc => by
    have := szL_le (g := z128) (N := 1048576) hc (by omega)
    unfold z128 at this
    exact szL_len (g := z181) (by omega)
  have l8 : ∀ l ∈ x8, l.length ≤ 1048576 := fun l hl => by
    have := szL_le (g := fun l : List D132 => szL z132 l) (N := 1048576) hl (by omega)
    exact szL_len this
  obtain ⟨q, e1, e2⟩ := settled_eq n hn x0 x1 x2 x3 x4 x5 x6 x7 x8 l3 l4 l5 l6 l7 l8
  rw [T13 n hn x0 x1 x2 x3 x4 x5 x6 x7 x8 hz]
  simp only [obind_some, e1, e2, Q15 n hn x0 x1 x2 x3 x4 x5 x6 x7 x8 hz]
  simp
theorem plain4 : ∀ y : F4.T, F4.Fit y → ∃ n, s4.fn n y = some (true, ()) := by
  rintro ⟨x0, x1, x2, x3, x4, x5, x6, x7, x8, _⟩ ⟨_, h1, h2, h3, h4, h5, h6, h7, h8, _⟩
  exact ⟨1048577, (e4 1048577 x0 x1 x2 x3 x4 x5 x6 x7 x8).trans (plain4' 1048577 (Nat.le_refl _) x0 x1 x2 x3 x4 x5 x6 x7 x8 h1 h2 h3 h4 h5 h6 h7 h8)⟩
end Go.Sym

import Derived.Test.YtgaeiofkkklglaaGreatDoorC16FnExactAsMeant
namespace Go.Sym
open Go
set_option maxRecDepth 100000
set_option linter.unusedVariables false
set_option linter.unusedSimpArgs false
/-! ### all as it is meant -/
def codeAt (n : Nat) (l : List MR) (k : List UInt8) : Int := ((f99 n l k).getD ([], 0, ())).2.1
def getN (n : Nat) (d : D32) (k : List UInt8) : List UInt8 × Int := (fun r : List UInt8 × Int × Unit => (r.1, r.2.1)) ((f100 n d.1.1.1 d.1.1.2.1 d.1.1.2.2.1 d.1.1.2.2.2 d.1.2.1.1 d.1.2.1.2.1 d.1.2.1.2.2 d.1.2.2.1 d.1.2.2.2 d.2 k).getD ([], 0, ()))
def nodeN (n : Nat) (k : List UInt8) : Int := ((f101 n k).getD (0, ())).1
theorem codeAt_eq (n : Nat) (hn : 1048577 ≤ n) (l : List MR) (hl : l.length ≤ 1048576) (k : List UInt8) : ∃ s, f99 n l k = some (s, codeAt n l k, ()) ∧ f56 n l k = some (s, codeAt n l k, ()) := by
  obtain ⟨s, c, e1, e2⟩ := meantat_eq n hn l hl k
  have : codeAt n l k = c := by unfold codeAt; rw [e1]; rfl
  rw [this]
  exact ⟨s, e1, e2⟩
theorem getN_eq (n : Nat) (hn : 1048577 ≤ n) (d : D32) (h : nodeFit d) (k : List UInt8) : f100 n d.1.1.1 d.1.1.2.1 d.1.1.2.2.1 d.1.1.2.2.2 d.1.2.1.1 d.1.2.1.2.1 d.1.2.1.2.2 d.1.2.2.1 d.1.2.2.2 d.2 k = some ((getN n d k).1, (getN n d k).2, ()) ∧
    f54 n d.1.1.1 d.1.1.2.1 d.1.1.2.2.1 d.1.1.2.2.2 d.1.2.1.1 d.1.2.1.2.1 d.1.2.1.2.2 d.1.2.2.1 d.1.2.2.2 d.2 k = some ((getN n d k).1, (getN n d k).2, ()) := by
  obtain ⟨s, c, e1, e2⟩ := nodeget_eq n hn d h k
  have : getN n d k = (s, c) := by unfold getN; rw [e1]; rfl
  rw [this]
  exact ⟨e1, e2⟩
theorem nodeN_eq (n : Nat) (k : List UInt8) : f101 n k = some (nodeN n k, ()) ∧ f55 n k = some (nodeN n k, ()) := by
  obtain ⟨q, e1, e2⟩ := nodeof_eq n k
  have : nodeN n k = q := by unfold nodeN; rw [e1]; rfl
  rw [this]
  exact ⟨e1, e2⟩
def rowM (n : Nat) (l : List MR) (rows : List RowT) (i : Nat) : Bool := !(codeAt n l (rd rows (i : Int)).1 == 2)
def meantM (n : Nat) (w : Int) (l : List MR) (d : D32) (i : Nat) : Bool := !(if (nodeN n (rd l (i : Int)).1 == w) = true then (if (!(getN n d (rd l (i : Int)).1).1 == (rd l (i : Int)).2.1) = true then true else (getN n d (rd l (i : Int)).1).2 != (rd l (i : Int)).2.2) else false)
def nodeM (n : Nat) (w : Int) (l : List MR) (d : D32) : Bool := (List.range d.1.2.1.1.length).all (rowM n l d.1.2.1.1) && (List.range l.length).all (meantM n w l d)
theorem node_spec (n : Nat) (hn : 1048577 ≤ n) (w : Int) (l : List MR) (hl : l.length ≤ 1048576) (d : D32) (h : nodeFit d) :
    f51 n d.1.1.1 d.1.1.2.1 d.1.1.2.2.1 d.1.1.2.2.2 d.1.2.1.1 d.1.2.1.2.1 d.1.2.1.2.2 d.1.2.2.1 d.1.2.2.2 d.2 w l = some (nodeM n w l d, ()) := by
  have hr : d.1.2.1.1.length ≤ 1048576 := h.2.2.1
  have h2 : f51L1 n n (w, l, 0, d.1.1.1, d.1.1.2.1, d.1.1.2.2.1, d.1.1.2.2.2, d.1.2.1.1, d.1.2.1.2.1, d.1.2.1.2.2, d.1.2.2.1, d.1.2.2.2, d.2, ()) = if (List.range l.length).all (meantM n w l d) = true then some (true, ()) else some (false, ()) :=
    loop_all0 (L := fun m i => f51L1 n m (w, l, i, d.1.1.1, d.1.1.2.1, d.1.1.2.2.1, d.1.1.2.2.2, d.1.2.1.1, d.1.2.1.2.1, d.1.2.1.2.2, d.1.2.2.1, d.1.2.2.2, d.2, ())) (N := l.length) (by omega) (fun m i hi => by
      have hd : decide ((i : Int) < (l.length : Int)) = true := by simp; omega
      rw [f51L1]
      simp only [hd, inM_nat hi, if_true, (getN_eq n hn d h _).1, (nodeN_eq n _).1, obind_some, Bool.or_true, W_same (x := (i : Int) + 1) (by omega) (by omega)]
      unfold meantM
      rw [show ((i + 1 : Nat) : Int) = (i : Int) + 1 by omega]
      generalize (nodeN n (rd l (i : Int)).1 == w) = b1
      generalize (!(getN n d (rd l (i : Int)).1).1 == (rd l (i : Int)).2.1) = b2
      generalize ((getN n d (rd l (i : Int)).1).2 != (rd l (i : Int)).2.2) = b3
      cases b1 <;> cases b2 <;> cases b3 <;> rfl) (fun m => by
      have hd : decide ((l.length : Int) < (l.length : Int)) = false := by simp
      rw [f51L1]
      simp only [hd, Bool.false_eq_true, if_false])
  have h1 : f51L0 n n (w, l, 0, d.1.1.1, d.1.1.2.1, d.1.1.2.2.1, d.1.1.2.2.2, d.1.2.1.1, d.1.2.1.2.1, d.1.2.1.2.2, d.1.2.2.1, d.1.2.2.2, d.2, ()) = if (List.range d.1.2.1.1.length).all (rowM n l d.1.2.1.1) = true then f51L1 n n (w, l, 0, d.1.1.1, d.1.1.2.1, d.1.1.2.2.1, d.1.1.2.2.2, d.1.2.1.1, d.1.2.1.2.1, d.1.2.1.2.2, d.1.2.2.1, d.1.2.2.2, d.2, ()) else some (false, ()) :=
    loop_all0 (L := fun m i => f51L0 n m (w, l, i, d.1.1.1, d.1.1.2.1, d.1.1.2.2.1, d.1.1.2.2.2, d.1.2.1.1, d.1.2.1.2.1, d.1.2.1.2.2, d.1.2.2.1, d.1.2.2.2, d.2, ())) (N := d.1.2.1.1.length) (by omega) (fun m i hi => by
      have hd : decide ((i : Int) < (d.1.2.1.1.length : Int)) = true := by simp; omega
      obtain ⟨s, e1, _⟩ := codeAt_eq n hn l hl (rd d.1.2.1.1 (i : Int)).1
      rw [f51L0]
      simp only [hd, inM_nat hi, if_true, e1, obind_some, W_same (x := (i : Int) + 1) (by omega) (by omega)]
      unfold rowM
      rw [show ((i + 1 : Nat) : Int) = (i : Int) + 1 by omega]
      cases (codeAt n l (rd d.1.2.1.1 (i : Int)).1 == 2) <;> rfl) (fun m => by
      have hd : decide ((d.1.2.1.1.length : Int) < (d.1.2.1.1.length : Int)) = false := by simp
      rw [f51L0]
      simp only [hd, Bool.false_eq_true, if_false])
  show f51L0 n n (w, l, 0, d.1.1.1, d.1.1.2.1, d.1.1.2.2.1, d.1.1.2.2.2, d.1.2.1.1, d.1.2.1.2.1, d.1.2.1.2.2, d.1.2.2.1, d.1.2.2.2, d.2, ()) = _
  rw [h1, h2]
  unfold nodeM
  cases (List.range d.1.2.1.1.length).all (rowM n l d.1.2.1.1) <;> cases (List.range l.length).all (meantM n w l d) <;> rfl
theorem node_impl (n : Nat) (hn : 1048577 ≤ n) (g0 : List D32 × Int × Int × List D107 × Unit → Option (Bool × Unit)) (y1 : List D32) (y2 : Int) (j : Nat) (l : List MR) (hl : l.length ≤ 1048576) (d : D32) (h : nodeFit d) (hj : j ≤ 1048576) :
    f17L1 n g0 n ((j : Int), y1, y2, (j : Int), (l.length : Int), 0, l, d.1.1.1, d.1.1.2.1, d.1.1.2.2.1, d.1.1.2.2.2, d.1.2.1.1, d.1.2.1.2.1, d.1.2.1.2.2, d.1.2.2.1, d.1.2.2.2, d.2, ()) =
      if nodeM n (W (3 + (j : Int))) l d = true then g0 (y1, y2, W ((j : Int) + 1), l, ()) else some (false, ()) := by
  have hr : d.1.2.1.1.length ≤ 1048576 := h.2.2.1
  have h2 : f17L2 n g0 n (y1, y2, (j : Int), d.1.2.1.1, (d.1.2.1.1.length : Int), 0, l, ()) = if (List.range d.1.2.1.1.length).all (rowM n l d.1.2.1.1) = true then g0 (y1, y2, W ((j : Int) + 1), l, ()) else some (false, ()) :=
    loop_all0 (L := fun m i => f17L2 n g0 m (y1, y2, (j : Int), d.1.2.1.1, (d.1.2.1.1.length : Int), i, l, ())) (N := d.1.2.1.1.length) (by omega) (fun m i hi => by
      have hd : decide ((i : Int) < (d.1.2.1.1.length : Int)) = true := by simp; omega
      obtain ⟨s, _, e1⟩ := codeAt_eq n hn l hl (rd d.1.2.1.1 (i : Int)).1
      rw [f17L2]
      simp only [hd, inM_nat hi, if_true, e1, obind_some, W_same (x := (i : Int) + 1) (by omega) (by omega)]
      unfold rowM
      rw [show ((i + 1 : Nat) : Int) = (i : Int) + 1 by omega]
      cases (codeAt n l (rd d.1.2.1.1 (i : Int)).1 == 2) <;> rfl) (fun m => by
      have hd : decide ((d.1.2.1.1.length : Int) < (d.1.2.1.1.length : Int)) = false := by simp
      rw [f17L2]
      simp only [hd, Bool.false_eq_true, if_false])
  have h1 : f17L1 n g0 n ((j : Int), y1, y2, (j : Int), (l.length : Int), 0, l, d.1.1.1, d.1.1.2.1, d.1.1.2.2.1, d.1.1.2.2.2, d.1.2.1.1, d.1.2.1.2.1, d.1.2.1.2.2, d.1.2.2.1, d.1.2.2.2, d.2, ()) = if (List.range l.length).all (meantM n (W (3 + (j : Int))) l d) = true then f17L2 n g0 n (y1, y2, (j : Int), d.1.2.1.1, (d.1.2.1.1.length : Int), 0, l, ()) else some (false, ()) :=
    loop_all0 (L := fun m i => f17L1 n g0 m ((j : Int), y1, y2, (j : Int), (l.length : Int), i, l, d.1.1.1, d.1.1.2.1, d.1.1.2.2.1, d.1.1.2.2.2, d.1.2.1.1, d.1.2.1.2.1, d.1.2.1.2.2, d.1.2.2.1, d.1.2.2.2, d.2, ())) (N := l.length) (by omega) (fun m i hi => by
      have hd : decide ((i : Int) < (l.length : Int)) = true := by simp; omega
      have hrd : rdn l (Int.toNat (i : Int)) = rd l (i : Int) := by rw [Int.toNat_natCast, rdnM_get hi, rdM_nat hi]
      rw [f17L1]
      simp only [hd, inM_nat hi, if_true, hrd, (getN_eq n hn d h _).2, (nodeN_eq n _).2, obind_some, W_same (x := (i : Int) + 1) (by omega) (by omega)]
      unfold meantM
      rw [show ((i + 1 : Nat) : Int) = (i : Int) + 1 by omega]
      generalize (nodeN n (rd l (i : Int)).1 == W (3 + (j : Int))) = b1
      generalize (!(getN n d (rd l (i : Int)).1).1 == (rd l (i : Int)).2.1) = b2
      generalize ((getN n d (rd l (i : Int)).1).2 != (rd l (i : Int)).2.2) = b3
      cases b1 <;> cases b2 <;> cases b3 <;> rfl) (fun m => by
      have hd : decide ((l.length : Int) < (l.length : Int)) = false := by simp
      rw [f17L1]
      simp only [hd, Bool.false_eq_true, if_false])
  rw [h1, h2]
  unfold nodeM
  cases (List.range d.1.2.1.1.length).all (rowM n l d.1.2.1.1) <;> cases (List.range l.length).all (meantM n (W (3 + (j : Int))) l d) <;> rfl
end Go.Sym

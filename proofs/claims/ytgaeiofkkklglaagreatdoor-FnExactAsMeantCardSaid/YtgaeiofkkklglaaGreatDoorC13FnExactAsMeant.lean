import Derived.Test.YtgaeiofkkklglaaGreatDoorC10FnExactAsMeant
import Derived.Test.YtgaeiofkkklglaaGreatDoorU2FnExactAsMeant
namespace Go.Sym
open Go
set_option maxRecDepth 100000
set_option linter.unusedVariables false
set_option linter.unusedSimpArgs false
/-! ### messages, acts -/
theorem word_some (n : Nat) (x : Int) : f172 n x = some (decide (0 ≤ x ∧ x ≤ 65535), ()) := by
  unfold f172
  rw [within_some, obind_some]
def actB (a : Int × Int × Int × List UInt8 × List UInt8 × Int) : Bool := decide (1 ≤ a.1 ∧ a.1 ≤ 3) && decide (0 ≤ a.2.1 ∧ a.2.1 ≤ 9) && decide (0 ≤ a.2.2.1 ∧ a.2.2.1 ≤ 65535) && decide (a.2.2.2.1.length ≤ 60) && decide (a.2.2.2.2.1.length ≤ 60) && decide (0 ≤ a.2.2.2.2.2 ∧ a.2.2.2.2.2 ≤ 6)
abbrev MsgT : Type := Int × Int × Int × Int × List UInt8 × List UInt8 × Int × Int
def parB (b : UInt8) : Bool := (((UInt8.ofNat (((b.toNat : Nat) : Int).tmod (((UInt8.ofNat (Int.toNat 2)).toNat : Nat) : Int)).toNat).toNat : Nat) : Int) == (((UInt8.ofNat (Int.toNat 1)).toNat : Nat) : Int)
theorem par_all : ∀ k : Fin 256, W (3 + (W (((UInt8.ofNat k.val).toNat : Nat) : Int)).tmod 2) = if parB (UInt8.ofNat k.val) = true then 4 else 3 := by decide +kernel
theorem par_one (b : UInt8) : W (3 + (W ((b.toNat : Nat) : Int)).tmod 2) = if parB b = true then 4 else 3 := by
  have := par_all ⟨b.toNat, b.toNat_lt⟩
  simpa using this
theorem nodeof_eq (n : Nat) (l : List UInt8) : ∃ q, f101 n l = some (q, ()) ∧ f55 n l = some (q, ()) := by
  unfold f101 f55
  cases l with
  | nil => exact ⟨3, by simp, by simp⟩
  | cons b t =>
    have h0 : inR (b :: t).length 0 = true := by simp [inR] <;> omega
    have hg : (b :: t).getD (Int.toNat 0) 0 = b := rfl
    have hz : (((b :: t).length : Int) == 0) = false := by simp <;> omega
    have hn : (!(b :: t) == (#[] : Array UInt8).toList) = true := by simp
    rw [hz, if_neg (by simp), if_pos h0, hg, par_one, hn, h0]
    refine ⟨_, rfl, ?_⟩
    show (if (!(true && true == true) || true) = true then (if (if true = true then parB b else false) = true then some (4, ()) else some (3, ())) else none) = _
    cases parB b <;> rfl
def kindB (k : Int) : Bool := if (if (k == 1) = true then true else k == 3) = true then true else k == 4
abbrev DoneT : Type := Int × Int × List UInt8 × List UInt8 × Int
def doneB (s : Int) (d : DoneT) : Bool := kindB d.2.1 && decide (1 ≤ d.1 ∧ d.1 ≤ s) && decide (0 ≤ d.2.2.2.2 ∧ d.2.2.2.2 ≤ 6) && decide (d.2.2.1.length ≤ 60) && decide (d.2.2.2.1.length ≤ 60)
theorem gt60 (l : List UInt8) : decide ((l.length : Int) > 60) = !decide (l.length ≤ 60) := by by_cases h : l.length ≤ 60 <;> simp [h] <;> omega
/-! ### worlds -/
def nodeFit (d : D32) : Prop := d.1.1.1.length ≤ 1048576 ∧ d.1.1.2.1.length ≤ 1048576 ∧ d.1.2.1.1.length ≤ 1048576 ∧ d.1.2.1.2.2.length ≤ 1048576 ∧ ∀ r ∈ d.1.2.1.1, r.1.length ≤ 1048576
def nodeB (n : Nat) (d : D32) : Bool := ((f80 n d.1.1.1 d.1.1.2.1 d.1.1.2.2.1 d.1.1.2.2.2 d.1.2.1.1 d.1.2.1.2.1 d.1.2.1.2.2 d.1.2.2.1 d.1.2.2.2 d.2).getD (false, ())).1
theorem nodeB_eq (n : Nat) (hn : 1048577 ≤ n) (d : D32) (h : nodeFit d) : f80 n d.1.1.1 d.1.1.2.1 d.1.1.2.2.1 d.1.1.2.2.2 d.1.2.1.1 d.1.2.1.2.1 d.1.2.1.2.2 d.1.2.2.1 d.1.2.2.2 d.2 = some (nodeB n d, ()) ∧
    f89 n d.1.1.1 d.1.1.2.1 d.1.1.2.2.1 d.1.1.2.2.2 d.1.2.1.1 d.1.2.1.2.1 d.1.2.1.2.2 d.1.2.2.1 d.1.2.2.2 d.2 = some (nodeB n d, ()) := by
  obtain ⟨h1, h2, h3, h4, h5⟩ := h
  obtain ⟨q, e1, e2, _⟩ := node_ok n hn d.1.1.1 d.1.1.2.1 d.1.1.2.2.1 d.1.1.2.2.2 d.1.2.1.1 d.1.2.1.2.1 d.1.2.1.2.2 d.1.2.2.1 d.1.2.2.2 d.2 h1 h2 h3 h4 h5
  unfold nodeB
  rw [e1, e2]
  exact ⟨rfl, rfl⟩
def actsB (l : List D132) : Bool := (List.range l.length).all (fun i => actB (rd l (i : Int)))
/-! ### settled -/
end Go.Sym

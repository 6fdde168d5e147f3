import Derived.Test.YtolgphpkjmdlgaaGreatDoorE15FnTallies
namespace Go.Sym
open Go
set_option maxRecDepth 100000
set_option linter.unusedVariables false
set_option linter.unusedSimpArgs false
theorem old_tot (n : Nat) (hn : 1048577 ≤ n) (s : List (List UInt8)) (c : List WrT) (f : Int) (d : Bool) (rows : List D45) (p : Int) (marks : List D127) (g pl cs who seq : Int) (k : Nat) (hk : k ≤ 1000) (h : NodeI n k s c rows marks) : ∃ x q, f84 n s c f d rows p marks g pl cs who seq = some (x, q, ()) := by
  unfold f84
  obtain ⟨q, e⟩ := up_tot n hn s c f d rows p marks g pl cs k hk h
  obtain ⟨a, b, x, y, e2⟩ := markat_tot n hn rows p marks who (by have := h.2.2.1; omega)
  simp only [e, e2, within_some, obind_some, obind_ite']
  repeat' first
    | refine ite_tot (fun o : Option (Int × Bool × Unit) => ∃ x q, o = some (x, q, ())) ?_ ?_
    | exact ⟨_, _, rfl⟩
def EndO (n k : Nat) (o : Option (Int × Bool × List D45 × Int × List D127 × Int × Int × Int × Int × Bool × List (List UInt8) × List WrT × Unit)) : Prop :=
  ∃ f d rows p marks g pl cs x q s c, o = some (f, d, rows, p, marks, g, pl, cs, x, q, s, c, ()) ∧ NodeI n k s c rows marks
theorem end_tot (n : Nat) (hn : 1048577 ≤ n) (s : List (List UInt8)) (c : List WrT) (f : Int) (d : Bool) (rows : List D45) (p : Int) (marks : List D127) (g pl cs : Int) (k : Nat) (hk : k ≤ 999) (h : NodeI n k s c rows marks)
    (x10 : Int) (x11 : List UInt8) (x12 : Int) (x13 : List UInt8) (x14 : Int) (x15 : List UInt8) (x16 : Int) (x17 : Bool) (x18 : List UInt8) (x19 x20 x21 x22 : Int) (h1 : x11.length ≤ 1000) (h3 : x13.length ≤ 1000) (h5 : x15.length ≤ 1000) (h8 : x18.length ≤ 1000) :
    EndO n (k + 1) (f86 n s c f d rows p marks g pl cs x10 x11 x12 x13 x14 x15 x16 x17 x18 x19 x20 x21 x22) := by
  unfold f86
  rw [obind_of (ncopy_tot n hn s c f d rows p marks g pl cs k (by omega) h)]
  refine ite_tot (EndO n (k + 1)) ?_ ?_
  · obtain ⟨q, f', d', rows', p', marks', g', pl', s', c', e, h'⟩ := add_tot n hn k hk 4 #[].toList 0 [] 0 [] 0 false #[].toList 0 x20 x21 x22 (by simp) (by simp) (by simp) (by simp) f d rows p marks g pl s c h
    rw [obind_of e]
    exact ite_tot (EndO n (k + 1)) ⟨_, _, _, _, _, _, _, _, _, _, _, _, rfl, h'⟩ ⟨_, _, _, _, _, _, _, _, _, _, _, _, rfl, h'⟩
  · obtain ⟨q, f', d', rows', p', marks', g', pl', s', c', e, h'⟩ := add_tot n hn k hk x10 x11 x12 x13 x14 x15 x16 x17 x18 x19 x20 x21 x22 h1 h3 h5 h8 f d rows p marks g pl s c h
    rw [obind_of e]
    exact ite_tot (EndO n (k + 1)) ⟨_, _, _, _, _, _, _, _, _, _, _, _, rfl, h'⟩ ⟨_, _, _, _, _, _, _, _, _, _, _, _, rfl, h'⟩
theorem del_tot (n : Nat) (hn : 1048577 ≤ n) (s : List (List UInt8)) (c : List WrT) (f : Int) (d : Bool) (rows : List D45) (p : Int) (marks : List D127) (g pl cs who seq : Int) (key : List UInt8) (hk1 : key.length ≤ 1000) (k : Nat) (hk : k ≤ 999) (h : NodeI n k s c rows marks) :
    EndO n (k + 1) (f54 n s c f d rows p marks g pl cs who seq key) := by
  unfold f54
  obtain ⟨x, q, e⟩ := old_tot n hn s c f d rows p marks g pl cs who seq k (by omega) h
  rw [obind_of e]
  refine ite_tot (EndO n (k + 1)) ?_ ?_
  · rw [obind_of (ncopy_tot n hn s c f d rows p marks g pl cs k (by omega) h)]
    exact ⟨_, _, _, _, _, _, _, _, _, _, _, _, rfl, h.le (by omega)⟩
  · obtain ⟨q2, e2⟩ := nameok_tot n hn key (by omega)
    obtain ⟨v, e3, _⟩ := rowat_tot n hn rows p marks key (by have := h.2.1; omega)
    have hE := fun x22 => end_tot n hn s c f d rows p marks g pl cs k hk h 2 #[].toList 0 [] 0 [] 0 false key 0 who seq x22 (by simp) (by simp) (by simp) hk1
    rw [obind_of e2]
    refine ite_tot (EndO n (k + 1)) ?_ ?_
    · obtain ⟨f', d', rows', p', marks', g', pl', cs', x', q', s', c', e4, h'⟩ := hE 1
      rw [obind_of e4]
      exact ⟨_, _, _, _, _, _, _, _, _, _, _, _, rfl, h'⟩
    · rw [obind_of e3]
      refine ite_tot (EndO n (k + 1)) ?_ ?_
      · obtain ⟨f', d', rows', p', marks', g', pl', cs', x', q', s', c', e4, h'⟩ := hE 2
        rw [obind_of e4]
        exact ⟨_, _, _, _, _, _, _, _, _, _, _, _, rfl, h'⟩
      · obtain ⟨f', d', rows', p', marks', g', pl', cs', x', q', s', c', e4, h'⟩ := hE 0
        rw [obind_of e4]
        exact ⟨_, _, _, _, _, _, _, _, _, _, _, _, rfl, h'⟩
theorem nput_tot (n : Nat) (hn : 1048577 ≤ n) (s : List (List UInt8)) (c : List WrT) (f : Int) (d : Bool) (rows : List D45) (p : Int) (marks : List D127) (g pl cs who seq : Int) (key text : List UInt8) (hk1 : key.length ≤ 1000) (ht : text.length ≤ 1048576) (k : Nat) (hk : k ≤ 999) (h : NodeI n k s c rows marks) :
    EndO n (k + 1) (f60 n s c f d rows p marks g pl cs who seq key text) := by
  unfold f60
  obtain ⟨x, q, e⟩ := old_tot n hn s c f d rows p marks g pl cs who seq k (by omega) h
  rw [obind_of e]
  refine ite_tot (EndO n (k + 1)) ?_ ?_
  · rw [obind_of (ncopy_tot n hn s c f d rows p marks g pl cs k (by omega) h)]
    exact ⟨_, _, _, _, _, _, _, _, _, _, _, _, rfl, h.le (by omega)⟩
  · obtain ⟨k', a, cc, hh, z, q2, ob, nb, e2, g1, g2, g3⟩ := rowof_tot n hn p key cs text (by omega) ht
    obtain ⟨v, e3, _⟩ := rowat_tot n hn rows p marks key (by have := h.2.1; omega)
    have hE := fun x22 => end_tot n hn s c f d rows p marks g pl cs k hk h 1 k' a ob cc nb hh z #[].toList 0 who seq x22 (by omega) (by omega) (by omega) (by simp)
    rw [obind_of e2, e3, obind_ite']
    refine ite_tot (EndO n (k + 1)) ?_ ?_
    · obtain ⟨f', d', rows', p', marks', g', pl', cs', x', q', s', c', e4, h'⟩ := hE 5
      rw [obind_of e4]
      exact ⟨_, _, _, _, _, _, _, _, _, _, _, _, rfl, h'⟩
    · obtain ⟨f', d', rows', p', marks', g', pl', cs', x', q', s', c', e4, h'⟩ := hE q2
      rw [obind_of e4]
      exact ⟨_, _, _, _, _, _, _, _, _, _, _, _, rfl, h'⟩
def PhO (n k : Nat) (o : Option (Int × Bool × List D45 × Int × List D127 × Int × Int × Int × Bool × List (List UInt8) × List WrT × Unit)) : Prop :=
  ∃ f d rows p marks g pl cs q s c, o = some (f, d, rows, p, marks, g, pl, cs, q, s, c, ()) ∧ NodeI n k s c rows marks
theorem next_tot (n : Nat) (x y : Int) : ∃ q, f82 n x y = some (q, ()) := by
  unfold f82
  simp only [within_some, obind_some]
  repeat' first
    | refine ite_tot (fun o : Option (Bool × Unit) => ∃ q, o = some (q, ())) ?_ ?_
    | exact ⟨_, rfl⟩
theorem phase_tot (n : Nat) (hn : 1048577 ≤ n) (s : List (List UInt8)) (c : List WrT) (f : Int) (d : Bool) (rows : List D45) (p : Int) (marks : List D127) (g pl cs x10 : Int) (k : Nat) (hk : k ≤ 999) (h : NodeI n k s c rows marks) :
    PhO n (k + 1) (f53 n s c f d rows p marks g pl cs x10) := by
  unfold f53
  rw [obind_of (ncopy_tot n hn s c f d rows p marks g pl cs k (by omega) h)]
  obtain ⟨q, e⟩ := up_tot n hn s c f d rows p marks g pl cs k (by omega) h
  obtain ⟨q1, e1⟩ := next_tot n p x10
  rw [obind_of e]
  refine ite_tot (PhO n (k + 1)) ⟨_, _, _, _, _, _, _, _, _, _, _, rfl, h.le (by omega)⟩ ?_
  rw [obind_of e1]
  refine ite_tot (PhO n (k + 1)) ?_ ?_
  · obtain ⟨q, f', d', rows', p', marks', g', pl', s', c', e, h'⟩ := add_tot n hn k hk 3 #[].toList 0 [] 0 [] 0 false #[].toList x10 0 0 0 (by simp) (by simp) (by simp) (by simp) f d rows p marks g pl s c h
    rw [obind_of e, obind_some]
    exact ⟨_, _, _, _, _, _, _, _, _, _, _, rfl, h'⟩
  · rw [obind_some]
    exact ⟨_, _, _, _, _, _, _, _, _, _, _, rfl, h.le (by omega)⟩
def LoO (n k : Nat) (o : Option (Int × Bool × List D45 × Int × List D127 × Int × Int × Int × Int × List (List UInt8) × List WrT × Unit)) : Prop :=
  ∃ f d rows p marks g pl cs q s c, o = some (f, d, rows, p, marks, g, pl, cs, q, s, c, ()) ∧ NodeI n k s c rows marks
theorem load_tot (n : Nat) (hn : 1048577 ≤ n) (s : List (List UInt8)) (c : List WrT) (f : Int) (d : Bool) (rows : List D45) (p : Int) (marks : List D127) (g pl cs : Int) (key b : List UInt8) (hk1 : key.length ≤ 1000) (hb : b.length ≤ 1000) (k : Nat) (hk : k ≤ 999) (h : NodeI n k s c rows marks) :
    LoO n (k + 1) (f56 n s c f d rows p marks g pl cs key b) := by
  unfold f56
  rw [obind_of (ncopy_tot n hn s c f d rows p marks g pl cs k (by omega) h)]
  obtain ⟨q, e⟩ := up_tot n hn s c f d rows p marks g pl cs k (by omega) h
  obtain ⟨q2, e2⟩ := nameok_tot n hn key (by omega)
  rw [obind_of e, e2, obind_ite']
  refine ite_tot (LoO n (k + 1)) ⟨_, _, _, _, _, _, _, _, _, _, _, rfl, h.le (by omega)⟩ (ite_tot (LoO n (k + 1)) ⟨_, _, _, _, _, _, _, _, _, _, _, rfl, h.le (by omega)⟩ ?_)
  obtain ⟨t, q3, e3, _⟩ := decode_tot n hn cs b (by omega)
  rw [obind_of e3, if_pos (blb1 (by omega)), obind_some]
  obtain ⟨q, f', d', rows', p', marks', g', pl', s', c', e, h'⟩ := add_tot n hn k hk 1 key cs ([] ++ b) 0 [] 1 (!q3) #[].toList 0 0 0 0 hk1 (by simpa using hb) (by simp) (by simp) f d rows p marks g pl s c h
  dsimp only at e ⊢
  rw [obind_of e]
  exact ite_tot (LoO n (k + 1)) ⟨_, _, _, _, _, _, _, _, _, _, _, rfl, h'⟩ ⟨_, _, _, _, _, _, _, _, _, _, _, rfl, h'⟩
end Go.Sym

import Derived.Test.YtmogjjnghkfmnaaGreatH0
import Derived.Shelf.Sort.Plain
import Derived.Shelf.Slices.In.SortNone
import Derived.Shelf.Slices.CompactS
import Derived.Sort.OwnSorted
import Derived.Lib.RowBridge
/-! slices.Sort and slices.Compact at []string, over a row of the caller's own. -/
namespace Go.Sym
open Go Go.Proofs Go.Shelf Go.RowKit Go.Sort
theorem rowsK_str {ro : Bl → Prop} {w : World} (xs : List (List UInt8)) : RowsK .str ro w xs (xs.map strV) := by
  refine ⟨(List.length_map ..).trans (Nat.mul_one _).symm, fun i x hx => ?_⟩
  have hx' : (xs.map strV)[i]? = some (strV x) := by rw [List.getElem?_map, show xs[i]? = some (show List UInt8 from x) from hx]; rfl
  simp only [Ty.K, Ty.size, Nat.mul_one]
  rw [List.take_one, List.head?_drop, hx']
  rfl
theorem of_rowsK {ro : Bl → Prop} {w : World} {xs : List (List UInt8)} {inner : List Value} (h : RowsK .str ro w xs inner) : inner = xs.map strV := by
  obtain ⟨h1, h2⟩ := h
  have h1' : inner.length = xs.length := h1.trans (Nat.mul_one _)
  apply List.ext_getElem?
  intro i
  rw [List.getElem?_map]
  cases hx : xs[i]? with
  | none =>
    have : xs.length ≤ i := List.getElem?_eq_none_iff.1 hx
    simp [this, h1']
  | some x =>
    have hk : [strV x] = (inner.drop (i * Ty.str.size)).take Ty.str.size := by
      have := h2 i x hx
      simp only [Ty.K] at this
      exact this.symm
    simp only [Ty.size, Nat.mul_one] at hk
    rw [List.take_one, List.head?_drop] at hk
    cases hi : inner[i]? with
    | none => rw [hi] at hk; cases hk
    | some u => rw [hi] at hk; cases hk; rfl
abbrev rowF (te : TypeId) : FS := ⟨[(false, [.fx (.row 63)])], [(63, .row .str te)]⟩
theorem row_in {te : TypeId} {en : En} {y : (rowF te).T} {vals : Array Value} {w : World} {ρ : Env} (hvs : vals.size = 1) (hs : Sim vals.size en (rowF te).js.st y ⟨vals, []⟩ w ρ) :
    ∃ u, vals = #[u] ∧ ρ 63 = .row u ∧ w.ownsRow 0 te 1 u (Prod.fst (α := List (List UInt8)) (β := Unit) y).length ((Prod.fst (α := List (List UInt8)) (β := Unit) y).map strV) := by
  obtain ⟨g0, _, _⟩ := hs.tm 0 _ rfl
  obtain ⟨u, hu, hR⟩ := g0 rfl
  have hvals : vals = #[u] := by
    have hu' : vals[0]? = some u := hu
    apply Array.ext (by simpa using hvs)
    intro i h1 h3
    have : i = 0 := by simp at h3; omega
    subst this
    simpa [h1] using hu'
  have hR' : ρ 63 = .row u := hR.1.1
  obtain ⟨h, inner, e1, e2, e3⟩ := hs.mem.ob 63 (.row .str te (fun y => Prod.fst (α := List (List UInt8)) (β := Unit) y)) rfl
  rw [hR'] at e1
  cases e1
  have := of_rowsK e3
  subst this
  exact ⟨u, hvals, hR', e2⟩
theorem grew_of {w w' : World} {g : Nat} (h : w.grownBy w' (some g)) : Grew (fun b => b = g) w w' :=
  ⟨h.os, h.tape, h.output, h.size, fun b hb hne => h.block b hb (fun e => hne (Option.some.inj e))⟩
theorem lent_of {te : TypeId} {en : En} {y : (rowF te).T} {vals : Array Value} {w : World} {ρ : Env} {g n c : Nat} (hw : en.w0 = w) (hs : Sim vals.size en (rowF te).js.st y ⟨vals, []⟩ w ρ) (hρ : ρ 63 = .row (.slice (some ⟨g, 0, none⟩) n c)) : g < w.heap.size ∧ en.lent g := by
  obtain ⟨h1, h2⟩ := hs.mem.new 63 (by simp [JS.st, FS.js, obSt]) g (by rw [hρ]; rfl)
  subst hw
  exact ⟨h1, h2.elim (fun h => by omega) (fun h => h)⟩
def sortO (xs : List (List UInt8)) : Option (List (List UInt8) × Unit) := if xs.length < 4611686018427387904 then some (xs.mergeSort (fun x y => decide (x ≤ y)), ()) else none
noncomputable def sortS {P : Program} {ρ : Ren} (L : Lays.n190 P ρ) (te : TypeId) : FSem P (ρ.f 190) where
  F := rowF te
  G := ⟨[], [(63, .row .str te)]⟩
  fn _ y := sortO (Prod.fst (α := List (List UInt8)) (β := Unit) y)
  ok _ := by
    intro en y r w ρ' vals hw hvs hs hf
    obtain ⟨u, hv, hρ, hown⟩ := row_in (y := y) hvs hs
    obtain ⟨xs, hxs⟩ : ∃ xs : List (List UInt8), Prod.fst (α := List (List UInt8)) (β := Unit) y = xs := ⟨_, rfl⟩
    rw [hxs] at hown
    have hx : xs.length < 4611686018427387904 ∧ r = ((xs.mergeSort (fun x y => decide (x ≤ y)), ()) : List (List UInt8) × Unit) := by
      have hf' : sortO (Prod.fst (α := List (List UInt8)) (β := Unit) y) = some r := hf
      rw [hxs] at hf'
      unfold sortO at hf'
      split at hf'
      · rename_i h
        exact ⟨h, (Option.some.inj hf').symm⟩
      · cases hf'
    obtain ⟨hl, rfl⟩ := hx
    have fin : ∀ (w' : World) (L : Nat → Prop), Grew L w w' → (∀ b, L b → u.ownBlock = some b) → w'.ownsRow 0 te 1 u xs.length ((xs.mergeSort (fun x y => decide (x ≤ y))).map strV) →
        ∃ (v : Value) (vs : List Value) (ρ0 : Env), (Ending.returned (.tuple #[]) : Ending) = .returned v ∧ packs vs v ∧ vs.length = 0 ∧ Sim vs.length en (FS.js ⟨[], [(63, .row .str te)]⟩).st ((xs.mergeSort (fun x y => decide (x ≤ y)), ()) : List (List UInt8) × Unit) ⟨vs.toArray, []⟩ w' ρ0 := by
      intro w' L hg hL ho
      have hone : ∀ i, (FS.js ⟨[], [(63, .row .str te)]⟩).st.objs i ≠ none → i = 63 := fun i hi => by
        by_cases h63 : i = 63
        · exact h63
        · exact absurd (show (if i = 63 then some (OD.row .str te (fun y => Prod.fst (α := List (List UInt8)) (β := Unit) y)) else none) = none by rw [if_neg h63]) hi
      have hnew : ∀ b, (ρ' 63).block = some b → b < w.heap.size ∧ (en.w0.heap.size ≤ b ∨ en.lent b) := fun b hb => hs.mem.new 63 (by simp [JS.st, FS.js, obSt]) b hb
      refine ⟨.tuple #[], [], ρ', rfl, rfl, rfl, fun k e he => (by cases he), ⟨fun i od ho' => ?_, fun i j hi hj hij => absurd ((hone i hi).trans (hone j hj).symm) hij, fun i hi b hb => ?_, hs.mem.fr.grew hg (fun b hb hlt => ?_), fun v hv _ => ?_⟩, rfl, rfl⟩
      · have hi := hone i (by rw [ho']; simp)
        subst hi
        cases ho'
        refine ⟨u, _, hρ, ?_, rowsK_str _⟩
        have : (xs.mergeSort (fun x y => decide (x ≤ y))).length = xs.length := List.length_mergeSort _
        show w'.ownsRow 0 te 1 u (xs.mergeSort (fun x y => decide (x ≤ y))).length _
        rw [this]
        exact ho
      · rw [hone i hi] at hb
        obtain ⟨h1, h2⟩ := hnew b hb
        exact ⟨Nat.lt_of_lt_of_le h1 hg.size, h2⟩
      · have hb' : (ρ' 63).block = some b := by rw [hρ]; exact hL b hb
        rcases (hnew b hb').2 with h1 | h1
        · omega
        · exact h1
      · exact hs.mem.fix v hv (by simp [JS.st, FS.js, obSt])
    rw [hv]
    rcases hown.2 with ⟨rfl, hn⟩ | ⟨g, cap, cur, rfl, hb0, hb, h1, h2, h3, h4⟩
    · refine (Any.slices_Sort_string_none L none 0 w).mono fun e w' hh => ?_
      obtain ⟨rfl, rfl⟩ := hh
      have hx : xs = [] := List.eq_nil_of_length_eq_zero hn
      refine fin _ (fun _ => False) (Grew.refl _) (fun b hb => hb.elim) ?_
      subst hx
      rw [List.mergeSort_nil]
      exact World.ownsRow_nil _ _ _ _
    · have hb' := hb
      refine (Any.slices_Sort_string L g 0 cap xs w (holds_of_block hb (by rw [Nat.mul_one] at h4; exact h4)) (Array.getElem?_eq_some_iff.1 hb).1 hl).mono fun e w' hh => ?_
      obtain ⟨rfl, n, os, rfl⟩ := hh
      exact fin _ _ (grew_of (grownBy_sorted _)) (fun b hb => by subst hb; rfl) (ownsRow_sorted (List.length_mergeSort _) hb0 hb h1 h2 h3)
def compactO (xs : List (List UInt8)) : Option (List (List UInt8) × Unit) := some (Lib.compact xs, ())
noncomputable def compactS {P : Program} {ρ : Ren} (L : Lays.n194 P ρ) (te : TypeId) : FSem P (ρ.f 194) where
  F := rowF te
  G := ⟨[(false, [.fx (.row 1)])], [(1, .row .str te)]⟩
  fn _ y := compactO (Prod.fst (α := List (List UInt8)) (β := Unit) y)
  ok _ := by
    intro en y r w ρ' vals hw hvs hs hf
    obtain ⟨u, hv, hρ, hown⟩ := row_in (y := y) hvs hs
    obtain ⟨xs, hxs⟩ : ∃ xs : List (List UInt8), Prod.fst (α := List (List UInt8)) (β := Unit) y = xs := ⟨_, rfl⟩
    rw [hxs] at hown
    have hf' : compactO (Prod.fst (α := List (List UInt8)) (β := Unit) y) = some r := hf
    rw [hxs] at hf'
    obtain rfl := Option.some.inj hf'
    have hlen : (Lib.compact xs).length ≤ xs.length := Lib.compact_length_le _
    have fin : ∀ (w' : World) (L : Nat → Prop) (u' : Value), Grew L w w' → (∀ b, L b → u.ownBlock = some b) → (∀ b, u'.ownBlock = some b → u.ownBlock = some b) → w'.ownsRow 0 te 1 u' (Lib.compact xs).length ((Lib.compact xs).map strV) → u'.oneCell' = true →
        ∃ (v : Value) (vs : List Value) (ρ0 : Env), (Ending.returned u' : Ending) = .returned v ∧ packs vs v ∧ vs.length = 1 ∧ Sim vs.length en (FS.js ⟨[(false, [.fx (.row 1)])], [(1, .row .str te)]⟩).st ((Lib.compact xs, ()) : List (List UInt8) × Unit) ⟨vs.toArray, []⟩ w' ρ0 := by
      intro w' L u' hg hL hu' ho hone
      have hnew : ∀ b, u.ownBlock = some b → b < w.heap.size ∧ (en.w0.heap.size ≤ b ∨ en.lent b) := fun b hb => hs.mem.new 63 (by simp [JS.st, FS.js, obSt]) b (by rw [hρ]; exact hb)
      have hon : ∀ i, (FS.js ⟨[(false, [.fx (.row 1)])], [(1, .row .str te)]⟩).st.objs i ≠ none → i = 1 := fun i hi => by
        by_cases h1 : i = 1
        · exact h1
        · exact absurd (show (if i = 1 then some (OD.row .str te (fun y => Prod.fst (α := List (List UInt8)) (β := Unit) y)) else none) = none by rw [if_neg h1]) hi
      let ρ1 : Env := fun _ => .row u'
      refine ⟨u', [u'], ρ1, rfl, rfl, rfl, fun k e he => ?_, ⟨fun i od ho' => ?_, fun i j hi hj hij => absurd ((hon i hi).trans (hon j hj).symm) hij, fun i hi b hb => ?_, hs.mem.fr.grew hg (fun b hb hlt => ?_), fun _ _ hh => absurd (hon 63 hh) (by decide)⟩, rfl, rfl⟩
      · have he' : (if k = 0 then some (⟨fun _ => true, some [], .cells false [.row 1]⟩ : TE (List (List UInt8) × Unit)) else none) = some e := he
        by_cases hk : k = 0
        · subst hk
          rw [if_pos rfl] at he'
          cases he'
          exact ⟨fun _ => ⟨u', rfl, ⟨⟨rfl, trivial⟩, hone⟩⟩, fun hh => (by cases hh), fun l hl => by cases hl; exact ⟨fun _ p hp => (by cases hp), fun _ => rfl⟩⟩
        · rw [if_neg hk] at he'
          cases he'
      · have hi := hon i (by rw [ho']; simp)
        subst hi
        cases ho'
        exact ⟨u', _, rfl, ho, rowsK_str _⟩
      · obtain ⟨h1, h2⟩ := hnew b (hu' b hb)
        exact ⟨Nat.lt_of_lt_of_le h1 hg.size, h2⟩
      · rcases (hnew b (hL b hb)).2 with h1 | h1
        · omega
        · exact h1
    rw [hv]
    rcases hown.2 with ⟨rfl, hn⟩ | ⟨g, cap, cur, rfl, hb0, hb, h1, h2, h3, h4⟩
    · refine (Any.slices_Compact_string_empty L none 0 w).mono fun e w' hh => ?_
      obtain ⟨rfl, rfl⟩ := hh
      have hx : xs = [] := List.eq_nil_of_length_eq_zero hn
      refine fin _ (fun _ => False) _ (Grew.refl _) (fun b hb => hb.elim) (fun b hb => hb) ?_ rfl
      subst hx
      exact World.ownsRow_nil _ _ _ _
    · refine (Any.slices_Compact_string L g 0 cap xs w (holds_of_block hb (by rw [Nat.mul_one] at h4; exact h4)) (Nat.le_trans h1 h2) h1).mono fun e w' hh => ?_
      obtain ⟨rfl, q, rfl⟩ := hh
      have hgr := grownBy_sorted (w := w) (g := g) (n := q) (os := #[]) (Lib.compact xs ++ List.replicate (xs.length - (Lib.compact xs).length) []).toArray
      have hhp := heap_sorted (n := q) (os := #[]) (Lib.compact xs ++ List.replicate (xs.length - (Lib.compact xs).length) []).toArray hb
      rw [grow_empty] at hgr hhp
      refine fin _ _ _ (grew_of hgr) (fun b hb => by subst hb; rfl) (fun b hb => hb) ⟨by simp, .inr ⟨g, cap, _, rfl, hb0, hhp, Nat.le_trans hlen h1, h2, by simp [putCells, h3], ?_⟩⟩ rfl
      have ht := take_putCells cur (Lib.compact xs ++ List.replicate (xs.length - (Lib.compact xs).length) []) (by simp; omega)
      have ht2 := congrArg (List.take (Lib.compact xs).length) ht
      rw [List.take_take, List.map_append] at ht2
      have hmin : min (Lib.compact xs).length (Lib.compact xs ++ List.replicate (xs.length - (Lib.compact xs).length) []).length = (Lib.compact xs).length := by simp
      rw [hmin] at ht2
      rw [Nat.mul_one, ht2]
      rw [List.take_append_of_le_length (by simp)]
      rw [List.take_of_length_le (by simp)]
      rfl
end Go.Sym

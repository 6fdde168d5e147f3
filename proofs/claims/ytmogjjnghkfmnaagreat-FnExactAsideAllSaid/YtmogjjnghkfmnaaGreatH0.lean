import Derived.Test.YtmogjjnghkfmnaaGreatS31
import Derived.Shelf.Small.Strs
/-! Functions of the library whose meaning the shelf gives. -/
namespace Go.Sym
open Go Go.Proofs Go.Shelf
/-- A function of two values whose result is a value without places. -/
def fsem2 {P : Program} {f : FuncId} (a b t : Ty) (ht : t.plain = true) (fn : a.D → b.D → Option t.D)
    (h : ∀ (ro : Bl → Prop) (w : World) (x : a.D) (y : b.D) (z : t.D) (u v : Value), (∀ b, ro b → b.1 < w.heap.size) → a.K ro w x [u] → b.K ro w y [v] → fn x y = some z →
      Calls P f #[u, v] w fun e w' => ∃ q, e = .returned q ∧ q.oneCell' = true ∧ t.K ro w' z [q] ∧ Grew (fun _ => False) w w') : FSem P f where
  F := ⟨[(false, [.v a]), (false, [.v b])], []⟩
  G := ⟨[(false, [.v t])], []⟩
  fn _ y := (fn (show a.D × b.D × Unit from y).1 (show a.D × b.D × Unit from y).2.1).map fun z => ((z, ()) : t.D × Unit)
  ok _ := by
    intro en y r w ρ vals hw hvs hs hf
    obtain ⟨x, y, _⟩ := y
    obtain ⟨z, _⟩ := r
    have hf' : fn x y = some z := by
      cases hq : fn x y with
      | none =>
        have : (fn x y).map (fun z => ((z, ()) : t.D × Unit)) = some (z, ()) := hf
        rw [hq] at this
        cases this
      | some z' =>
        have : (fn x y).map (fun z => ((z, ()) : t.D × Unit)) = some (z, ()) := hf
        rw [hq] at this
        cases this
        rfl
    obtain ⟨g0, _, _⟩ := hs.tm 0 _ rfl
    obtain ⟨u, hu, hR⟩ := g0 rfl
    obtain ⟨g1, _, _⟩ := hs.tm 1 _ rfl
    obtain ⟨v, hv, hR'⟩ := g1 rfl
    have hvals : vals = #[u, v] := by
      have h2 : vals.size = 2 := hvs
      have hu' : vals[0]? = some u := hu
      have hv' : vals[1]? = some v := hv
      apply Array.ext (by simpa using h2)
      intro i h1 h3
      have : i = 0 ∨ i = 1 := by simp at h3; omega
      rcases this with rfl | rfl
      · simpa [h1] using hu'
      · simpa [h1] using hv'
    rw [hvals]
    have hK0 : a.K (RO en _ ρ w) w x [u] := hR.1.1
    have hK1 : b.K (RO en _ ρ w) w y [v] := hR'.1.1
    refine (h (RO en _ ρ w) w x y z u v (fun b hb => hb.2.1) hK0 hK1 hf').mono fun e w' hh => ?_
    obtain ⟨q, rfl, h1, hK, g⟩ := hh
    refine ⟨q, [q], ρ, rfl, rfl, rfl, fun k e he => ?_, ⟨fun i od ho => (by cases ho), fun i j hi => absurd rfl hi, fun i hi => absurd rfl hi, hs.mem.fr.grew g (fun _ hb => hb.elim), fun _ _ hh => absurd rfl hh⟩, rfl, rfl⟩
    have he' : (if k = 0 then some (⟨fun _ => true, some [], .cells false [.v t (fun y : t.D × Unit => y.1)]⟩ : TE (t.D × Unit)) else none) = some e := he
    by_cases hk : k = 0
    · subst hk
      rw [if_pos rfl] at he'
      cases he'
      exact ⟨fun _ => ⟨q, rfl, ⟨⟨Ty.K_plain ht hK, trivial⟩, h1⟩⟩, fun hh => (by cases hh), fun l hl => by cases hl; exact ⟨fun _ p hp => (by cases hp), fun _ => rfl⟩⟩
    · rw [if_neg hk] at he'
      cases he'
/-- strings.IndexByte. -/
noncomputable def indexByteS {P : Program} {ρ : Ren} (L : Lays.n137 P ρ) : FSem P (ρ.f 137) := fsem2 .str .u8 (.int .i64) rfl (fun (s : List UInt8) (c : UInt8) => some (Lib.indexByte s c)) (fun ro w x y z u v _ hx hy hz => by
  simp only [Ty.K, List.cons.injEq, and_true] at hx hy
  subst hx
  subst hy
  obtain rfl := Option.some.inj hz
  refine (Any.strings_IndexByte L ⟨⟨x⟩⟩ ((UInt8.toNat y : Nat) : Int) w).mono fun e w' hh => ?_
  obtain ⟨rfl, rfl⟩ := hh
  have e1 : (((UInt8.toNat y : Nat) : Int)).toNat.toUInt8 = y := by
    simp only [Int.toNat_natCast, Nat.toUInt8]
    exact UInt8.ofNat_toNat
  rw [e1]
  exact ⟨_, rfl, rfl, by simp only [Ty.K], Grew.refl _⟩)
end Go.Sym

import Derived.Test.YtpbfjemedfnkeaaH0
import Derived.Shelf.Strings.OnBuilder
import Derived.Below
/-! strings.Join. -/
namespace Go.Sym
open Go Go.Proofs Go.Shelf Go.RowKit
theorem addr_flat {w : World} {a : Addr} {u : Value} (h : w.cell? (a.add 0) = some u) : a.spot = none := by
  have := World.cell?_spot h
  simpa [Addr.add] using this
theorem below_grew {w w' : World} (h : Below w.heap.size w w') : Grew (fun _ => False) w w' :=
  ⟨h.os, h.tape, h.output, h.size, fun b hb _ => h.block b hb⟩
/-- What Join answers, where it is not too long. -/
def joinO (xs : List (List UInt8)) (sep : List UInt8) : Option (List UInt8) :=
  if xs.length ≤ 1048576 then (if (Lib.join xs sep).length ≤ 140737488355328 then some (Lib.join xs sep) else none) else none
theorem join_calls {P : Program} {ρ : Ren} (L : Lays.n156 P ρ) (X : Builder.Extra P ρ) (w : World) (b o c : Nat) (xs : List (List UInt8)) (sep : List UInt8) (hb : b < w.heap.size) (hl : xs.length ≤ 1048576) (hc : xs.length ≤ c) (hj : (Lib.join xs sep).length ≤ 140737488355328)
    (hel : ∀ (i : Nat) (x : List UInt8), xs[i]? = some x → w.cell? ⟨b, o + i, none⟩ = some (strV x)) :
    Calls P (ρ.f 156) #[.slice (some ⟨b, o, none⟩) xs.length c, strV sep] w fun e w' => e = .returned (strV (Lib.join xs sep)) ∧ Below w.heap.size w w' := by
  have hmap : ∀ l : List (List UInt8), (l.map fun s => (⟨⟨s⟩⟩ : ByteArray)).map (·.data.toList) = l := fun l => by
    rw [List.map_map]
    exact List.map_id' l
  have hlen : (xs.map fun s => (⟨⟨s⟩⟩ : ByteArray)).length = xs.length := List.length_map ..
  have := Any.strings_Join L X b o c (xs.map fun s => (⟨⟨s⟩⟩ : ByteArray)) ⟨⟨sep⟩⟩ w (fun j q hq => by
    rw [List.getElem?_map, Option.map_eq_some_iff] at hq
    obtain ⟨s, hs, rfl⟩ := hq
    exact hel j s hs) hb (by rw [hlen]; exact Nat.le_trans hl (by decide)) (by rw [hlen]; exact hc) (by rw [hmap]; exact hj)
  rw [hmap, hlen] at this
  exact this
noncomputable def joinS {P : Program} {ρ : Ren} (L : Lays.n156 P ρ) (X : Builder.Extra P ρ) : FSem P (ρ.f 156) := fsem2 (.sl .str) .str .str rfl (fun (xs : List (List UInt8)) (sep : List UInt8) => joinO xs sep) (fun ro w x y z u v hro hx hy hz => by
  unfold joinO at hz
  split at hz
  rotate_left
  · cases hz
  rename_i hl
  split at hz
  rotate_left
  · cases hz
  rename_i hj
  obtain rfl := Option.some.inj hz
  simp only [Ty.K, List.cons.injEq, and_true] at hx hy
  subst hy
  obtain ⟨A, c, rfl, hlc, hel⟩ := hx
  cases x with
  | nil =>
    refine (Any.strings_Join_none L X A c ⟨⟨y⟩⟩ w).mono fun e w' hh => ?_
    obtain ⟨rfl, rfl⟩ := hh
    exact ⟨_, rfl, rfl, by simp only [Ty.K]; rfl, Grew.refl _⟩
  | cons x0 xr =>
    obtain ⟨a, us, ha, hr0, hk0, hc0⟩ := hel 0 x0 rfl
    subst ha
    have hk0' : us = [strV x0] := hk0
    subst hk0'
    have hc00 := hc0 0 _ rfl
    rw [Nat.zero_mul] at hc00
    have hsp := addr_flat hc00
    obtain ⟨b, o, sp⟩ := a
    have hsp' : sp = none := hsp
    subst hsp'
    have hb : b < w.heap.size := hro _ hr0.1
    refine (join_calls L X w b o c (x0 :: xr) y hb hl hlc hj (fun j s hs => ?_)).mono fun e w' hh => ?_
    · obtain ⟨a', us, ha, _, hk, hc⟩ := hel j s hs
      cases ha
      have hk' : us = [strV s] := hk
      subst hk'
      have := hc 0 _ rfl
      simp only [Addr.mk_add, Ty.size, Nat.mul_one, Nat.add_zero] at this
      exact this
    · obtain ⟨rfl, hbel⟩ := hh
      exact ⟨_, rfl, rfl, rfl, below_grew hbel⟩)
end Go.Sym

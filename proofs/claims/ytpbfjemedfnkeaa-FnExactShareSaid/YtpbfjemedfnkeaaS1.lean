import Derived.WalkKit
import Derived.Deep.MidRow
import Derived.Laws.AppendOwn
import Derived.Below
/-! Typed values: cells, slices of elements (some cells in line); what a machine value says of them. -/
namespace Go.Sym

inductive Ty where
  | int (k : IntKind) | u8 | bool | str | sl (e : Ty) | pair (a b : Ty)
  deriving DecidableEq

def Ty.D : Ty → Type
  | .int _ => Int
  | .u8 => UInt8
  | .bool => Bool
  | .str => List UInt8
  | .sl e => List e.D
  | .pair a b => a.D × b.D

/-- How many cells. -/
def Ty.size : Ty → Nat
  | .pair a b => a.size + b.size
  | _ => 1
theorem Ty.size_pos : ∀ e : Ty, 0 < e.size
  | .int _ | .u8 | .bool | .str | .sl _ => Nat.one_pos
  | .pair a b => by simp only [Ty.size]; have := Ty.size_pos a; omega

def strV (l : List UInt8) : Value := .string ⟨⟨l⟩⟩
theorem strV_eta (s : ByteArray) : Value.string s = strV s.data.toList := rfl

/-- What machine cells say; ro: which blocks their rows may lie in. -/
def Ty.K (ro : Nat → Prop) (w : World) : (t : Ty) → t.D → List Value → Prop
  | .int k, n, cs => cs = [.int k n]
  | .u8, n, cs => cs = [.int .u8 ((UInt8.toNat n : Nat) : Int)]
  | .bool, b, cs => cs = [.bool b]
  | .str, s, cs => cs = [strV s]
  | .sl e, xs, cs => ∃ A c, cs = [.slice A (show List e.D from xs).length c] ∧ (show List e.D from xs).length ≤ c ∧
      (∀ (i : Nat) (x : e.D), (show List e.D from xs)[i]? = some x → ∃ a us, A = some a ∧ ro a.block ∧ e.K ro w x us ∧ ∀ (j : Nat) (u : Value), us[j]? = some u → w.cell? (a.add (i * e.size + j)) = some u)
  | .pair a b, x, cs => ∃ c0 c1, cs = c0 ++ c1 ∧ a.K ro w (show a.D × b.D from x).1 c0 ∧ b.K ro w (show a.D × b.D from x).2 c1

theorem Ty.K_mono {ro ro' : Nat → Prop} {w w' : World} (hr : ∀ b, ro b → ro' b) (hw : ∀ b, ro b → w'.heap[b]? = w.heap[b]?) :
    ∀ (t : Ty) (x : t.D) (cs : List Value), t.K ro w x cs → t.K ro' w' x cs
  | .int _, _, _, h => h
  | .u8, _, _, h => h
  | .bool, _, _, h => h
  | .str, _, _, h => h
  | .sl e, xs, cs, h => by
    simp only [Ty.K] at h ⊢
    obtain ⟨A, c, h1, h2, h5⟩ := h
    refine ⟨A, c, h1, h2, fun i x hx => ?_⟩
    obtain ⟨a, us, ha, hro, hk, hc⟩ := h5 i x hx
    refine ⟨a, us, ha, hr _ hro, Ty.K_mono hr hw e x us hk, fun j u hu => ?_⟩
    have hb : (a.add (i * e.size + j)).block = a.block := by unfold Addr.add; split <;> rfl
    rw [← hc j u hu]
    exact World.cell?_of_block (by rw [hb]; exact hw _ hro)
  | .pair a b, x, cs, h => by
    simp only [Ty.K] at h ⊢
    obtain ⟨c0, c1, h1, h2, h3⟩ := h
    exact ⟨c0, c1, h1, Ty.K_mono hr hw a _ c0 h2, Ty.K_mono hr hw b _ c1 h3⟩

theorem Ty.K_len {ro : Nat → Prop} {w : World} : ∀ {e : Ty} {x : e.D} {cs : List Value}, e.K ro w x cs → cs.length = e.size
  | .int _, _, _, h => by simp only [Ty.K] at h; subst h; rfl
  | .u8, _, _, h => by simp only [Ty.K] at h; subst h; rfl
  | .bool, _, _, h => by simp only [Ty.K] at h; subst h; rfl
  | .str, _, _, h => by simp only [Ty.K] at h; subst h; rfl
  | .sl e, _, _, h => by
    simp only [Ty.K] at h
    obtain ⟨A, c, rfl, _⟩ := h
    rfl
  | .pair a b, x, cs, h => by
    simp only [Ty.K] at h
    obtain ⟨c0, c1, rfl, h2, h3⟩ := h
    rw [List.length_append, Ty.K_len h2, Ty.K_len h3]
    rfl

/-- Each cell is a value of one cell. -/
theorem Ty.K_one {ro : Nat → Prop} {w : World} : ∀ {t : Ty} {x : t.D} {cs : List Value}, t.K ro w x cs → ∀ u ∈ cs, u.oneCell' = true
  | .int _, _, _, h => by simp only [Ty.K] at h; subst h; simp [Value.oneCell']
  | .u8, _, _, h => by simp only [Ty.K] at h; subst h; simp [Value.oneCell']
  | .bool, _, _, h => by simp only [Ty.K] at h; subst h; simp [Value.oneCell']
  | .str, _, _, h => by simp only [Ty.K] at h; subst h; simp [strV, Value.oneCell']
  | .sl e, _, _, h => by
    simp only [Ty.K] at h
    obtain ⟨A, c, rfl, _⟩ := h
    simp [Value.oneCell']
  | .pair a b, x, cs, h => by
    simp only [Ty.K] at h
    obtain ⟨c0, c1, rfl, h2, h3⟩ := h
    intro u hu
    rcases List.mem_append.1 hu with hu | hu
    · exact Ty.K_one h2 u hu
    · exact Ty.K_one h3 u hu
end Go.Sym

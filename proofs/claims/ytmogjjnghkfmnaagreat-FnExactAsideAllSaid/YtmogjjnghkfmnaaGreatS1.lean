import Derived.Test.YtmogjjnghkfmnaaGreatS0
import Derived.WalkKit
import Derived.Deep.MidRow
import Derived.Laws.AppendOwn
import Derived.Below
/-! Typed values: cells, slices of elements (some cells in line); what a machine value says of them. -/
namespace Go.Sym

/-- Where a row may lie: in any block that is known; in one that is new, or given to be marked; in one that came in, to be read. -/
inductive Cls where
  | any | new | old
  deriving DecidableEq
abbrev Bl := Nat × Cls

/-- hole t: a cell of kind t, whatever stands in it. -/
inductive Ty where
  | int (k : IntKind) | u8 | bool | str | slc (c : Cls) (e : Ty) | pair (a b : Ty) | hole (t : Ty) | err
  deriving DecidableEq
@[match_pattern] abbrev Ty.sl (e : Ty) : Ty := .slc .any e

def Ty.D : Ty → Type
  | .int _ => Int
  | .u8 => UInt8
  | .bool => Bool
  | .str => List UInt8
  | .slc _ e => List e.D
  | .pair a b => a.D × b.D
  | .hole t => t.D
  | .err => Bool

/-- How many cells. -/
def Ty.size : Ty → Nat
  | .pair a b => a.size + b.size
  | _ => 1
theorem Ty.size_pos : ∀ e : Ty, 0 < e.size
  | .int _ | .u8 | .bool | .str | .slc _ _ | .hole _ | .err => Nat.one_pos
  | .pair a b => by simp only [Ty.size]; have := Ty.size_pos a; omega

def strV (l : List UInt8) : Value := .string ⟨⟨l⟩⟩
theorem strV_eta (s : ByteArray) : Value.string s = strV s.data.toList := rfl

/-- A value of this kind (of one cell, without places). -/
def Ty.kind : Ty → Value → Prop
  | .int k, u => ∃ n, u = .int k n
  | .u8, u => ∃ n : UInt8, u = .int .u8 ((UInt8.toNat n : Nat) : Int)
  | .bool, u => ∃ b, u = .bool b
  | .str, u => ∃ s, u = strV s
  | _, _ => False
/-- Where a row of this class lies. -/
def RoW (ro : Bl → Prop) (w : World) (b : Nat) (k : Cls) : Prop := ro (b, k) ∧ ro (b, .any) ∧ (k = .new → ∀ off, w.frozen? ⟨b, off, none⟩ = false)
theorem RoW.mono {ro ro' : Bl → Prop} {w w' : World} (hr : ∀ b, ro b → ro' b) (hw : ∀ b, ro b → w'.heap[b.1]? = w.heap[b.1]?) {b : Nat} {k : Cls} (h : RoW ro w b k) : RoW ro' w' b k :=
  ⟨hr _ h.1, hr _ h.2.1, fun hk off => by
    have e : w'.heap[b]? = w.heap[b]? := hw _ h.1
    have := h.2.2 hk off
    simp only [World.frozen?, e] at this ⊢
    exact this⟩
theorem RoW.toAny {ro : Bl → Prop} {w : World} {b : Nat} {k : Cls} (h : RoW ro w b k) : RoW ro w b .any := ⟨h.2.1, h.2.1, fun hk => by cases hk⟩
/-- What machine cells say; ro: which blocks their rows may lie in. -/
def Ty.K (ro : Bl → Prop) (w : World) : (t : Ty) → t.D → List Value → Prop
  | .int k, n, cs => cs = [.int k n]
  | .u8, n, cs => cs = [.int .u8 ((UInt8.toNat n : Nat) : Int)]
  | .bool, b, cs => cs = [.bool b]
  | .str, s, cs => cs = [strV s]
  | .hole t, _, cs => ∃ u, cs = [u] ∧ t.kind u
  | .err, b, cs => (b = true ∧ cs = [.nilIface]) ∨ (b = false ∧ ∃ tp p, cs = [.iface tp p])
  | .slc k e, xs, cs => ∃ A c, cs = [.slice A (show List e.D from xs).length c] ∧ (show List e.D from xs).length ≤ c ∧
      (∀ (i : Nat) (x : e.D), (show List e.D from xs)[i]? = some x → ∃ a us, A = some a ∧ RoW ro w a.block k ∧ e.K ro w x us ∧ ∀ (j : Nat) (u : Value), us[j]? = some u → w.cell? (a.add (i * e.size + j)) = some u)
  | .pair a b, x, cs => ∃ c0 c1, cs = c0 ++ c1 ∧ a.K ro w (show a.D × b.D from x).1 c0 ∧ b.K ro w (show a.D × b.D from x).2 c1

theorem Ty.K_mono {ro ro' : Bl → Prop} {w w' : World} (hr : ∀ b, ro b → ro' b) (hw : ∀ b, ro b → w'.heap[b.1]? = w.heap[b.1]?) :
    ∀ (t : Ty) (x : t.D) (cs : List Value), t.K ro w x cs → t.K ro' w' x cs
  | .int _, _, _, h => h
  | .u8, _, _, h => h
  | .bool, _, _, h => h
  | .str, _, _, h => h
  | .hole _, _, _, h => h
  | .err, _, _, h => h
  | .slc k e, xs, cs, h => by
    simp only [Ty.K] at h ⊢
    obtain ⟨A, c, h1, h2, h5⟩ := h
    refine ⟨A, c, h1, h2, fun i x hx => ?_⟩
    obtain ⟨a, us, ha, hro, hk, hc⟩ := h5 i x hx
    refine ⟨a, us, ha, hro.mono hr hw, Ty.K_mono hr hw e x us hk, fun j u hu => ?_⟩
    have hb : (a.add (i * e.size + j)).block = a.block := by unfold Addr.add; split <;> rfl
    rw [← hc j u hu]
    exact World.cell?_of_block (by rw [hb]; exact hw _ hro.1)
  | .pair a b, x, cs, h => by
    simp only [Ty.K] at h ⊢
    obtain ⟨c0, c1, h1, h2, h3⟩ := h
    exact ⟨c0, c1, h1, Ty.K_mono hr hw a _ c0 h2, Ty.K_mono hr hw b _ c1 h3⟩

theorem Ty.K_len {ro : Bl → Prop} {w : World} : ∀ {e : Ty} {x : e.D} {cs : List Value}, e.K ro w x cs → cs.length = e.size
  | .int _, _, _, h => by simp only [Ty.K] at h; subst h; rfl
  | .u8, _, _, h => by simp only [Ty.K] at h; subst h; rfl
  | .bool, _, _, h => by simp only [Ty.K] at h; subst h; rfl
  | .str, _, _, h => by simp only [Ty.K] at h; subst h; rfl
  | .slc _ e, _, _, h => by
    simp only [Ty.K] at h
    obtain ⟨A, c, rfl, _⟩ := h
    rfl
  | .hole _, _, _, h => by
    obtain ⟨u, rfl, _⟩ := h
    rfl
  | .err, _, _, h => by
    rcases h with ⟨_, rfl⟩ | ⟨_, _, _, rfl⟩ <;> rfl
  | .pair a b, x, cs, h => by
    simp only [Ty.K] at h
    obtain ⟨c0, c1, rfl, h2, h3⟩ := h
    rw [List.length_append, Ty.K_len h2, Ty.K_len h3]
    rfl

/-- Each cell is a value of one cell. -/
theorem Ty.K_one {ro : Bl → Prop} {w : World} : ∀ {t : Ty} {x : t.D} {cs : List Value}, t.K ro w x cs → ∀ u ∈ cs, u.oneCell' = true
  | .int _, _, _, h => by simp only [Ty.K] at h; subst h; simp [Value.oneCell']
  | .u8, _, _, h => by simp only [Ty.K] at h; subst h; simp [Value.oneCell']
  | .bool, _, _, h => by simp only [Ty.K] at h; subst h; simp [Value.oneCell']
  | .str, _, _, h => by simp only [Ty.K] at h; subst h; simp [strV, Value.oneCell']
  | .slc _ e, _, _, h => by
    simp only [Ty.K] at h
    obtain ⟨A, c, rfl, _⟩ := h
    simp [Value.oneCell']
  | .hole t, _, _, h => by
    obtain ⟨u, rfl, h⟩ := h
    have : u.oneCell' = true := by
      cases t with
      | int k => obtain ⟨n, rfl⟩ := h; rfl
      | u8 => obtain ⟨n, rfl⟩ := h; rfl
      | bool => obtain ⟨n, rfl⟩ := h; rfl
      | str => obtain ⟨n, rfl⟩ := h; rfl
      | _ => exact h.elim
    simp [this]
  | .err, _, _, h => by
    rcases h with ⟨_, rfl⟩ | ⟨_, _, _, rfl⟩ <;> simp [Value.oneCell']
  | .pair a b, x, cs, h => by
    simp only [Ty.K] at h
    obtain ⟨c0, c1, rfl, h2, h3⟩ := h
    intro u hu
    rcases List.mem_append.1 hu with hu | hu
    · exact Ty.K_one h2 u hu
    · exact Ty.K_one h3 u hu

/-! ### one type's values as another's -/
def Ty.scal : Ty → Bool
  | .int k => !decide (k = .u8)
  | .u8 | .bool | .str => true
  | _ => false
/-- Each value of t is one of t' (which says no more of it). -/
def Ty.sub : Ty → Ty → Bool
  | .slc k e, .slc k' e' => (decide (k = k') || decide (k' = .any)) && e.sub e'
  | .pair a b, .pair a' b' => a.sub a' && b.sub b'
  | t, .hole t' => (decide (t = t') && t.scal) || decide (t = .hole t')
  | t, t' => decide (t = t')
theorem Ty.sub_refl : ∀ t : Ty, t.sub t = true
  | .slc k e => by simp [Ty.sub, Ty.sub_refl e]
  | .pair a b => by simp [Ty.sub, Ty.sub_refl a, Ty.sub_refl b]
  | .hole t => by simp [Ty.sub]
  | .int _ | .u8 | .bool | .str | .err => by simp [Ty.sub]
theorem Ty.sub_D {t t' : Ty} (h : t.sub t' = true) : t.D = t'.D := by
  induction t, t' using Ty.sub.induct with
  | case1 k e k' e' ih =>
    simp only [Ty.sub, Bool.and_eq_true] at h
    simp only [Ty.D, ih h.2]
  | case2 a b a' b' ih1 ih2 =>
    simp only [Ty.sub, Bool.and_eq_true] at h
    simp only [Ty.D, ih1 h.1, ih2 h.2]
  | case3 t t' =>
    simp only [Ty.sub, Bool.or_eq_true, Bool.and_eq_true, decide_eq_true_eq] at h
    rcases h with h | h
    · rw [h.1]; rfl
    · rw [h]
  | case4 t t' h1 h2 h3 =>
    unfold Ty.sub at h
    split at h
    · exact absurd rfl (h1 _ _ _ _ rfl)
    · exact absurd rfl (h2 _ _ _ _ rfl)
    · exact absurd rfl (h3 _)
    · rw [of_decide_eq_true h]
theorem cast_pair {A A' B B' : Type} (ha : A = A') (hb : B = B') (h : (A × B) = (A' × B')) (x : A × B) : cast h x = (cast ha x.1, cast hb x.2) := by subst ha; subst hb; rfl
theorem cast_get {A A' : Type} (ha : A = A') (h : List A = List A') (xs : List A) (i : Nat) : (cast h xs)[i]? = (xs[i]?).map (cast ha) := by
  subst ha
  simp only [cast_eq]
  cases xs[i]? <;> rfl
theorem cast_len {A A' : Type} (ha : A = A') (h : List A = List A') (xs : List A) : (cast h xs).length = xs.length := by subst ha; rfl
theorem Ty.K_kind {ro : Bl → Prop} {w : World} : ∀ {t : Ty} {x : t.D} {cs : List Value}, t.scal = true → t.K ro w x cs → ∃ u, cs = [u] ∧ t.kind u
  | .int _, _, _, _, h => ⟨_, h, _, rfl⟩
  | .u8, _, _, _, h => ⟨_, h, _, rfl⟩
  | .bool, _, _, _, h => ⟨_, h, _, rfl⟩
  | .str, _, _, _, h => ⟨_, h, _, rfl⟩
  | .slc _ _, _, _, h, _ | .pair _ _, _, _, h, _ | .hole _, _, _, h, _ | .err, _, _, h, _ => by cases h
theorem Ty.sub_K {ro : Bl → Prop} {w : World} {t t' : Ty} (h : t.sub t' = true) {x : t.D} {cs : List Value} (hK : t.K ro w x cs) : t'.K ro w (cast (Ty.sub_D h) x) cs := by
  induction t, t' using Ty.sub.induct generalizing cs with
  | case1 k e k' e' ih =>
    have h0 := h
    simp only [Ty.sub, Bool.and_eq_true, Bool.or_eq_true, decide_eq_true_eq] at h0
    simp only [Ty.K] at hK ⊢
    obtain ⟨A, c, h1, h2, h5⟩ := hK
    have hD := Ty.sub_D h0.2
    generalize hy0 : cast (Ty.sub_D h) x = y0
    have hl : (show List e'.D from y0).length = (show List e.D from x).length := by rw [← hy0]; exact cast_len hD (Ty.sub_D h) x
    have hg : ∀ i : Nat, (show List e'.D from y0)[i]? = ((show List e.D from x)[i]?).map (cast hD) := fun i => by rw [← hy0]; exact cast_get hD (Ty.sub_D h) x i
    refine ⟨A, c, by rw [hl]; exact h1, by rw [hl]; exact h2, fun i y hy => ?_⟩
    have hy' := (hg i).symm.trans hy
    cases hx : (show List e.D from x)[i]? with
    | none => rw [hx] at hy'; cases hy'
    | some x0 =>
      rw [hx] at hy'
      obtain rfl := Option.some.inj hy'
      obtain ⟨a, us, ha, hro, hk, hc⟩ := h5 i x0 hx
      refine ⟨a, us, ha, ?_, ih h0.2 hk, fun j u hu => ?_⟩
      · rcases h0.1 with rfl | rfl
        · exact hro
        · exact hro.toAny
      · have : e'.size = e.size := (Ty.K_len (ih h0.2 hk)).symm.trans (Ty.K_len hk)
        rw [this]
        exact hc j u hu
  | case2 a b a' b' ih1 ih2 =>
    have h0 := h
    simp only [Ty.sub, Bool.and_eq_true] at h0
    simp only [Ty.K] at hK ⊢
    obtain ⟨c0, c1, h1, h2, h3⟩ := hK
    generalize hy0 : cast (Ty.sub_D h) x = y0
    have e : (show a'.D × b'.D from y0) = (cast (Ty.sub_D h0.1) (show a.D × b.D from x).1, cast (Ty.sub_D h0.2) (show a.D × b.D from x).2) := by rw [← hy0]; exact cast_pair (Ty.sub_D h0.1) (Ty.sub_D h0.2) (Ty.sub_D h) x
    refine ⟨c0, c1, h1, ?_, ?_⟩
    · rw [show (show a'.D × b'.D from y0).1 = _ from congrArg Prod.fst e]
      exact ih1 h0.1 h2
    · rw [show (show a'.D × b'.D from y0).2 = _ from congrArg Prod.snd e]
      exact ih2 h0.2 h3
  | case3 t t' =>
    have h0 := h
    simp only [Ty.sub, Bool.or_eq_true, Bool.and_eq_true, decide_eq_true_eq] at h0
    rcases h0 with h0 | h0
    · obtain ⟨u, hu, hk⟩ := Ty.K_kind h0.2 hK
      exact ⟨u, hu, by rw [← h0.1]; exact hk⟩
    · subst h0
      exact hK
  | case4 t t' h1 h2 h3 =>
    have h0 := h
    unfold Ty.sub at h0
    split at h0
    · exact absurd rfl (h1 _ _ _ _ rfl)
    · exact absurd rfl (h2 _ _ _ _ rfl)
    · exact absurd rfl (h3 _)
    · have := of_decide_eq_true h0
      subst this
      exact hK
/-- The same, wherever it may lie. -/
def Ty.toAny : Ty → Ty
  | .slc _ e => .slc .any e.toAny
  | .pair a b => .pair a.toAny b.toAny
  | t => t
theorem Ty.sub_toAny : ∀ t : Ty, t.sub t.toAny = true
  | .slc k e => by simp [Ty.sub, Ty.toAny, Ty.sub_toAny e]
  | .pair a b => by simp [Ty.sub, Ty.toAny, Ty.sub_toAny a, Ty.sub_toAny b]
  | .hole t => by simp [Ty.sub, Ty.toAny]
  | .int _ | .u8 | .bool | .str | .err => by simp [Ty.sub, Ty.toAny]

/-! ### what stays where cells are marked -/
def Like (u u' : Value) : Prop := (∀ t : Ty, t.kind u → t.kind u') ∧ ((∀ t : Ty, ¬ t.kind u) → u' = u)
theorem Like.rfl' {u : Value} : Like u u := ⟨fun _ h => h, fun _ => rfl⟩
theorem Like.trans {u u' u'' : Value} (h : Like u u') (h' : Like u' u'') : Like u u'' :=
  ⟨fun t ht => h'.1 t (h.1 t ht), fun hn => by have e := h.2 hn; subst e; exact h'.2 hn⟩
theorem Like.of {t : Ty} {u u' : Value} (ht : t.scal = true) (h : t.kind u) (h' : t.kind u') : Like u u' := by
  refine ⟨fun s hs => ?_, fun hn => absurd h (hn t)⟩
  cases t with
  | int k =>
    obtain ⟨n, rfl⟩ := h
    obtain ⟨m, rfl⟩ := h'
    cases s with
    | int k' => obtain ⟨_, e⟩ := hs; cases e; exact ⟨_, rfl⟩
    | u8 => obtain ⟨_, e⟩ := hs; cases e; simp [Ty.scal] at ht
    | bool => obtain ⟨_, e⟩ := hs; cases e
    | str => obtain ⟨_, e⟩ := hs; cases e
    | _ => exact hs.elim
  | u8 =>
    obtain ⟨n, rfl⟩ := h
    obtain ⟨m, rfl⟩ := h'
    cases s with
    | int k' => obtain ⟨_, e⟩ := hs; cases e; exact ⟨_, rfl⟩
    | u8 => exact ⟨_, rfl⟩
    | bool => obtain ⟨_, e⟩ := hs; cases e
    | str => obtain ⟨_, e⟩ := hs; cases e
    | _ => exact hs.elim
  | bool =>
    obtain ⟨n, rfl⟩ := h
    obtain ⟨m, rfl⟩ := h'
    cases s with
    | int k' => obtain ⟨_, e⟩ := hs; cases e
    | u8 => obtain ⟨_, e⟩ := hs; cases e
    | bool => exact ⟨_, rfl⟩
    | str => obtain ⟨_, e⟩ := hs; cases e
    | _ => exact hs.elim
  | str =>
    obtain ⟨n, rfl⟩ := h
    obtain ⟨m, rfl⟩ := h'
    cases s with
    | int k' => obtain ⟨_, e⟩ := hs; cases e
    | u8 => obtain ⟨_, e⟩ := hs; cases e
    | bool => obtain ⟨_, e⟩ := hs; cases e
    | str => exact ⟨_, rfl⟩
    | _ => exact hs.elim
  | slc _ _ | pair _ _ | hole _ | err => cases ht
theorem not_kind_slice {A : Option Addr} {n c : Nat} : ∀ t : Ty, ¬ t.kind (.slice A n c)
  | .int _, ⟨_, h⟩ => by cases h
  | .u8, ⟨_, h⟩ => by cases h
  | .bool, ⟨_, h⟩ => by cases h
  | .str, ⟨_, h⟩ => by cases h
  | .slc _ _, h => h
  | .pair _ _, h => h
  | .hole _, h => h
  | .err, h => h
structure Kept (ro : Bl → Prop) (w w' : World) : Prop where
  old : ∀ b, ro (b, .old) → w'.heap[b]? = w.heap[b]?
  cell : ∀ ad u, w.cell? ad = some u → ∃ u', w'.cell? ad = some u' ∧ Like u u'
  fz : ∀ b off, ro (b, .new) → w'.frozen? ⟨b, off, none⟩ = w.frozen? ⟨b, off, none⟩
theorem RoW.kept {ro : Bl → Prop} {w w' : World} (hk : Kept ro w w') {b : Nat} {k : Cls} (h : RoW ro w b k) : RoW ro w' b k := ⟨h.1, h.2.1, fun h0 off => by rw [hk.fz _ _ (h0 ▸ h.1)]; exact h.2.2 h0 off⟩
/-- m: these cells may be marked. -/
def Ty.safe : Bool → Ty → Bool
  | _, .slc k e => e.safe (!decide (k = .old))
  | m, .pair a b => a.safe m && b.safe m
  | _, .hole _ => true
  | m, _ => !m
theorem like_list {w w' : World} {a : Addr} {o : Nat} (hc : ∀ ad u, w.cell? ad = some u → ∃ u', w'.cell? ad = some u' ∧ Like u u') :
    ∀ (us : List Value) (k : Nat), (∀ (j : Nat) u, us[j]? = some u → w.cell? (a.add (o + (k + j))) = some u) → ∃ us' : List Value, us'.length = us.length ∧ (∀ (j : Nat) u, us'[j]? = some u → w'.cell? (a.add (o + (k + j))) = some u) ∧ ∀ (j : Nat) u u', us[j]? = some u → us'[j]? = some u' → Like u u'
  | [], k, _ => ⟨[], rfl, fun j u h => by simp at h, fun j u u' h => by simp at h⟩
  | v :: us, k, h => by
    obtain ⟨v', hv', hl⟩ := hc _ v (h 0 v rfl)
    obtain ⟨us', h1, h2, h3⟩ := like_list hc us (k + 1) (fun j u hu => by
      have := h (j + 1) u (by simpa using hu)
      rw [show k + 1 + j = k + (j + 1) by omega]
      exact this)
    refine ⟨v' :: us', by simp [h1], fun j u hu => ?_, fun j u u' hu hu' => ?_⟩
    · cases j with
      | zero => simp at hu; subst hu; exact hv'
      | succ j =>
        have := h2 j u (by simpa using hu)
        rw [show k + (j + 1) = k + 1 + j by omega]
        exact this
    · cases j with
      | zero => simp at hu hu'; subst hu; subst hu'; exact hl
      | succ j => exact h3 j u u' (by simpa using hu) (by simpa using hu')
theorem Ty.K_kept {ro : Bl → Prop} {w w' : World} (hk : Kept ro w w') : ∀ {t : Ty} {m : Bool} {x : t.D} {us us' : List Value}, t.safe m = true → t.K ro w x us → us'.length = us.length →
    (∀ (j : Nat) u u', us[j]? = some u → us'[j]? = some u' → if m = true then Like u u' else u' = u) → t.K ro w' x us' := by
  have sing : ∀ {us' : List Value} {u : Value}, us'.length = [u].length → ∃ u', us' = [u'] := fun {us' u} h => by
    cases us' with
    | nil => simp at h
    | cons a l =>
      cases l with
      | nil => exact ⟨a, rfl⟩
      | cons _ _ => simp at h
  intro t
  induction t with
  | int k =>
    intro m x us us' hs h hl hj
    cases m with
    | true => cases hs
    | false =>
      simp only [Ty.K] at h ⊢
      subst h
      obtain ⟨u', rfl⟩ := sing hl
      have := hj 0 _ _ rfl rfl
      simp only [Bool.false_eq_true, if_false] at this
      rw [this]
  | u8 =>
    intro m x us us' hs h hl hj
    cases m with
    | true => cases hs
    | false =>
      simp only [Ty.K] at h ⊢
      subst h
      obtain ⟨u', rfl⟩ := sing hl
      have := hj 0 _ _ rfl rfl
      simp only [Bool.false_eq_true, if_false] at this
      rw [this]
  | bool =>
    intro m x us us' hs h hl hj
    cases m with
    | true => cases hs
    | false =>
      simp only [Ty.K] at h ⊢
      subst h
      obtain ⟨u', rfl⟩ := sing hl
      have := hj 0 _ _ rfl rfl
      simp only [Bool.false_eq_true, if_false] at this
      rw [this]
  | str =>
    intro m x us us' hs h hl hj
    cases m with
    | true => cases hs
    | false =>
      simp only [Ty.K] at h ⊢
      subst h
      obtain ⟨u', rfl⟩ := sing hl
      have := hj 0 _ _ rfl rfl
      simp only [Bool.false_eq_true, if_false] at this
      rw [this]
  | err =>
    intro m x us us' hs h hl hj
    cases m with
    | true => cases hs
    | false =>
      have e : us' = us := by
        rcases h with ⟨_, rfl⟩ | ⟨_, _, _, rfl⟩ <;> (obtain ⟨u', rfl⟩ := sing hl; have := hj 0 _ _ rfl rfl; simp only [Bool.false_eq_true, if_false] at this; rw [this])
      rw [e]
      exact h
  | hole t ih =>
    intro m x us us' hs h hl hj
    simp only [Ty.K] at h ⊢
    obtain ⟨u, rfl, hu⟩ := h
    obtain ⟨u', rfl⟩ := sing hl
    have := hj 0 _ _ rfl rfl
    refine ⟨u', rfl, ?_⟩
    cases m with
    | true => exact (show Like u u' by simpa using this).1 t hu
    | false =>
      have e : u' = u := by simpa using this
      rw [e]
      exact hu
  | pair a b iha ihb =>
    intro m x us us' hs h hl hj
    simp only [Ty.safe, Bool.and_eq_true] at hs
    simp only [Ty.K] at h ⊢
    obtain ⟨c0, c1, rfl, h0, h1⟩ := h
    have hlen : c0.length ≤ us'.length := by rw [hl, List.length_append]; omega
    refine ⟨us'.take c0.length, us'.drop c0.length, (List.take_append_drop _ _).symm, iha hs.1 h0 (by rw [List.length_take, Nat.min_eq_left hlen]) (fun j u u' hu hu' => ?_), ihb hs.2 h1 (by rw [List.length_drop, hl, List.length_append]; omega) (fun j u u' hu hu' => ?_)⟩
    · have hjl := (List.getElem?_eq_some_iff.1 hu).1
      refine hj j u u' (by rw [List.getElem?_append_left hjl]; exact hu) ?_
      rw [List.getElem?_take] at hu'
      simpa [hjl] using hu'
    · refine hj (c0.length + j) u u' (by rw [List.getElem?_append_right (by omega)]; simpa using hu) ?_
      rw [List.getElem?_drop] at hu'
      exact hu'
  | slc k e ih =>
    intro m x us us' hs h hl hj
    simp only [Ty.safe] at hs
    simp only [Ty.K] at h ⊢
    obtain ⟨A, c, rfl, h2, h5⟩ := h
    obtain ⟨u', rfl⟩ := sing hl
    have h0 := hj 0 _ _ rfl rfl
    have hu : u' = .slice A (show List e.D from x).length c := by
      cases m with
      | true => exact (show Like _ u' by simpa using h0).2 not_kind_slice
      | false => simpa using h0
    refine ⟨A, c, by rw [hu], h2, fun i y hy => ?_⟩
    obtain ⟨a, us, ha, hro, hK, hc⟩ := h5 i y hy
    have hb : ∀ n, (a.add n).block = a.block := fun n => by unfold Addr.add; split <;> rfl
    by_cases hko : k = .old
    · subst hko
      refine ⟨a, us, ha, hro.kept hk, ih hs hK rfl (fun j u u' hu hu' => ?_), fun j u hu => ?_⟩
      · rw [hu] at hu'
        simpa using (Option.some.inj hu').symm
      · rw [← hc j u hu]
        exact World.cell?_of_block (by rw [hb]; exact hk.old _ hro.1)
    · obtain ⟨us2, g1, g2, g3⟩ := like_list (a := a) (o := i * e.size) hk.cell us 0 (fun j u hu => by rw [Nat.zero_add]; exact hc j u hu)
      refine ⟨a, us2, ha, hro.kept hk, ih hs hK g1 (fun j u u' hu hu' => ?_), fun j u hu => by have := g2 j u hu; rw [Nat.zero_add] at this; exact this⟩
      simpa [hko] using g3 j u u' hu hu'
end Go.Sym

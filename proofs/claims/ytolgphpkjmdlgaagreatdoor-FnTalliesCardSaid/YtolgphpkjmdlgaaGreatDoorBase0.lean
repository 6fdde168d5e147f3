import Derived.Shelf.Unicode.DecodeSlow
import Derived.WalkKit
import Derived.Deep.MidRow
import Derived.Laws.AppendOwn
import Derived.Below
import Derived.Orders
import Derived.Laws.StructEq
import Derived.Laws.Small
namespace Go.Sym
open Go.Proofs
def Tabs (w : World) : Prop := Lib.Utf8Tabs 0 1 w
end Go.Sym
namespace Go.Sym
inductive Cls where
  | any | new | old
  deriving DecidableEq
abbrev Bl := Nat × Cls
inductive Ty where
  | int (k : IntKind) | u8 | bool | str | slc (c : Cls) (e : Ty) | pair (a b : Ty) | hole (t : Ty) | err
  deriving DecidableEq
@[match_pattern] abbrev Ty.sl (e : Ty) : Ty := .slc .any e
def Ty.D : Ty → Type
  | .int _ => Int
  | .u8 => UInt8
  | .bool => Bool
  | .str => List UInt8
  | .slc _ e => List e.D
  | .pair a b => a.D × b.D
  | .hole t => t.D
  | .err => Bool
def Ty.size : Ty → Nat
  | .pair a b => a.size + b.size
  | _ => 1
theorem Ty.size_pos : ∀ e : Ty, 0 < e.size
  | .int _ | .u8 | .bool | .str | .slc _ _ | .hole _ | .err => Nat.one_pos
  | .pair a b => by simp only [Ty.size]; have := Ty.size_pos a; omega
def strV (l : List UInt8) : Value := .string ⟨⟨l⟩⟩
def Ty.kind : Ty → Value → Prop
  | .int k, u => ∃ n, u = .int k n
  | .u8, u => ∃ n : UInt8, u = .int .u8 ((UInt8.toNat n : Nat) : Int)
  | .bool, u => ∃ b, u = .bool b
  | .str, u => ∃ s, u = strV s
  | _, _ => False
def RoW (ro : Bl → Prop) (w : World) (b : Nat) (k : Cls) : Prop := ro (b, k) ∧ ro (b, .any) ∧ (k = .new → ∀ off, w.frozen? ⟨b, off, none⟩ = false)
theorem RoW.mono {ro ro' : Bl → Prop} {w w' : World} (hr : ∀ b, ro b → ro' b) (hw : ∀ b, ro b → w'.heap[b.1]? = w.heap[b.1]?) {b : Nat} {k : Cls} (h : RoW ro w b k) : RoW ro' w' b k :=
  ⟨hr _ h.1, hr _ h.2.1, fun hk off => by
    have e : w'.heap[b]? = w.heap[b]? := hw _ h.1
    have := h.2.2 hk off
    simp only [World.frozen?, e] at this ⊢
    exact this⟩
theorem RoW.toAny {ro : Bl → Prop} {w : World} {b : Nat} {k : Cls} (h : RoW ro w b k) : RoW ro w b .any := ⟨h.2.1, h.2.1, fun hk => by cases hk⟩
def Ty.K (ro : Bl → Prop) (w : World) : (t : Ty) → t.D → List Value → Prop
  | .int k, n, cs => cs = [.int k n]
  | .u8, n, cs => cs = [.int .u8 ((UInt8.toNat n : Nat) : Int)]
  | .bool, b, cs => cs = [.bool b]
  | .str, s, cs => cs = [strV s]
  | .hole t, _, cs => ∃ u, cs = [u] ∧ t.kind u
  | .err, b, cs => (b = true ∧ cs = [.nilIface]) ∨ (b = false ∧ ∃ tp p, cs = [.iface tp p])
  | .slc k e, xs, cs => ∃ A c, cs = [.slice A (show List e.D from xs).length c] ∧ (show List e.D from xs).length ≤ c ∧
      (∀ (i : Nat) (x : e.D), (show List e.D from xs)[i]? = some x → ∃ a us, A = some a ∧ RoW ro w a.block k ∧ e.K ro w x us ∧ ∀ (j : Nat) (u : Value), us[j]? = some u → w.cell? (a.add (i * e.size + j)) = some u)
  | .pair a b, x, cs => ∃ c0 c1, cs = c0 ++ c1 ∧ a.K ro w (show a.D × b.D from x).1 c0 ∧ b.K ro w (show a.D × b.D from x).2 c1
theorem Ty.K_mono {ro ro' : Bl → Prop} {w w' : World} (hr : ∀ b, ro b → ro' b) (hw : ∀ b, ro b → w'.heap[b.1]? = w.heap[b.1]?) :
    ∀ (t : Ty) (x : t.D) (cs : List Value), t.K ro w x cs → t.K ro' w' x cs
  | .int _, _, _, h => h
  | .u8, _, _, h => h
  | .bool, _, _, h => h
  | .str, _, _, h => h
  | .hole _, _, _, h => h
  | .err, _, _, h => h
  | .slc k e, xs, cs, h => by
    simp only [Ty.K] at h ⊢
    obtain ⟨A, c, h1, h2, h5⟩ := h
    refine ⟨A, c, h1, h2, fun i x hx => ?_⟩
    obtain ⟨a, us, ha, hro, hk, hc⟩ := h5 i x hx
    refine ⟨a, us, ha, hro.mono hr hw, Ty.K_mono hr hw e x us hk, fun j u hu => ?_⟩
    have hb : (a.add (i * e.size + j)).block = a.block := by unfold Addr.add; split <;> rfl
    rw [← hc j u hu]
    exact World.cell?_of_block (by rw [hb]; exact hw _ hro.1)
  | .pair a b, x, cs, h => by
    simp only [Ty.K] at h ⊢
    obtain ⟨c0, c1, h1, h2, h3⟩ := h
    exact ⟨c0, c1, h1, Ty.K_mono hr hw a _ c0 h2, Ty.K_mono hr hw b _ c1 h3⟩
theorem Ty.K_len {ro : Bl → Prop} {w : World} : ∀ {e : Ty} {x : e.D} {cs : List Value}, e.K ro w x cs → cs.length = e.size
  | .int _, _, _, h => by simp only [Ty.K] at h; subst h; rfl
  | .u8, _, _, h => by simp only [Ty.K] at h; subst h; rfl
  | .bool, _, _, h => by simp only [Ty.K] at h; subst h; rfl
  | .str, _, _, h => by simp only [Ty.K] at h; subst h; rfl
  | .slc _ e, _, _, h => by
    simp only [Ty.K] at h
    obtain ⟨A, c, rfl, _⟩ := h
    rfl
  | .hole _, _, _, h => by
    obtain ⟨u, rfl, _⟩ := h
    rfl
  | .err, _, _, h => by
    rcases h with ⟨_, rfl⟩ | ⟨_, _, _, rfl⟩ <;> rfl
  | .pair a b, x, cs, h => by
    simp only [Ty.K] at h
    obtain ⟨c0, c1, rfl, h2, h3⟩ := h
    rw [List.length_append, Ty.K_len h2, Ty.K_len h3]
    rfl
theorem Ty.K_one {ro : Bl → Prop} {w : World} : ∀ {t : Ty} {x : t.D} {cs : List Value}, t.K ro w x cs → ∀ u ∈ cs, u.oneCell' = true
  | .int _, _, _, h => by simp only [Ty.K] at h; subst h; simp [Value.oneCell']
  | .u8, _, _, h => by simp only [Ty.K] at h; subst h; simp [Value.oneCell']
  | .bool, _, _, h => by simp only [Ty.K] at h; subst h; simp [Value.oneCell']
  | .str, _, _, h => by simp only [Ty.K] at h; subst h; simp [strV, Value.oneCell']
  | .slc _ e, _, _, h => by
    simp only [Ty.K] at h
    obtain ⟨A, c, rfl, _⟩ := h
    simp [Value.oneCell']
  | .hole t, _, _, h => by
    obtain ⟨u, rfl, h⟩ := h
    have : u.oneCell' = true := by
      cases t with
      | int k => obtain ⟨n, rfl⟩ := h; rfl
      | u8 => obtain ⟨n, rfl⟩ := h; rfl
      | bool => obtain ⟨n, rfl⟩ := h; rfl
      | str => obtain ⟨n, rfl⟩ := h; rfl
      | _ => exact h.elim
    simp [this]
  | .err, _, _, h => by
    rcases h with ⟨_, rfl⟩ | ⟨_, _, _, rfl⟩ <;> simp [Value.oneCell']
  | .pair a b, x, cs, h => by
    simp only [Ty.K] at h
    obtain ⟨c0, c1, rfl, h2, h3⟩ := h
    intro u hu
    rcases List.mem_append.1 hu with hu | hu
    · exact Ty.K_one h2 u hu
    · exact Ty.K_one h3 u hu
def Ty.scal : Ty → Bool
  | .int k => !decide (k = .u8)
  | .u8 | .bool | .str => true
  | _ => false
def Ty.sub : Ty → Ty → Bool
  | .slc k e, .slc k' e' => (decide (k = k') || decide (k' = .any)) && e.sub e'
  | .pair a b, .pair a' b' => a.sub a' && b.sub b'
  | t, .hole t' => (decide (t = t') && t.scal) || decide (t = .hole t')
  | t, t' => decide (t = t')
theorem Ty.sub_D {t t' : Ty} (h : t.sub t' = true) : t.D = t'.D := by
  induction t, t' using Ty.sub.induct with
  | case1 k e k' e' ih =>
    simp only [Ty.sub, Bool.and_eq_true] at h
    simp only [Ty.D, ih h.2]
  | case2 a b a' b' ih1 ih2 =>
    simp only [Ty.sub, Bool.and_eq_true] at h
    simp only [Ty.D, ih1 h.1, ih2 h.2]
  | case3 t t' =>
    simp only [Ty.sub, Bool.or_eq_true, Bool.and_eq_true, decide_eq_true_eq] at h
    rcases h with h | h
    · rw [h.1]; rfl
    · rw [h]
  | case4 t t' h1 h2 h3 =>
    unfold Ty.sub at h
    split at h
    · exact absurd rfl (h1 _ _ _ _ rfl)
    · exact absurd rfl (h2 _ _ _ _ rfl)
    · exact absurd rfl (h3 _)
    · rw [of_decide_eq_true h]
theorem cast_pair {A A' B B' : Type} (ha : A = A') (hb : B = B') (h : (A × B) = (A' × B')) (x : A × B) : cast h x = (cast ha x.1, cast hb x.2) := by subst ha; subst hb; rfl
theorem cast_get {A A' : Type} (ha : A = A') (h : List A = List A') (xs : List A) (i : Nat) : (cast h xs)[i]? = (xs[i]?).map (cast ha) := by
  subst ha
  simp only [cast_eq]
  cases xs[i]? <;> rfl
theorem cast_len {A A' : Type} (ha : A = A') (h : List A = List A') (xs : List A) : (cast h xs).length = xs.length := by subst ha; rfl
theorem Ty.K_kind {ro : Bl → Prop} {w : World} : ∀ {t : Ty} {x : t.D} {cs : List Value}, t.scal = true → t.K ro w x cs → ∃ u, cs = [u] ∧ t.kind u
  | .int _, _, _, _, h => ⟨_, h, _, rfl⟩
  | .u8, _, _, _, h => ⟨_, h, _, rfl⟩
  | .bool, _, _, _, h => ⟨_, h, _, rfl⟩
  | .str, _, _, _, h => ⟨_, h, _, rfl⟩
  | .slc _ _, _, _, h, _ | .pair _ _, _, _, h, _ | .hole _, _, _, h, _ | .err, _, _, h, _ => by cases h
theorem Ty.sub_K {ro : Bl → Prop} {w : World} {t t' : Ty} (h : t.sub t' = true) {x : t.D} {cs : List Value} (hK : t.K ro w x cs) : t'.K ro w (cast (Ty.sub_D h) x) cs := by
  induction t, t' using Ty.sub.induct generalizing cs with
  | case1 k e k' e' ih =>
    have h0 := h
    simp only [Ty.sub, Bool.and_eq_true, Bool.or_eq_true, decide_eq_true_eq] at h0
    simp only [Ty.K] at hK ⊢
    obtain ⟨A, c, h1, h2, h5⟩ := hK
    have hD := Ty.sub_D h0.2
    generalize hy0 : cast (Ty.sub_D h) x = y0
    have hl : (show List e'.D from y0).length = (show List e.D from x).length := by rw [← hy0]; exact cast_len hD (Ty.sub_D h) x
    have hg : ∀ i : Nat, (show List e'.D from y0)[i]? = ((show List e.D from x)[i]?).map (cast hD) := fun i => by rw [← hy0]; exact cast_get hD (Ty.sub_D h) x i
    refine ⟨A, c, by rw [hl]; exact h1, by rw [hl]; exact h2, fun i y hy => ?_⟩
    have hy' := (hg i).symm.trans hy
    cases hx : (show List e.D from x)[i]? with
    | none => rw [hx] at hy'; cases hy'
    | some x0 =>
      rw [hx] at hy'
      obtain rfl := Option.some.inj hy'
      obtain ⟨a, us, ha, hro, hk, hc⟩ := h5 i x0 hx
      refine ⟨a, us, ha, ?_, ih h0.2 hk, fun j u hu => ?_⟩
      · rcases h0.1 with rfl | rfl
        · exact hro
        · exact hro.toAny
      · have : e'.size = e.size := (Ty.K_len (ih h0.2 hk)).symm.trans (Ty.K_len hk)
        rw [this]
        exact hc j u hu
  | case2 a b a' b' ih1 ih2 =>
    have h0 := h
    simp only [Ty.sub, Bool.and_eq_true] at h0
    simp only [Ty.K] at hK ⊢
    obtain ⟨c0, c1, h1, h2, h3⟩ := hK
    generalize hy0 : cast (Ty.sub_D h) x = y0
    have e : (show a'.D × b'.D from y0) = (cast (Ty.sub_D h0.1) (show a.D × b.D from x).1, cast (Ty.sub_D h0.2) (show a.D × b.D from x).2) := by rw [← hy0]; exact cast_pair (Ty.sub_D h0.1) (Ty.sub_D h0.2) (Ty.sub_D h) x
    refine ⟨c0, c1, h1, ?_, ?_⟩
    · rw [show (show a'.D × b'.D from y0).1 = _ from congrArg Prod.fst e]
      exact ih1 h0.1 h2
    · rw [show (show a'.D × b'.D from y0).2 = _ from congrArg Prod.snd e]
      exact ih2 h0.2 h3
  | case3 t t' =>
    have h0 := h
    simp only [Ty.sub, Bool.or_eq_true, Bool.and_eq_true, decide_eq_true_eq] at h0
    rcases h0 with h0 | h0
    · obtain ⟨u, hu, hk⟩ := Ty.K_kind h0.2 hK
      exact ⟨u, hu, by rw [← h0.1]; exact hk⟩
    · subst h0
      exact hK
  | case4 t t' h1 h2 h3 =>
    have h0 := h
    unfold Ty.sub at h0
    split at h0
    · exact absurd rfl (h1 _ _ _ _ rfl)
    · exact absurd rfl (h2 _ _ _ _ rfl)
    · exact absurd rfl (h3 _)
    · have := of_decide_eq_true h0
      subst this
      exact hK
def Ty.toAny : Ty → Ty
  | .slc _ e => .slc .any e.toAny
  | .pair a b => .pair a.toAny b.toAny
  | t => t
theorem Ty.sub_toAny : ∀ t : Ty, t.sub t.toAny = true
  | .slc k e => by simp [Ty.sub, Ty.toAny, Ty.sub_toAny e]
  | .pair a b => by simp [Ty.sub, Ty.toAny, Ty.sub_toAny a, Ty.sub_toAny b]
  | .hole t => by simp [Ty.sub, Ty.toAny]
  | .int _ | .u8 | .bool | .str | .err => by simp [Ty.sub, Ty.toAny]
def Like (u u' : Value) : Prop := (∀ t : Ty, t.kind u → t.kind u') ∧ ((∀ t : Ty, ¬ t.kind u) → u' = u)
theorem Like.rfl' {u : Value} : Like u u := ⟨fun _ h => h, fun _ => rfl⟩
theorem Like.trans {u u' u'' : Value} (h : Like u u') (h' : Like u' u'') : Like u u'' :=
  ⟨fun t ht => h'.1 t (h.1 t ht), fun hn => by have e := h.2 hn; subst e; exact h'.2 hn⟩
theorem Like.of {t : Ty} {u u' : Value} (ht : t.scal = true) (h : t.kind u) (h' : t.kind u') : Like u u' := by
  refine ⟨fun s hs => ?_, fun hn => absurd h (hn t)⟩
  cases t with
  | int k =>
    obtain ⟨n, rfl⟩ := h
    obtain ⟨m, rfl⟩ := h'
    cases s with
    | int k' => obtain ⟨_, e⟩ := hs; cases e; exact ⟨_, rfl⟩
    | u8 => obtain ⟨_, e⟩ := hs; cases e; simp [Ty.scal] at ht
    | bool => obtain ⟨_, e⟩ := hs; cases e
    | str => obtain ⟨_, e⟩ := hs; cases e
    | _ => exact hs.elim
  | u8 =>
    obtain ⟨n, rfl⟩ := h
    obtain ⟨m, rfl⟩ := h'
    cases s with
    | int k' => obtain ⟨_, e⟩ := hs; cases e; exact ⟨_, rfl⟩
    | u8 => exact ⟨_, rfl⟩
    | bool => obtain ⟨_, e⟩ := hs; cases e
    | str => obtain ⟨_, e⟩ := hs; cases e
    | _ => exact hs.elim
  | bool =>
    obtain ⟨n, rfl⟩ := h
    obtain ⟨m, rfl⟩ := h'
    cases s with
    | int k' => obtain ⟨_, e⟩ := hs; cases e
    | u8 => obtain ⟨_, e⟩ := hs; cases e
    | bool => exact ⟨_, rfl⟩
    | str => obtain ⟨_, e⟩ := hs; cases e
    | _ => exact hs.elim
  | str =>
    obtain ⟨n, rfl⟩ := h
    obtain ⟨m, rfl⟩ := h'
    cases s with
    | int k' => obtain ⟨_, e⟩ := hs; cases e
    | u8 => obtain ⟨_, e⟩ := hs; cases e
    | bool => obtain ⟨_, e⟩ := hs; cases e
    | str => exact ⟨_, rfl⟩
    | _ => exact hs.elim
  | slc _ _ | pair _ _ | hole _ | err => cases ht
theorem not_kind_slice {A : Option Addr} {n c : Nat} : ∀ t : Ty, ¬ t.kind (.slice A n c)
  | .int _, ⟨_, h⟩ => by cases h
  | .u8, ⟨_, h⟩ => by cases h
  | .bool, ⟨_, h⟩ => by cases h
  | .str, ⟨_, h⟩ => by cases h
  | .slc _ _, h => h
  | .pair _ _, h => h
  | .hole _, h => h
  | .err, h => h
structure Kept (ro : Bl → Prop) (w w' : World) : Prop where
  old : ∀ b, ro (b, .old) → w'.heap[b]? = w.heap[b]?
  cell : ∀ ad u, w.cell? ad = some u → ∃ u', w'.cell? ad = some u' ∧ Like u u'
  fz : ∀ b off, ro (b, .new) → w'.frozen? ⟨b, off, none⟩ = w.frozen? ⟨b, off, none⟩
theorem RoW.kept {ro : Bl → Prop} {w w' : World} (hk : Kept ro w w') {b : Nat} {k : Cls} (h : RoW ro w b k) : RoW ro w' b k := ⟨h.1, h.2.1, fun h0 off => by rw [hk.fz _ _ (h0 ▸ h.1)]; exact h.2.2 h0 off⟩
def Ty.safe : Bool → Ty → Bool
  | _, .slc k e => e.safe (!decide (k = .old))
  | m, .pair a b => a.safe m && b.safe m
  | _, .hole _ => true
  | m, _ => !m
theorem like_list {w w' : World} {a : Addr} {o : Nat} (hc : ∀ ad u, w.cell? ad = some u → ∃ u', w'.cell? ad = some u' ∧ Like u u') :
    ∀ (us : List Value) (k : Nat), (∀ (j : Nat) u, us[j]? = some u → w.cell? (a.add (o + (k + j))) = some u) → ∃ us' : List Value, us'.length = us.length ∧ (∀ (j : Nat) u, us'[j]? = some u → w'.cell? (a.add (o + (k + j))) = some u) ∧ ∀ (j : Nat) u u', us[j]? = some u → us'[j]? = some u' → Like u u'
  | [], k, _ => ⟨[], rfl, fun j u h => by simp at h, fun j u u' h => by simp at h⟩
  | v :: us, k, h => by
    obtain ⟨v', hv', hl⟩ := hc _ v (h 0 v rfl)
    obtain ⟨us', h1, h2, h3⟩ := like_list hc us (k + 1) (fun j u hu => by
      have := h (j + 1) u (by simpa using hu)
      rw [show k + 1 + j = k + (j + 1) by omega]
      exact this)
    refine ⟨v' :: us', by simp [h1], fun j u hu => ?_, fun j u u' hu hu' => ?_⟩
    · cases j with
      | zero => simp at hu; subst hu; exact hv'
      | succ j =>
        have := h2 j u (by simpa using hu)
        rw [show k + (j + 1) = k + 1 + j by omega]
        exact this
    · cases j with
      | zero => simp at hu hu'; subst hu; subst hu'; exact hl
      | succ j => exact h3 j u u' (by simpa using hu) (by simpa using hu')
theorem Ty.K_kept {ro : Bl → Prop} {w w' : World} (hk : Kept ro w w') : ∀ {t : Ty} {m : Bool} {x : t.D} {us us' : List Value}, t.safe m = true → t.K ro w x us → us'.length = us.length →
    (∀ (j : Nat) u u', us[j]? = some u → us'[j]? = some u' → if m = true then Like u u' else u' = u) → t.K ro w' x us' := by
  have sing : ∀ {us' : List Value} {u : Value}, us'.length = [u].length → ∃ u', us' = [u'] := fun {us' u} h => by
    cases us' with
    | nil => simp at h
    | cons a l =>
      cases l with
      | nil => exact ⟨a, rfl⟩
      | cons _ _ => simp at h
  intro t
  induction t with
  | int k =>
    intro m x us us' hs h hl hj
    cases m with
    | true => cases hs
    | false =>
      simp only [Ty.K] at h ⊢
      subst h
      obtain ⟨u', rfl⟩ := sing hl
      have := hj 0 _ _ rfl rfl
      simp only [Bool.false_eq_true, if_false] at this
      rw [this]
  | u8 =>
    intro m x us us' hs h hl hj
    cases m with
    | true => cases hs
    | false =>
      simp only [Ty.K] at h ⊢
      subst h
      obtain ⟨u', rfl⟩ := sing hl
      have := hj 0 _ _ rfl rfl
      simp only [Bool.false_eq_true, if_false] at this
      rw [this]
  | bool =>
    intro m x us us' hs h hl hj
    cases m with
    | true => cases hs
    | false =>
      simp only [Ty.K] at h ⊢
      subst h
      obtain ⟨u', rfl⟩ := sing hl
      have := hj 0 _ _ rfl rfl
      simp only [Bool.false_eq_true, if_false] at this
      rw [this]
  | str =>
    intro m x us us' hs h hl hj
    cases m with
    | true => cases hs
    | false =>
      simp only [Ty.K] at h ⊢
      subst h
      obtain ⟨u', rfl⟩ := sing hl
      have := hj 0 _ _ rfl rfl
      simp only [Bool.false_eq_true, if_false] at this
      rw [this]
  | err =>
    intro m x us us' hs h hl hj
    cases m with
    | true => cases hs
    | false =>
      have e : us' = us := by
        rcases h with ⟨_, rfl⟩ | ⟨_, _, _, rfl⟩ <;> (obtain ⟨u', rfl⟩ := sing hl; have := hj 0 _ _ rfl rfl; simp only [Bool.false_eq_true, if_false] at this; rw [this])
      rw [e]
      exact h
  | hole t ih =>
    intro m x us us' hs h hl hj
    simp only [Ty.K] at h ⊢
    obtain ⟨u, rfl, hu⟩ := h
    obtain ⟨u', rfl⟩ := sing hl
    have := hj 0 _ _ rfl rfl
    refine ⟨u', rfl, ?_⟩
    cases m with
    | true => exact (show Like u u' by simpa using this).1 t hu
    | false =>
      have e : u' = u := by simpa using this
      rw [e]
      exact hu
  | pair a b iha ihb =>
    intro m x us us' hs h hl hj
    simp only [Ty.safe, Bool.and_eq_true] at hs
    simp only [Ty.K] at h ⊢
    obtain ⟨c0, c1, rfl, h0, h1⟩ := h
    have hlen : c0.length ≤ us'.length := by rw [hl, List.length_append]; omega
    refine ⟨us'.take c0.length, us'.drop c0.length, (List.take_append_drop _ _).symm, iha hs.1 h0 (by rw [List.length_take, Nat.min_eq_left hlen]) (fun j u u' hu hu' => ?_), ihb hs.2 h1 (by rw [List.length_drop, hl, List.length_append]; omega) (fun j u u' hu hu' => ?_)⟩
    · have hjl := (List.getElem?_eq_some_iff.1 hu).1
      refine hj j u u' (by rw [List.getElem?_append_left hjl]; exact hu) ?_
      rw [List.getElem?_take] at hu'
      simpa [hjl] using hu'
    · refine hj (c0.length + j) u u' (by rw [List.getElem?_append_right (by omega)]; simpa using hu) ?_
      rw [List.getElem?_drop] at hu'
      exact hu'
  | slc k e ih =>
    intro m x us us' hs h hl hj
    simp only [Ty.safe] at hs
    simp only [Ty.K] at h ⊢
    obtain ⟨A, c, rfl, h2, h5⟩ := h
    obtain ⟨u', rfl⟩ := sing hl
    have h0 := hj 0 _ _ rfl rfl
    have hu : u' = .slice A (show List e.D from x).length c := by
      cases m with
      | true => exact (show Like _ u' by simpa using h0).2 not_kind_slice
      | false => simpa using h0
    refine ⟨A, c, by rw [hu], h2, fun i y hy => ?_⟩
    obtain ⟨a, us, ha, hro, hK, hc⟩ := h5 i y hy
    have hb : ∀ n, (a.add n).block = a.block := fun n => by unfold Addr.add; split <;> rfl
    by_cases hko : k = .old
    · subst hko
      refine ⟨a, us, ha, hro.kept hk, ih hs hK rfl (fun j u u' hu hu' => ?_), fun j u hu => ?_⟩
      · rw [hu] at hu'
        simpa using (Option.some.inj hu').symm
      · rw [← hc j u hu]
        exact World.cell?_of_block (by rw [hb]; exact hk.old _ hro.1)
    · obtain ⟨us2, g1, g2, g3⟩ := like_list (a := a) (o := i * e.size) hk.cell us 0 (fun j u hu => by rw [Nat.zero_add]; exact hc j u hu)
      refine ⟨a, us2, ha, hro.kept hk, ih hs hK g1 (fun j u u' hu hu' => ?_), fun j u hu => by have := g2 j u hu; rw [Nat.zero_add] at this; exact this⟩
      simpa [hko] using g3 j u u' hu hu'
end Go.Sym
namespace Go.Sym
def oBlock : Value → Option Nat
  | .slice (some a) _ (_ + 1) => some a.block
  | _ => none
theorem oBlock_own {v : Value} {b : Nat} (h : oBlock v = some b) : v.ownBlock = some b := by
  unfold oBlock at h
  split at h
  · exact h
  · cases h
def owns (w : World) (te : TypeId) (size : Nat) (v : Value) (n : Nat) (xs : List Value) : Prop := (∃ A, v = .slice A 0 0 ∧ n = 0 ∧ xs = []) ∨ w.ownsRow 0 te size v n xs
theorem owns.pos {w : World} {te : TypeId} {size n : Nat} {v : Value} {xs : List Value} (h : owns w te size v n xs) (hn : n ≠ 0) : w.ownsRow 0 te size v n xs := by
  rcases h with ⟨_, _, h, _⟩ | h
  · exact absurd h hn
  · exact h
theorem owns.norm {w : World} {te : TypeId} {size n : Nat} {v : Value} {xs : List Value} (h : owns w te size v n xs) : (∃ A, v = .slice A 0 0 ∧ n = 0 ∧ xs = []) ∨ (w.ownsRow 0 te size v n xs ∧ oBlock v = v.ownBlock) := by
  rcases h with h | h
  · exact .inl h
  · have h0 := h
    obtain ⟨h1, h2⟩ := h
    rcases h2 with ⟨rfl, rfl⟩ | ⟨g, cap, cur, rfl, h5, h6, h7, h8⟩
    · exact .inr ⟨h0, rfl⟩
    · cases cap with
      | zero =>
        have hn : n = 0 := by omega
        subst hn
        exact .inl ⟨_, rfl, rfl, List.eq_nil_of_length_eq_zero (by simpa using h1)⟩
      | succ cap => exact .inr ⟨h0, rfl⟩
theorem owns.keep {w w' : World} {te : TypeId} {size n : Nat} {v : Value} {xs : List Value} (h : owns w te size v n xs) (hb : ∀ b, oBlock v = some b → w'.heap[b]? = w.heap[b]?) : owns w' te size v n xs := by
  rcases h with h | h
  · exact .inl h
  · obtain ⟨h1, h2⟩ := h
    rcases h2 with ⟨rfl, rfl⟩ | ⟨g, cap, cur, rfl, h5, h6, h7, h8⟩
    · exact .inr ⟨h1, .inl ⟨rfl, rfl⟩⟩
    · cases cap with
      | zero =>
        have hn : n = 0 := by omega
        subst hn
        exact .inl ⟨_, rfl, rfl, List.eq_nil_of_length_eq_zero (by simpa using h1)⟩
      | succ cap => exact .inr ⟨h1, .inr ⟨g, _, cur, rfl, h5, by rw [hb g rfl]; exact h6, h7, h8⟩⟩
inductive RB where
  | box (b o : Nat) (t : TypeId) (outer : Array Value)
  | row (v : Value)
def RB.block : RB → Option Nat
  | .box b _ _ _ => some b
  | .row v => oBlock v
abbrev Env := Nat → RB
inductive CV (X : Type) where
  | v (t : Ty) (g : X → t.D)
  | nils
  | emp
  | ptr (id off : Nat)
  | row (id : Nat)
  | ep (k : Cls) (e : Ty) (g : X → e.D) (off : Nat)
  | rp (id : Nat) (e : Ty) (i : X → Nat) (off : Nat)
  | tl (id : Nat) (e : Ty) (i : X → Nat)
  | clo (f : Nat) (caps : List (Nat × Nat))
  | un
section
variable {X : Type} (x : X) (ρ : Env) (ro : Bl → Prop) (w : World)
def CV.R : CV X → Value → Prop
  | .v t g, u => t.K ro w (g x) [u]
  | .nils, u => u = .slice none 0 0
  | .emp, u => ∃ A, u = .slice A 0 0
  | .ptr id off, u => ∃ b o t outer, ρ id = .box b o t outer ∧ u = .pointer (some ⟨b, o + off, none⟩)
  | .row id, u => ρ id = .row u
  | .ep k e g off, u => ∃ (p : Addr) (us : List Value), u = .pointer (some (p.add off)) ∧ RoW ro w p.block k ∧ e.K ro w (g x) us ∧ ∀ (j : Nat) (c : Value), us[j]? = some c → w.cell? (p.add j) = some c
  | .rp id e i off, u => ∃ b n c, ρ id = .row (.slice (some ⟨b, 0, none⟩) n c) ∧ i x < n ∧ u = .pointer (some ⟨b, i x * e.size + off, none⟩)
  | .tl id e i, u => ∃ b n c, ρ id = .row (.slice (some ⟨b, 0, none⟩) n c) ∧ i x < n ∧ u = .slice (some ⟨b, i x * e.size, none⟩) (n - i x) (c - i x)
  | .clo f caps, u => ∃ av : List Value, u = .func (.func f) #[] av.toArray ∧ av.length = caps.length ∧
      ∀ (j : Nat) (c : Nat × Nat) (v : Value), caps[j]? = some c → av[j]? = some v → ∃ b o t outer, ρ c.1 = .box b o t outer ∧ v = .pointer (some ⟨b, o + c.2, none⟩)
  | .un, _ => True
def CsR : List (CV X) → List Value → Prop
  | [], [] => True
  | c :: cs, u :: us => c.R x ρ ro w u ∧ CsR cs us
  | _, _ => False
end
inductive VD (X : Type) where
  | cells (agg : Bool) (cs : List (CV X))
  | tup (l : List (Bool × List (CV X)))
section
variable {X : Type} (x : X) (ρ : Env) (ro : Bl → Prop) (w : World)
def PartR (p : Bool × List (CV X)) (u : Value) : Prop :=
  match p with
  | (true, cs) => ∃ us : List Value, u = .agg us.toArray ∧ CsR x ρ ro w cs us ∧ ∀ v ∈ us, v.oneCell' = true
  | (false, cs) => CsR x ρ ro w cs [u] ∧ u.oneCell' = true
def PartsR : List (Bool × List (CV X)) → List Value → Prop
  | [], [] => True
  | p :: ps, u :: us => PartR x ρ ro w p u ∧ PartsR ps us
  | _, _ => False
def VD.R : VD X → Value → Prop
  | .cells agg cs, u => PartR x ρ ro w (agg, cs) u
  | .tup l, u => ∃ us : List Value, u = .tuple us.toArray ∧ PartsR x ρ ro w l us
end
inductive OD (X : Type) where
  | box (cs : List (CV X))
  | row (e : Ty) (te : TypeId) (g : X → List e.D)
  | iter (g : X → List UInt8)
def RowsK (e : Ty) (ro : Bl → Prop) (w : World) (xs : List e.D) (cells : List Value) : Prop :=
  cells.length = xs.length * e.size ∧ ∀ (i : Nat) (x : e.D), xs[i]? = some x → e.K ro w x ((cells.drop (i * e.size)).take e.size)
def OD.R {X : Type} (x : X) (ρ : Env) (ro : Bl → Prop) (w : World) (id : Nat) : OD X → Prop
  | .box cs => ∃ b o t outer cur, ρ id = .box b o t outer ∧ w.heap[b]? = some (.cells cur t (0, 0)) ∧ cur.size = outer.size ∧ o + cs.length ≤ cur.size ∧
      (∀ j, j < o ∨ o + cs.length ≤ j → cur[j]? = outer[j]?) ∧
      ∃ us : List Value, us.length = cs.length ∧ (∀ (j : Nat) (u : Value), us[j]? = some u → cur[o + j]? = some u) ∧ CsR x ρ ro w cs us ∧ ∀ u ∈ us, u.oneCell' = true
  | .row e te g => ∃ h inner, ρ id = .row h ∧ owns w te e.size h (g x).length inner ∧ RowsK e ro w (g x) inner
  | .iter g => ∃ b t outer s pos, ρ id = .box b 0 t outer ∧ w.heap[b]? = some (.stringIter s pos) ∧ pos ≤ s.size ∧ g x = s.data.toList.drop pos
structure TE (X : Type) where
  ok : X → Bool
  deps : Option (List (Nat × Bool))
  vd : VD X
structure St (X : Type) where
  tmps : Nat → Option (TE X)
  objs : Nat → Option (OD X)
def isFx (i : Nat) : Bool := decide (56 ≤ i) && decide (i < 64)
theorem isFx_64 (d : Nat) : isFx (64 * d) = false := by
  cases d with
  | zero => rfl
  | succ d => simp only [isFx, Bool.and_eq_false_iff, decide_eq_false_iff_not]; omega
structure En where
  w0 : World
  lent : Nat → Prop
  ro : Nat → Prop
  hl : Nat → Prop
  od : Nat → Prop
  fx : Nat → Option RB
def VD.bool? {X : Type} : VD X → Option (X → Bool)
  | .cells false [.v .bool g] => some g
  | _ => none
def St.gv {X : Type} (σ : St X) (j : Nat) (x : X) : Option Bool := (σ.tmps j).bind fun e => e.vd.bool?.map fun g => g x
def St.Valid {X : Type} (σ : St X) (x : X) (gl : List (Nat × Bool)) : Prop := ∀ p ∈ gl, σ.gv p.1 x = some p.2
def En.cl (en : En) : Bl → Prop
  | (b, .any) => en.ro b ∨ en.w0.heap.size ≤ b ∨ en.lent b
  | (b, .new) => (en.hl b ∧ en.ro b) ∨ en.w0.heap.size ≤ b ∨ en.lent b
  | (b, .old) => (en.ro b ∧ en.od b) ∧ b < en.w0.heap.size ∧ ¬ en.lent b ∧ ¬ en.hl b
theorem En.cl_any {en : En} {b : Nat} : ∀ {k : Cls}, en.cl (b, k) → en.cl (b, .any)
  | .any, h => h
  | .new, h => h.elim (fun h => .inl h.2) .inr
  | .old, h => .inl h.1.1
def RO {X : Type} (en : En) (σ : St X) (ρ : Env) (w : World) (b : Bl) : Prop :=
  en.cl b ∧ b.1 < w.heap.size ∧ ∀ i, σ.objs i ≠ none → (ρ i).block ≠ some b.1
theorem RO.toAny {X : Type} {en : En} {σ : St X} {ρ : Env} {w : World} {b : Nat} {k : Cls} (h : RO en σ ρ w (b, k)) : RO en σ ρ w (b, .any) := ⟨En.cl_any h.1, h.2⟩
def Good (en : En) : Prop := ∀ w' : World, (∀ b, b < en.w0.heap.size → ¬ en.lent b → ¬ en.hl b → w'.heap[b]? = en.w0.heap[b]?) → Tabs w'
structure Fr (en : En) (w : World) : Prop where
  os : w.os = en.w0.os
  tape : w.tape = en.w0.tape
  output : w.output = en.w0.output
  size : en.w0.heap.size ≤ w.heap.size
  block : ∀ b, b < en.w0.heap.size → ¬ en.lent b → ¬ en.hl b → w.heap[b]? = en.w0.heap[b]?
  keep : ∀ ad u, en.hl ad.block → ¬ en.lent ad.block → en.w0.cell? ad = some u → ∃ u', w.cell? ad = some u' ∧ Like u u'
  fz : ∀ b off, en.hl b → ¬ en.lent b → b < en.w0.heap.size → w.frozen? ⟨b, off, none⟩ = en.w0.frozen? ⟨b, off, none⟩
  tb : Good en
theorem Fr.tabs {en : En} {w : World} (h : Fr en w) : Tabs w := h.tb w h.block
theorem Fr.good {en en' : En} {w : World} (h : Fr en w) (hw : en'.w0 = w) (hs : ∀ b, b < en.w0.heap.size → ¬ en.lent b → ¬ en.hl b → ¬ en'.lent b ∧ ¬ en'.hl b) : Good en' := fun w' hh =>
  h.tb w' fun b h1 h2 h3 => by
    subst hw
    exact (hh b (Nat.lt_of_lt_of_le h1 h.size) (hs b h1 h2 h3).1 (hs b h1 h2 h3).2).trans (h.block b h1 h2 h3)
structure Mem {X : Type} (en : En) (σ : St X) (x : X) (w : World) (ρ : Env) : Prop where
  ob : ∀ id od, σ.objs id = some od → od.R x ρ (RO en σ ρ w) w id
  inj : ∀ i j, σ.objs i ≠ none → σ.objs j ≠ none → i ≠ j → ∀ b, (ρ i).block = some b → (ρ j).block ≠ some b
  new : ∀ i, σ.objs i ≠ none → ∀ b, (ρ i).block = some b → b < w.heap.size ∧ (en.w0.heap.size ≤ b ∨ en.lent b)
  fr : Fr en w
  fix : ∀ i v, isFx i = true → en.fx i = some v → σ.objs i ≠ none → ρ i = v
structure Sim {X : Type} (nt : Nat) (en : En) (σ : St X) (x : X) (a : Act) (w : World) (ρ : Env) : Prop where
  tm : ∀ t e, σ.tmps t = some e → (e.ok x = true → ∃ u, a.tmps[t]? = some u ∧ e.vd.R x ρ (RO en σ ρ w) w u) ∧ (e.ok x = false → a.tmps[t]? = some undef) ∧
    ∀ l, e.deps = some l → (e.ok x = true ↔ σ.Valid x l)
  mem : Mem en σ x w ρ
  nt : a.tmps.size = nt
  df : a.defers = []
section
variable {X : Type} {x : X} {ρ ρ' : Env} {ro ro' : Bl → Prop} {w w' : World}
def CV.ids : CV X → List Nat
  | .ptr id _ | .row id | .rp id _ _ _ | .tl id _ _ => [id]
  | .clo _ caps => caps.map (·.1)
  | _ => []
theorem CV.R_mono (hr : ∀ b, ro b → ro' b) (hw : ∀ b, ro b → w'.heap[b.1]? = w.heap[b.1]?) {c : CV X} (hρ : ∀ i ∈ c.ids, ρ' i = ρ i) {u : Value} (h : c.R x ρ ro w u) : c.R x ρ' ro' w' u := by
  cases c with
  | v t g => exact Ty.K_mono hr hw t _ _ h
  | nils => exact h
  | emp => exact h
  | ptr id off =>
    obtain ⟨b, o, t, outer, h1, h2⟩ := h
    exact ⟨b, o, t, outer, by rw [hρ id (by simp [CV.ids])]; exact h1, h2⟩
  | row id => show ρ' id = _; rw [hρ id (by simp [CV.ids])]; exact h
  | ep k e g off =>
    obtain ⟨p, us, h1, h2, h3, h4⟩ := h
    refine ⟨p, us, h1, h2.mono hr hw, Ty.K_mono hr hw e _ _ h3, fun j c hc => ?_⟩
    have hb : (p.add j).block = p.block := by unfold Addr.add; split <;> rfl
    rw [← h4 j c hc]
    exact World.cell?_of_block (by rw [hb]; exact hw _ h2.1)
  | rp id e i off =>
    obtain ⟨b, n, c, h1, h2⟩ := h
    exact ⟨b, n, c, by rw [hρ id (by simp [CV.ids])]; exact h1, h2⟩
  | tl id e i =>
    obtain ⟨b, n, c, h1, h2⟩ := h
    exact ⟨b, n, c, by rw [hρ id (by simp [CV.ids])]; exact h1, h2⟩
  | clo f caps =>
    obtain ⟨av, h1, h2, h3⟩ := h
    refine ⟨av, h1, h2, fun j c v hc hv => ?_⟩
    obtain ⟨b, o, t, outer, h4, h5⟩ := h3 j c v hc hv
    exact ⟨b, o, t, outer, by rw [hρ c.1 (by simp only [CV.ids]; exact List.mem_map_of_mem (List.mem_of_getElem? hc))]; exact h4, h5⟩
  | un => trivial
theorem CsR_mono (hr : ∀ b, ro b → ro' b) (hw : ∀ b, ro b → w'.heap[b.1]? = w.heap[b.1]?) : ∀ {cs : List (CV X)} (_ : ∀ c ∈ cs, ∀ i ∈ c.ids, ρ' i = ρ i) {us : List Value}, CsR x ρ ro w cs us → CsR x ρ' ro' w' cs us
  | [], _, [], _ => trivial
  | [], _, _ :: _, h => h.elim
  | _ :: _, _, [], h => h.elim
  | c :: cs, hρ, u :: us, h => ⟨CV.R_mono hr hw (hρ c (by simp)) h.1, CsR_mono hr hw (fun c' hc' => hρ c' (List.mem_cons_of_mem _ hc')) h.2⟩
theorem CsR_len : ∀ {cs : List (CV X)} {us : List Value}, CsR x ρ ro w cs us → us.length = cs.length
  | [], [], _ => rfl
  | [], _ :: _, h => h.elim
  | _ :: _, [], h => h.elim
  | _ :: cs, _ :: us, h => by simp [CsR_len h.2]
theorem CsR_get : ∀ {cs : List (CV X)} {us : List Value}, CsR x ρ ro w cs us → ∀ {j : Nat} {c : CV X} {u : Value}, cs[j]? = some c → us[j]? = some u → c.R x ρ ro w u
  | [], [], _, j, c, u, hc, _ => by simp at hc
  | [], _ :: _, h, _, _, _, _, _ => h.elim
  | _ :: _, [], h, _, _, _, _, _ => h.elim
  | c0 :: cs, u0 :: us, h, 0, c, u, hc, hu => by simp at hc hu; subst hc; subst hu; exact h.1
  | c0 :: cs, u0 :: us, h, j + 1, c, u, hc, hu => CsR_get h.2 (by simpa using hc) (by simpa using hu)
theorem CsR_take : ∀ {cs : List (CV X)} {us : List Value}, CsR x ρ ro w cs us → ∀ n, CsR x ρ ro w (cs.take n) (us.take n)
  | [], [], _, n => by simp [CsR]
  | [], _ :: _, h, _ => h.elim
  | _ :: _, [], h, _ => h.elim
  | _ :: _, _ :: _, _, 0 => by simp [CsR]
  | _ :: _, _ :: _, h, n + 1 => ⟨h.1, CsR_take h.2 n⟩
theorem CsR_drop : ∀ {cs : List (CV X)} {us : List Value}, CsR x ρ ro w cs us → ∀ n, CsR x ρ ro w (cs.drop n) (us.drop n)
  | [], [], _, n => by simp [CsR]
  | [], _ :: _, h, _ => h.elim
  | _ :: _, [], h, _ => h.elim
  | _ :: _, _ :: _, h, 0 => h
  | _ :: _, _ :: _, h, n + 1 => CsR_drop h.2 n
theorem CsR_app : ∀ {cs cs' : List (CV X)} {us us' : List Value}, CsR x ρ ro w cs us → CsR x ρ ro w cs' us' → CsR x ρ ro w (cs ++ cs') (us ++ us')
  | [], _, [], _, _, h' => h'
  | [], _, _ :: _, _, h, _ => h.elim
  | _ :: _, _, [], _, h, _ => h.elim
  | _ :: _, _, _ :: _, _, h, h' => ⟨h.1, CsR_app h.2 h'⟩
def VD.ids : VD X → List Nat
  | .cells _ cs => cs.flatMap CV.ids
  | .tup l => l.flatMap fun p => p.2.flatMap CV.ids
def OD.ids : OD X → List Nat
  | .box cs => cs.flatMap CV.ids
  | .row _ _ _ => []
  | .iter _ => []
theorem PartR_mono (hr : ∀ b, ro b → ro' b) (hw : ∀ b, ro b → w'.heap[b.1]? = w.heap[b.1]?) {p : Bool × List (CV X)} (hρ : ∀ i ∈ p.2.flatMap CV.ids, ρ' i = ρ i) {u : Value} (h : PartR x ρ ro w p u) : PartR x ρ' ro' w' p u := by
  have h1 : ∀ c ∈ p.2, ∀ i ∈ c.ids, ρ' i = ρ i := fun c hc i hi => hρ i (List.mem_flatMap.2 ⟨c, hc, hi⟩)
  obtain ⟨b, cs⟩ := p
  cases b with
  | true =>
    obtain ⟨us, h2, h3, h4⟩ := h
    exact ⟨us, h2, CsR_mono hr hw h1 h3, h4⟩
  | false => exact ⟨CsR_mono hr hw h1 h.1, h.2⟩
theorem PartsR_mono (hr : ∀ b, ro b → ro' b) (hw : ∀ b, ro b → w'.heap[b.1]? = w.heap[b.1]?) : ∀ {l : List (Bool × List (CV X))} (_ : ∀ i ∈ l.flatMap fun p => p.2.flatMap CV.ids, ρ' i = ρ i) {us : List Value}, PartsR x ρ ro w l us → PartsR x ρ' ro' w' l us
  | [], _, [], _ => trivial
  | [], _, _ :: _, h => h.elim
  | _ :: _, _, [], h => h.elim
  | p :: l, hρ, u :: us, h => ⟨PartR_mono hr hw (fun i hi => hρ i (List.mem_flatMap.2 ⟨p, by simp, hi⟩)) h.1,
      PartsR_mono hr hw (fun i hi => hρ i (by obtain ⟨q, hq, hi⟩ := List.mem_flatMap.1 hi; exact List.mem_flatMap.2 ⟨q, List.mem_cons_of_mem _ hq, hi⟩)) h.2⟩
theorem VD.R_mono (hr : ∀ b, ro b → ro' b) (hw : ∀ b, ro b → w'.heap[b.1]? = w.heap[b.1]?) {v : VD X} (hρ : ∀ i ∈ v.ids, ρ' i = ρ i) {u : Value} (h : v.R x ρ ro w u) : v.R x ρ' ro' w' u := by
  cases v with
  | cells agg cs => exact PartR_mono (p := (agg, cs)) hr hw hρ h
  | tup l =>
    obtain ⟨us, h1, h2⟩ := h
    exact ⟨us, h1, PartsR_mono hr hw hρ h2⟩
end
end Go.Sym
namespace Go.Sym
section
variable {X : Type}
def TE.soft (t : Nat) (e : TE X) : TE X :=
  { e with deps := match e.deps with
      | some l => if l.any (fun p => p.1 == t) then none else some l
      | none => none }
def St.put (σ : St X) (t : Nat) (e : TE X) : St X :=
  { σ with tmps := fun t' => if t' = t then some e else (σ.tmps t').map (TE.soft t) }
theorem St.put_gv (σ : St X) (t : Nat) (e : TE X) (x : X) {j : Nat} (hj : j ≠ t) : (σ.put t e).gv j x = σ.gv j x := by
  unfold St.gv St.put
  simp only [hj, if_false]
  cases σ.tmps j with
  | none => rfl
  | some e' => rfl
variable {nt : Nat} {en : En} {σ : St X} {x : X} {a : Act} {w : World} {ρ : Env}
theorem Sim.put (h : Sim nt en σ x a w ρ) {t : Nat} {e : TE X} {v : Value} (ht : t < nt) (hd : ∀ l, e.deps = some l → (∀ p ∈ l, p.1 ≠ t) ∧ (e.ok x = true ↔ σ.Valid x l))
    (h1 : e.ok x = true → e.vd.R x ρ (RO en σ ρ w) w v) (h2 : e.ok x = false → v = undef) : Sim nt en (σ.put t e) x (a.put (some t) v) w ρ := by
  have hval : ∀ l : List (Nat × Bool), (∀ p ∈ l, p.1 ≠ t) → ((σ.put t e).Valid x l ↔ σ.Valid x l) := fun l hl =>
    ⟨fun hv p hp => by rw [← St.put_gv σ t e x (hl p hp)]; exact hv p hp, fun hv p hp => by rw [St.put_gv σ t e x (hl p hp)]; exact hv p hp⟩
  refine ⟨fun t' e' he => ?_, ⟨h.mem.ob, h.mem.inj, h.mem.new, h.mem.fr, h.mem.fix⟩, by simpa [Act.put] using h.nt, h.df⟩
  by_cases htt : t' = t
  · subst htt
    have he2 : e' = e := by
      have : (σ.put t' e).tmps t' = some e := by simp [St.put]
      rw [this] at he
      exact (Option.some.inj he).symm
    subst he2
    have hget : (a.put (some t') v).tmps[t']? = some v := by simp [Act.put, h.nt, ht]
    refine ⟨fun hok => ⟨v, hget, h1 hok⟩, fun hok => by rw [hget, h2 hok], fun l hl => ?_⟩
    rw [hval l (hd l hl).1]
    exact (hd l hl).2
  · have hget : (a.put (some t) v).tmps[t']? = a.tmps[t']? := by simp [Act.put, Array.getElem?_setIfInBounds_ne (Ne.symm htt)]
    have hst : (σ.put t e).tmps t' = (σ.tmps t').map (TE.soft t) := by simp [St.put, htt]
    rw [hst] at he
    cases hs : σ.tmps t' with
    | none => rw [hs] at he; cases he
    | some e0 =>
      rw [hs] at he
      obtain rfl := Option.some.inj he
      obtain ⟨g1, g2, g3⟩ := h.tm t' _ hs
      rw [hget]
      refine ⟨g1, g2, fun l hl => ?_⟩
      have hl0 : e0.deps = some l ∧ ∀ p ∈ l, p.1 ≠ t := by
        unfold TE.soft at hl
        cases hd0 : e0.deps with
        | none => simp [hd0] at hl
        | some l0 =>
          simp only [hd0] at hl
          split at hl
          · cases hl
          · rename_i hn
            obtain rfl := Option.some.inj hl
            refine ⟨rfl, fun p hp hpt => hn (List.any_eq_true.2 ⟨p, hp, by simp [hpt]⟩)⟩
      rw [hval l hl0.2]
      exact g3 l hl0.1
structure Grew (L : Nat → Prop) (w w' : World) : Prop where
  os : w'.os = w.os
  tape : w'.tape = w.tape
  output : w'.output = w.output
  size : w.heap.size ≤ w'.heap.size
  block : ∀ b, b < w.heap.size → ¬ L b → w'.heap[b]? = w.heap[b]?
theorem cell?_lt {w : World} {ad : Addr} {u : Value} (h : w.cell? ad = some u) : ad.block < w.heap.size := by
  rcases Nat.lt_or_ge ad.block w.heap.size with h' | h'
  · exact h'
  · have e : w.heap[ad.block]? = none := by simp [h']
    simp [World.cell?, e] at h
theorem Fr.grew {L : Nat → Prop} {w' : World} (h : Fr en w) (g : Grew L w w') (hL : ∀ b, L b → b < en.w0.heap.size → en.lent b) : Fr en w' := by
  refine ⟨g.os.trans h.os, g.tape.trans h.tape, g.output.trans h.output, Nat.le_trans h.size g.size, fun b hb hl hh =>
    (g.block b (Nat.lt_of_lt_of_le hb h.size) (fun hh => hl (hL b hh hb))).trans (h.block b hb hl hh), fun ad u h1 h2 h3 => ?_, fun b off h1 h2 h3 => ?_, h.tb⟩
  · obtain ⟨u', h4, h5⟩ := h.keep ad u h1 h2 h3
    refine ⟨u', ?_, h5⟩
    have hb := cell?_lt h3
    rw [← h4]
    exact World.cell?_of_block (g.block _ (Nat.lt_of_lt_of_le hb h.size) (fun hh => h2 (hL _ hh hb)))
  · rw [← h.fz b off h1 h2 h3]
    have e := g.block b (Nat.lt_of_lt_of_le h3 h.size) (fun hh => h2 (hL _ hh h3))
    simp only [World.frozen?, e]
theorem Grew.drew (w : World) : Grew (fun _ => False) w w.drew := ⟨rfl, rfl, rfl, Nat.le_refl _, fun _ _ _ => rfl⟩
theorem Grew.refl (w : World) : Grew (fun _ => False) w w := ⟨rfl, rfl, rfl, Nat.le_refl _, fun _ _ _ => rfl⟩
theorem Grew.alloc (w : World) (o : Obj) : Grew (fun _ => False) w (w.alloc o) := ⟨rfl, rfl, rfl, by simp, fun b hb _ => heap_alloc_old w o hb⟩
theorem Grew.trans {L : Nat → Prop} {w1 w2 w3 : World} (h : Grew L w1 w2) (h' : Grew L w2 w3) : Grew L w1 w3 :=
  ⟨h'.os.trans h.os, h'.tape.trans h.tape, h'.output.trans h.output, Nat.le_trans h.size h'.size, fun b hb hl => (h'.block b (Nat.lt_of_lt_of_le hb h.size) hl).trans (h.block b hb hl)⟩
theorem OD.R_mono {ro ro' : Bl → Prop} {w' : World} {ρ' : Env} {id : Nat} {od : OD X} (hr : ∀ b, ro b → ro' b) (hw : ∀ b, ro b → w'.heap[b.1]? = w.heap[b.1]?)
    (hb : ∀ b, (ρ id).block = some b → w'.heap[b]? = w.heap[b]?) (hρ : ∀ i ∈ id :: od.ids, ρ' i = ρ i) (h : od.R x ρ ro w id) : od.R x ρ' ro' w' id := by
  have hid : ρ' id = ρ id := hρ id (by simp)
  cases od with
  | box cs =>
    obtain ⟨b, o, t, outer, cur, h1, h2, h3, h4, h5, us, h6, h7, h8, h9⟩ := h
    refine ⟨b, o, t, outer, cur, hid.trans h1, ?_, h3, h4, h5, us, h6, h7, CsR_mono hr hw (fun c hc i hi => hρ i (List.mem_cons_of_mem _ (List.mem_flatMap.2 ⟨c, hc, hi⟩))) h8, h9⟩
    rw [hb b (by rw [h1]; rfl)]
    exact h2
  | row e te g =>
    obtain ⟨hd, inner, h1, h2, h3⟩ := h
    exact ⟨hd, inner, hid.trans h1, h2.keep (fun b hb' => hb b (by rw [h1]; exact hb')), h3.1, fun i y hy => Ty.K_mono hr hw e y _ (h3.2 i y hy)⟩
  | iter g =>
    obtain ⟨b, t, outer, s, pos, h1, h2, h3, h4⟩ := h
    exact ⟨b, t, outer, s, pos, hid.trans h1, by rw [hb b (by rw [h1]; rfl)]; exact h2, h3, h4⟩
theorem Mem.grew {L : Nat → Prop} {w' : World} (h : Mem en σ x w ρ) (g : Grew L w w') (hL : ∀ b, L b → (∀ k, ¬ RO en σ ρ w (b, k)) ∧ (∀ i, σ.objs i ≠ none → (ρ i).block ≠ some b) ∧ (b < en.w0.heap.size → en.lent b)) : Mem en σ x w' ρ := by
  have hro : ∀ b, RO en σ ρ w b → RO en σ ρ w' b := fun b hb => ⟨hb.1, Nat.lt_of_lt_of_le hb.2.1 g.size, hb.2.2⟩
  have hw : ∀ b, RO en σ ρ w b → w'.heap[b.1]? = w.heap[b.1]? := fun b hb => g.block b.1 hb.2.1 (fun hl => (hL b.1 hl).1 b.2 hb)
  refine ⟨fun id od ho => ?_, h.inj, fun i hi b hb => ⟨Nat.lt_of_lt_of_le (h.new i hi b hb).1 g.size, (h.new i hi b hb).2⟩, h.fr.grew g (fun b hb hlt => (hL b hb).2.2 hlt), h.fix⟩
  refine OD.R_mono hro hw (fun b hb => ?_) (fun _ _ => rfl) (h.ob id od ho)
  have hi : σ.objs id ≠ none := by rw [ho]; simp
  exact g.block b (h.new id hi b hb).1 (fun hl => (hL b hl).2.1 id hi hb)
theorem Sim.grew {L : Nat → Prop} {w' : World} (h : Sim nt en σ x a w ρ) (g : Grew L w w') (hL : ∀ b, L b → (∀ k, ¬ RO en σ ρ w (b, k)) ∧ (∀ i, σ.objs i ≠ none → (ρ i).block ≠ some b) ∧ (b < en.w0.heap.size → en.lent b)) : Sim nt en σ x a w' ρ := by
  have hro : ∀ b, RO en σ ρ w b → RO en σ ρ w' b := fun b hb => ⟨hb.1, Nat.lt_of_lt_of_le hb.2.1 g.size, hb.2.2⟩
  have hw : ∀ b, RO en σ ρ w b → w'.heap[b.1]? = w.heap[b.1]? := fun b hb => g.block b.1 hb.2.1 (fun hl => (hL b.1 hl).1 b.2 hb)
  refine ⟨fun t e he => ?_, h.mem.grew g hL, h.nt, h.df⟩
  obtain ⟨g1, g2, g3⟩ := h.tm t e he
  refine ⟨fun hok => ?_, g2, g3⟩
  obtain ⟨u, hu, hR⟩ := g1 hok
  exact ⟨u, hu, VD.R_mono hro hw (fun _ _ => rfl) hR⟩
theorem Sim.grew0 {w' : World} (h : Sim nt en σ x a w ρ) (g : Grew (fun _ => False) w w') : Sim nt en σ x a w' ρ := h.grew g (fun _ hb => hb.elim)
end
end Go.Sym
namespace Go.Sym
def forceB {α : Type} (n : Nat) : (i acc : Nat) → (Nat → α) → α
  | 0, acc, k => k acc
  | i + 1, acc, k => match Nat.beq (Nat.mod (Nat.div n (Nat.pow 2 i)) 2) 1 with
    | true => forceB n i (Nat.add (Nat.mul 2 acc) 1) k
    | false => forceB n i (Nat.mul 2 acc) k
def forceN {α : Type} (n : Nat) (k : Nat → α) : α := forceB n 21 0 k
def forceNs {α : Type} : List Nat → (List Nat → α) → α
  | [], k => k []
  | n :: l, k => forceN n fun n' => forceNs l fun l' => k (n' :: l')
theorem forceB_const {α : Type} (n : Nat) {k : Nat → α} {r : α} (h : ∀ m, k m = r) : ∀ i acc, forceB n i acc k = r
  | 0, acc => h acc
  | i + 1, acc => by
    unfold forceB
    split
    · exact forceB_const n h i _
    · exact forceB_const n h i _
def forceE {α : Type} (n : Nat) (k : Nat → α) : α := forceN n fun m => if m = n then k m else k n
theorem forceE_eq {α : Type} (n : Nat) (k : Nat → α) : forceE n k = k n := forceB_const n (fun m => by
  by_cases h : m = n
  · rw [if_pos h, h]
  · rw [if_neg h]) 21 0
def forceEs {α : Type} : List Nat → (List Nat → α) → α
  | [], k => k []
  | n :: l, k => forceE n fun n' => forceEs l fun l' => k (n' :: l')
theorem forceEs_eq {α : Type} : ∀ (l : List Nat) (k : List Nat → α), forceEs l k = k l
  | [], _ => rfl
  | n :: l, k => by rw [forceEs, forceE_eq, forceEs_eq l]
def forcePs {α : Type} : List (Nat × Nat) → (List (Nat × Nat) → α) → α
  | [], k => k []
  | p :: l, k => forceE p.1 fun a => forceE p.2 fun b => forcePs l fun l' => k ((a, b) :: l')
theorem forcePs_eq {α : Type} : ∀ (l : List (Nat × Nat)) (k : List (Nat × Nat) → α), forcePs l k = k l
  | [], _ => rfl
  | p :: l, k => by rw [forcePs, forceE_eq, forceE_eq, forcePs_eq l]
inductive Fx where
  | ptr (id off : Nat) | row (id : Nat) | clo (f : Nat) (caps : List (Nat × Nat)) | un
  deriving DecidableEq
def Fx.cv (X : Type) : Fx → CV X
  | .ptr id off => .ptr id off
  | .row id => .row id
  | .clo f caps => .clo f caps
  | .un => .un
def CV.is {X : Type} (s : Nat → Nat) : Fx → CV X → Bool
  | .un, _ => true
  | .ptr id off, .ptr id' off' => id' == s id && off' == off
  | .row id, .row id' => id' == s id
  | .clo f caps, .clo f' caps' => f' == f && caps' == caps.map fun p => (s p.1, p.2)
  | _, _ => false
inductive Sh where
  | v (t : Ty) | fx (f : Fx)
def ShT : List Sh → Type → Type
  | [], Z => Z
  | .v t :: l, Z => t.D × ShT l Z
  | .fx _ :: l, Z => ShT l Z
def shCs {Y : Type} : (l : List Sh) → {Z : Type} → (Y → ShT l Z) → List (CV Y) × (Y → Z)
  | [], _, g => ([], g)
  | .v t :: l, Z, g => let r := shCs l (Z := Z) (fun y => Prod.snd (α := t.D) (β := ShT l Z) (g y)); (.v t (fun y => Prod.fst (α := t.D) (β := ShT l Z) (g y)) :: r.1, r.2)
  | .fx f :: l, Z, g => let r := shCs l (Z := Z) g; (f.cv Y :: r.1, r.2)
def CV.toV {X : Type} (t : Ty) : CV X → Option (X → t.D)
  | .v t' g => if h : t'.sub t = true then some (fun x => cast (Ty.sub_D h) (g x)) else none
  | .nils => match t with
    | .slc _ _ => some (fun _ => [])
    | _ => none
  | _ => none
def shIn {X : Type} (s : Nat → Nat) : (l : List Sh) → List (CV X) → {Z : Type} → (X → Z) → Option (X → ShT l Z)
  | [], cs, _, m => if cs.isEmpty then some m else none
  | .v t :: l, cs, _, m => match cs with
    | [] => none
    | c :: cs => match c.toV t, shIn s l cs m with
      | some g, some k => some fun x => (g x, k x)
      | _, _ => none
  | .fx f :: l, cs, _, m => match cs with
    | [] => none
    | c :: cs => if c.is s f then shIn s l cs m else none
section
variable {X : Type} {x : X} {ρ : Env} {ro : Bl → Prop} {w : World} {s : Nat → Nat}
theorem CV.toV_R {Y : Type} {t : Ty} {c : CV X} {g : X → t.D} (h : c.toV t = some g) {u : Value} (hR : c.R x ρ ro w u) (g' : Y → t.D) (y : Y) (hy : g' y = g x) {ρ' : Env} : (CV.v t g').R y ρ' ro w u := by
  cases c with
  | v t' g0 =>
    simp only [CV.toV] at h
    split at h
    · rename_i ht
      obtain rfl := Option.some.inj h
      simp only [CV.R] at hR ⊢
      rw [hy]
      exact Ty.sub_K ht hR
    · cases h
  | nils =>
    cases t with
    | slc _ e =>
      simp only [CV.toV] at h
      obtain rfl := Option.some.inj h
      simp only [CV.R, Ty.K] at hR ⊢
      rw [hy]
      subst hR
      exact ⟨none, 0, rfl, Nat.le_refl _, fun i z hz => by simp at hz⟩
    | _ => simp [CV.toV] at h
  | _ => simp [CV.toV] at h
theorem CV.is_R {Y : Type} {f : Fx} {c : CV X} (h : c.is s f = true) {u : Value} (hR : c.R x ρ ro w u) (y : Y) : (f.cv Y).R y (fun k => ρ (s k)) ro w u := by
  cases f with
  | un => trivial
  | ptr id off =>
    cases c <;> simp [CV.is] at h
    obtain ⟨rfl, rfl⟩ := h
    exact hR
  | row id =>
    cases c <;> simp [CV.is] at h
    subst h
    exact hR
  | clo f caps =>
    cases c <;> simp [CV.is] at h
    obtain ⟨rfl, rfl⟩ := h
    obtain ⟨av, h1, h2, h3⟩ := hR
    refine ⟨av, h1, by simpa using h2, fun j c v hc hv => ?_⟩
    obtain ⟨b, o, t, outer, h4, h5⟩ := h3 j (s c.1, c.2) v (by simp [hc]) hv
    exact ⟨b, o, t, outer, h4, h5⟩
theorem shIn_R {Y : Type} : ∀ (l : List Sh) {cs : List (CV X)} {Z : Type} {m : X → Z} {k : X → ShT l Z}, shIn s l cs m = some k → ∀ (g : Y → ShT l Z) (y : Y), g y = k x →
    (shCs l g).2 y = m x ∧ ∀ us, CsR x ρ ro w cs us → CsR y (fun k => ρ (s k)) ro w (shCs l g).1 us := by
  intro l
  induction l with
  | nil =>
    intro cs Z m k h g y hy
    unfold shIn at h
    split at h
    · rename_i hc
      obtain rfl := Option.some.inj h
      have : cs = [] := by simpa using hc
      subst this
      exact ⟨hy, fun us hu => by cases us with | nil => trivial | cons _ _ => exact hu.elim⟩
    · cases h
  | cons sh l ih =>
    intro cs Z m k h g y hy
    cases cs with
    | nil => cases sh <;> simp [shIn] at h
    | cons c cs =>
      cases sh with
      | v t =>
        simp only [shIn] at h
        split at h
        · rename_i g0 k0 hg hk
          obtain rfl := Option.some.inj h
          have ih' := ih hk (fun y => Prod.snd (α := t.D) (β := ShT l Z) (g y)) y (congrArg (Prod.snd (α := t.D) (β := ShT l Z)) hy)
          refine ⟨ih'.1, fun us hu => ?_⟩
          cases us with
          | nil => exact hu.elim
          | cons u us => exact ⟨CV.toV_R hg hu.1 _ y (congrArg (Prod.fst (α := t.D) (β := ShT l Z)) hy), ih'.2 us hu.2⟩
        · cases h
      | fx f =>
        have h' : (if c.is s f = true then shIn s l cs m else none) = (some k : Option (X → ShT l Z)) := h
        by_cases hf : c.is s f = true
        · rw [if_pos hf] at h'
          have ih' := ih h' g y hy
          refine ⟨ih'.1, fun us hu => ?_⟩
          cases us with
          | nil => exact hu.elim
          | cons u us => exact ⟨CV.is_R hf hu.1 y, ih'.2 us hu.2⟩
        · rw [if_neg hf] at h'
          cases h'
end
inductive OSh where
  | box (l : List Sh)
  | row (e : Ty) (te : TypeId)
  | iter
structure JS where
  tmps : List (Nat × Bool × List Sh)
  objs : List (Nat × OSh)
def tmT : List (Nat × Bool × List Sh) → Type → Type
  | [], Z => Z
  | (_, _, l) :: ts, Z => ShT l (tmT ts Z)
def obT : List (Nat × OSh) → Type
  | [] => Unit
  | (_, .box l) :: os => ShT l (obT os)
  | (_, .row e _) :: os => List e.D × obT os
  | (_, .iter) :: os => List UInt8 × obT os
def JS.T (J : JS) : Type := tmT J.tmps (obT J.objs)
def tmSt {Y Z : Type} : (ts : List (Nat × Bool × List Sh)) → (Y → tmT ts Z) → (Nat → Option (TE Y)) × (Y → Z)
  | [], g => (fun _ => none, g)
  | (t, agg, l) :: ts, g =>
    let r := shCs l (Z := tmT ts Z) g
    let r' := tmSt ts r.2
    (fun t' => if t' = t then some ⟨fun _ => true, some [], .cells agg r.1⟩ else r'.1 t', r'.2)
def obSt {Y : Type} : (os : List (Nat × OSh)) → (Y → obT os) → Nat → Option (OD Y)
  | [], _ => fun _ => none
  | (id, .box l) :: os, g =>
    let r := shCs l (Z := obT os) g
    let r' := obSt os r.2
    fun id' => if id' = id then some (.box r.1) else r' id'
  | (id, .row e te) :: os, g =>
    let r' := obSt os (fun y => Prod.snd (α := List e.D) (β := obT os) (g y))
    fun id' => if id' = id then some (.row e te (fun y => Prod.fst (α := List e.D) (β := obT os) (g y))) else r' id'
  | (id, .iter) :: os, g =>
    let r' := obSt os (fun y => Prod.snd (α := List UInt8) (β := obT os) (g y))
    fun id' => if id' = id then some (.iter (fun y => Prod.fst (α := List UInt8) (β := obT os) (g y))) else r' id'
def JS.st (J : JS) : St J.T :=
  let r := tmSt (Y := J.T) (Z := obT J.objs) J.tmps (fun y => y)
  ⟨r.1, obSt J.objs r.2⟩
def tmIn {X Z : Type} (s : Nat → Nat) (σ : St X) : (ts : List (Nat × Bool × List Sh)) → (X → Z) → Option (X → tmT ts Z)
  | [], m => some m
  | (t, agg, l) :: ts, m => match tmIn s σ ts m with
    | none => none
    | some k => match σ.tmps t with
      | some ⟨_, some [], .cells agg' cs⟩ => if agg' = agg then shIn s l cs (Z := tmT ts Z) k else none
      | _ => none
def obIn {X : Type} (s : Nat → Nat) (σ : St X) : (os : List (Nat × OSh)) → Option (X → obT os)
  | [] => some fun _ => ()
  | (id, .box l) :: os => match obIn s σ os with
    | none => none
    | some k => match σ.objs (s id) with
      | some (.box cs) => shIn s l cs (Z := obT os) k
      | _ => none
  | (id, .row e te) :: os => match obIn s σ os with
    | none => none
    | some k => match σ.objs (s id) with
      | some (.row e' te' g) => if h : e' = e then if te' = te then some fun x => ((h ▸ g x : List e.D), k x) else none else none
      | _ => none
  | (id, .iter) :: os => match obIn s σ os with
    | none => none
    | some k => match σ.objs (s id) with
      | some (.iter g) => some fun x => (g x, k x)
      | _ => none
def renL {X : Type} : List Sh → List (CV X) → List (Nat × Nat)
  | .fx (.ptr id _) :: l, .ptr id' _ :: cs => (id, id') :: renL l cs
  | .fx (.row id) :: l, .row id' :: cs => (id, id') :: renL l cs
  | .fx (.clo _ caps) :: l, .clo _ caps' :: cs => (caps.map (·.1)).zip (caps'.map (·.1)) ++ renL l cs
  | _ :: l, _ :: cs => renL l cs
  | _, _ => []
def renS {X : Type} (σ : St X) : List (Nat × Bool × List Sh) → List (Nat × Nat)
  | [] => []
  | (t, _, l) :: ts => (match σ.tmps t with
    | some ⟨_, _, .cells _ cs⟩ => renL l cs
    | _ => []) ++ renS σ ts
def lookN (l : List (Nat × Nat)) (k : Nat) : Nat := ((l.find? (fun p => p.1 == k)).map (·.2)).getD k
def JS.renP {X : Type} (J : JS) (σ : St X) : List (Nat × Nat) :=
  forcePs (renS σ J.tmps) fun l0 => l0 ++ J.objs.flatMap fun p => match p.2, σ.objs (lookN l0 p.1) with
    | .box l, some (.box cs) => renL l cs
    | _, _ => []
def JS.ren {X : Type} (J : JS) (σ : St X) : Nat → Nat := lookN (J.renP σ)
def nodupN : List Nat → Bool
  | [] => true
  | x :: l => !l.contains x && nodupN l
theorem nodupN_map {s : Nat → Nat} : ∀ {l : List Nat}, nodupN (l.map s) = true → ∀ i ∈ l, ∀ j ∈ l, i ≠ j → s i ≠ s j
  | [], _, i, hi, _, _, _ => by cases hi
  | x :: l, h, i, hi, j, hj, hij => by
    simp only [List.map_cons, nodupN, Bool.and_eq_true, Bool.not_eq_true', List.contains_eq_mem, decide_eq_false_iff_not, List.mem_map, not_exists, not_and] at h
    rcases List.mem_cons.1 hi with rfl | hi2
    · rcases List.mem_cons.1 hj with rfl | hj'
      · exact absurd rfl hij
      · exact fun e => h.1 j hj' e.symm
    · rcases List.mem_cons.1 hj with rfl | hj'
      · exact fun e => h.1 i hi2 e
      · exact nodupN_map h.2 i hi2 j hj' hij
def JS.enter {X : Type} (J : JS) (σ : St X) : Option (X → J.T) :=
  forcePs (J.renP σ) fun l =>
  if nodupN (J.objs.map fun p => lookN l p.1) = true ∧ (J.objs.map (·.1)).all (fun i => !isFx i || lookN l i == i) = true then
    match obIn (lookN l) σ J.objs with
    | none => none
    | some k => tmIn (lookN l) σ J.tmps k
  else none
section
variable {X : Type} {nt : Nat} {en : En} {σ : St X} {x : X} {a : Act} {w : World} {ρ : Env}
theorem tmIn_R {s : Nat → Nat} {Y Z : Type} (hs : Sim nt en σ x a w ρ) {ro' : Bl → Prop} (hro : ∀ b, RO en σ ρ w b → ro' b) : ∀ (ts : List (Nat × Bool × List Sh)) {m : X → Z} {k : X → tmT ts Z}, tmIn s σ ts m = some k →
    ∀ (g : Y → tmT ts Z) (y : Y), g y = k x → (tmSt ts g).2 y = m x ∧
      ∀ t e, (tmSt ts g).1 t = some e → e.ok y = true ∧ e.deps = some [] ∧ ∃ u, a.tmps[t]? = some u ∧ e.vd.R y (fun k => ρ (s k)) ro' w u := by
  intro ts
  induction ts with
  | nil =>
    intro m k h g y hy
    obtain rfl := Option.some.inj h
    exact ⟨hy, fun t e he => by cases he⟩
  | cons p ts ih =>
    obtain ⟨t, agg, l⟩ := p
    intro m k h g y hy
    simp only [tmIn] at h
    cases hk : tmIn s σ ts m with
    | none => rw [hk] at h; cases h
    | some k0 =>
      rw [hk] at h
      simp only at h
      split at h
      · rename_i _ ok agg' cs hst
        have h' : (if agg' = agg then shIn s l cs (Z := tmT ts Z) k0 else none) = (some k : Option (X → ShT l (tmT ts Z))) := h
        by_cases hag : agg' = agg
        · rw [if_pos hag] at h'
          subst hag
          obtain ⟨h1, h2⟩ := shIn_R (x := x) (ρ := ρ) (ro := RO en σ ρ w) (w := w) l h' (Y := Y) g y hy
          obtain ⟨h3, h4⟩ := ih hk (shCs l (Z := tmT ts Z) g).2 y h1
          refine ⟨h3, fun t' e he => ?_⟩
          simp only [tmSt] at he
          by_cases htt : t' = t
          · subst htt
            rw [if_pos rfl] at he
            obtain rfl := Option.some.inj he
            obtain ⟨g1, _, g3⟩ := hs.tm t' _ hst
            have hok : ok x = true := (g3 [] rfl).2 (fun p hp => by cases hp)
            obtain ⟨u, hu, hR⟩ := g1 hok
            refine ⟨rfl, rfl, u, hu, ?_⟩
            have hR' : PartR x ρ (RO en σ ρ w) w (agg', cs) u := hR
            have goal : PartR y (fun k => ρ (s k)) (RO en σ ρ w) w (agg', (shCs l (Z := tmT ts Z) g).1) u := by
              cases agg' with
              | true =>
                obtain ⟨us, e1, e2, e3⟩ := hR'
                exact ⟨us, e1, h2 us e2, e3⟩
              | false => exact ⟨h2 [u] hR'.1, hR'.2⟩
            exact PartR_mono hro (fun _ _ => rfl) (fun _ _ => rfl) goal
          · rw [if_neg htt] at he
            exact h4 t' e he
        · rw [if_neg hag] at h'
          cases h'
      · cases h
theorem obIn_R {s : Nat → Nat} {Y : Type} (hm : Mem en σ x w ρ) {ro' : Bl → Prop} (hro : ∀ b, RO en σ ρ w b → ro' b) : ∀ (os : List (Nat × OSh)) {k : X → obT os}, obIn s σ os = some k →
    ∀ (g : Y → obT os) (y : Y), g y = k x → ∀ id od, obSt os g id = some od → id ∈ os.map (·.1) ∧ σ.objs (s id) ≠ none ∧ od.R y (fun k => ρ (s k)) ro' w id := by
  intro os
  induction os with
  | nil => intro k h g y hy id od ho; cases ho
  | cons p os ih =>
    obtain ⟨id, sh⟩ := p
    cases sh with
    | box l =>
      intro k h g y hy id' od ho
      simp only [obIn] at h
      cases hk : obIn s σ os with
      | none => rw [hk] at h; cases h
      | some k0 =>
        rw [hk] at h
        have h' : (match σ.objs (s id) with
          | some (.box cs) => shIn s l cs (Z := obT os) k0
          | _ => none) = (some k : Option (X → ShT l (obT os))) := h
        cases hst : σ.objs (s id) with
        | none => rw [hst] at h'; cases h'
        | some od0 =>
          rw [hst] at h'
          cases od0 with
          | row _ _ _ => cases h'
          | iter _ => cases h'
          | box cs =>
            simp only at h'
            obtain ⟨h1, h2⟩ := shIn_R (x := x) (ρ := ρ) (ro := RO en σ ρ w) (w := w) l h' (Y := Y) g y hy
            simp only [obSt] at ho
            by_cases hid : id' = id
            · subst hid
              rw [if_pos rfl] at ho
              obtain rfl := Option.some.inj ho
              refine ⟨by simp, by rw [hst]; simp, ?_⟩
              obtain ⟨b, o, t, outer, cur, e1, e2, e3, e4, e5, us, e6, e7, e8, e9⟩ := hm.ob (s id') _ hst
              have hl := CsR_len (h2 us e8)
              refine OD.R_mono hro (fun _ _ => rfl) (fun _ _ => rfl) (fun _ _ => rfl) ?_
              exact ⟨b, o, t, outer, cur, e1, e2, e3, by omega, fun j hj => e5 j (by omega), us, hl, e7, h2 us e8, e9⟩
            · rw [if_neg hid] at ho
              exact ⟨List.mem_cons_of_mem _ (ih hk (shCs l (Z := obT os) g).2 y h1 id' od ho).1, (ih hk (shCs l (Z := obT os) g).2 y h1 id' od ho).2⟩
    | row e te =>
      intro k h g y hy id' od ho
      simp only [obIn] at h
      cases hk : obIn s σ os with
      | none => rw [hk] at h; cases h
      | some k0 =>
        rw [hk] at h
        simp only at h
        split at h
        · rename_i _ e' te' g0 hst
          split at h
          · rename_i he
            subst he
            split at h
            · rename_i hte
              subst hte
              obtain rfl := Option.some.inj h
              simp only [obSt] at ho
              by_cases hid : id' = id
              · subst hid
                rw [if_pos rfl] at ho
                obtain rfl := Option.some.inj ho
                refine ⟨by simp, by rw [hst]; simp, ?_⟩
                have hR := OD.R_mono (ρ' := ρ) hro (fun _ _ => rfl) (fun _ _ => rfl) (fun _ _ => rfl) (hm.ob (s id') _ hst)
                obtain ⟨hd, inner, e1, e2, e3⟩ := hR
                have hg : Prod.fst (α := List e'.D) (β := obT os) (g y) = g0 x := congrArg (Prod.fst (α := List e'.D) (β := obT os)) hy
                exact ⟨hd, inner, e1, by
                  show owns w te' e'.size hd (Prod.fst (α := List e'.D) (β := obT os) (g y)).length inner
                  rw [hg]
                  exact e2, by
                  show RowsK e' ro' w (Prod.fst (α := List e'.D) (β := obT os) (g y)) inner
                  rw [hg]
                  exact e3⟩
              · rw [if_neg hid] at ho
                exact ⟨List.mem_cons_of_mem _ (ih hk (fun y => Prod.snd (α := List e'.D) (β := obT os) (g y)) y (congrArg (Prod.snd (α := List e'.D) (β := obT os)) hy) id' od ho).1, (ih hk (fun y => Prod.snd (α := List e'.D) (β := obT os) (g y)) y (congrArg (Prod.snd (α := List e'.D) (β := obT os)) hy) id' od ho).2⟩
            · cases h
          · cases h
        · cases h
    | iter =>
      intro k h g y hy id' od ho
      simp only [obIn] at h
      cases hk : obIn s σ os with
      | none => rw [hk] at h; cases h
      | some k0 =>
        rw [hk] at h
        simp only at h
        split at h
        · rename_i _ g0 hst
          obtain rfl := Option.some.inj h
          simp only [obSt] at ho
          by_cases hid : id' = id
          · subst hid
            rw [if_pos rfl] at ho
            obtain rfl := Option.some.inj ho
            refine ⟨by simp, by rw [hst]; simp, ?_⟩
            obtain ⟨b, t, outer, s0, pos, e1, e2, e3, e4⟩ := hm.ob (s id') _ hst
            have hg : Prod.fst (α := List UInt8) (β := obT os) (g y) = g0 x := congrArg (Prod.fst (α := List UInt8) (β := obT os)) hy
            exact ⟨b, t, outer, s0, pos, e1, e2, e3, by
              show Prod.fst (α := List UInt8) (β := obT os) (g y) = _
              rw [hg]
              exact e4⟩
          · rw [if_neg hid] at ho
            have h9 := ih hk (fun y => Prod.snd (α := List UInt8) (β := obT os) (g y)) y (congrArg (Prod.snd (α := List UInt8) (β := obT os)) hy) id' od ho
            exact ⟨List.mem_cons_of_mem _ h9.1, h9.2⟩
        · cases h
theorem JS.enter_R {J : JS} {m : X → J.T} (h : J.enter σ = some m) (hs : Sim nt en σ x a w ρ) : Sim nt en J.st (m x) a w (fun k => ρ (J.ren σ k)) := by
  unfold JS.enter at h
  rw [forcePs_eq] at h
  change (if nodupN (J.objs.map fun p => J.ren σ p.1) = true ∧ (J.objs.map (·.1)).all (fun i => !isFx i || J.ren σ i == i) = true then
    match obIn (J.ren σ) σ J.objs with
    | none => none
    | some k => tmIn (J.ren σ) σ J.tmps k
  else none) = some m at h
  split at h
  rotate_left
  · cases h
  rename_i hnd0
  obtain ⟨hnd, hz⟩ := hnd0
  cases hk : obIn (J.ren σ) σ J.objs with
  | none => rw [hk] at h; cases h
  | some k =>
    rw [hk] at h
    have hlive : ∀ (Y : Type) (g : Y → obT J.objs) (y : Y), g y = k x → ∀ id, obSt J.objs g id ≠ none → id ∈ J.objs.map (·.1) ∧ σ.objs (J.ren σ id) ≠ none := fun Y g y hy id hid => by
      cases ho : obSt J.objs g id with
      | none => exact absurd ho hid
      | some od => exact ⟨(obIn_R hs.mem (ro' := fun _ => True) (fun _ _ => trivial) J.objs hk g y hy id od ho).1, (obIn_R hs.mem (ro' := fun _ => True) (fun _ _ => trivial) J.objs hk g y hy id od ho).2.1⟩
    have h0 := tmIn_R hs (ro' := fun _ => True) (fun _ _ => trivial) J.tmps h (Y := J.T) (fun y => y) (m x) rfl
    have hl := hlive J.T (tmSt (Y := J.T) (Z := obT J.objs) J.tmps (fun y => y)).2 (m x) h0.1
    have hro : ∀ b, RO en σ ρ w b → RO en J.st (fun k => ρ (J.ren σ k)) w b := fun b hb => ⟨hb.1, hb.2.1, fun i hi => hb.2.2 _ (hl i hi).2⟩
    have h1 := tmIn_R hs hro J.tmps h (Y := J.T) (fun y => y) (m x) rfl
    have hnd' : nodupN ((J.objs.map (·.1)).map (J.ren σ)) = true := by rw [List.map_map]; exact hnd
    refine ⟨fun t e he => ?_, ⟨fun id od ho => ?_, fun i j hi hj hij => hs.mem.inj _ _ (hl i hi).2 (hl j hj).2 (nodupN_map hnd' i (hl i hi).1 j (hl j hj).1 hij), fun i hi => hs.mem.new _ (hl i hi).2, hs.mem.fr, fun i v hi hv h0 => ?_⟩, hs.nt, hs.df⟩
    · obtain ⟨e1, e2, e3⟩ := h1.2 t e he
      refine ⟨fun _ => e3, (fun hn => by rw [e1] at hn; cases hn), fun l hd => ?_⟩
      rw [e2] at hd
      obtain rfl := Option.some.inj hd
      exact ⟨fun _ p hp => (by cases hp), fun _ => e1⟩
    · exact (obIn_R hs.mem hro J.objs hk _ (m x) h1.1 id od ho).2.2
    · have := List.all_eq_true.1 hz i (hl i h0).1
      have hz0 : J.ren σ i = i := by simpa [hi] using this
      have h2 := (hl i h0).2
      rw [hz0] at h2
      show ρ (J.ren σ i) = v
      rw [hz0]
      exact hs.mem.fix i v hi hv h2
end
end Go.Sym
namespace Go.Sym
structure Fn (nt : Nat) {R : Type} (W : En → R → Act → World → Prop) {X : Type} (σ : St X) where
  fn : X → Option R
  ok : ∀ en r x a w ρ, fn x = some r → Sim nt en σ x a w ρ → W en r a w
@[irreducible] def obind {α β : Type} (x : Option α) (f : α → Option β) : Option β := x.bind f
theorem obind_eq {α β : Type} (x : Option α) (f : α → Option β) : obind x f = x.bind f := by unfold obind; rfl
theorem obind_congr {α β : Type} {x y : Option α} {f g : α → Option β} (h : x = y) (h2 : ∀ r, f r = g r) : obind x f = obind y g := by rw [h, show f = g from funext h2]
abbrev Fam (R : Type) := En → R → Exit → Act → World → Prop
abbrev Kont (nt : Nat) {R : Type} (W : En → R → Act → World → Prop) := ∀ (X : Type) (σ : St X), Fn nt W σ
section
variable {nt : Nat} {R : Type} {W : En → R → Act → World → Prop} {X : Type} {σ : St X}
def Fn.fail : Fn nt W σ := ⟨fun _ => none, fun _ _ _ _ _ _ h => by cases h⟩
structure Prep where
  f : {X : Type} → (J : JS) → St X → Option (X → J.T)
  ok : ∀ {X : Type} {x : X} {nt : Nat} {en : En} {σ : St X} {a : Act} {w : World} {ρ : Env} (J : JS) {m : X → J.T}, f J σ = some m → Sim nt en σ x a w ρ → ∃ ρ', Sim nt en J.st (m x) a w ρ'
def Fn.via (pr : Prep) (J : JS) (k : Fn nt W J.st) (σ : St X) : Fn nt W σ :=
  match h : pr.f J σ with
  | none => .fail
  | some m => ⟨fun x => k.fn (m x), fun en r x a w _ hf hs => by
      obtain ⟨ρ', hs'⟩ := pr.ok J h hs
      exact k.ok en r (m x) a w _ hf hs'⟩
def Kont.join (pr : Prep) (J : Option JS) (κ : Kont nt W) : Kont nt W :=
  match J with
  | none => κ
  | some J => fun _ σ => Fn.via pr J (κ J.T J.st) σ
def Fn.imp {W' : En → R → Act → World → Prop} (k : Fn nt W σ) (h : ∀ en r a w, W en r a w → W' en r a w) : Fn nt W' σ :=
  ⟨k.fn, fun en r x a w ρ hf hs => h _ _ _ _ (k.ok en r x a w ρ hf hs)⟩
end
def LoopWp (P : Program) (c : Code) (Q : Exit → Act → World → Prop) (a : Act) (w : World) : Prop :=
  ∀ (b : Frame) (k : List Item) (cs : List Frame),
    ∃ e a' w', Q e a' w' ∧ Arrives P (lone (b.at a (.code c :: .inLoop c :: k)) cs w) b k cs e a' w'
theorem LoopWp.wp {P : Program} {c : Code} {Q : Exit → Act → World → Prop} {a : Act} {w : World} (h : LoopWp P c Q a w) : (Code.loop c).wp P Q a w :=
  fun b k cs => let ⟨e, a', w', q, r⟩ := h b k cs; ⟨e, a', w', q, .of_steps (.one step_loop) r⟩
theorem LoopWp.unroll {P : Program} {c : Code} {Q : Exit → Act → World → Prop} {a : Act} {w : World} (h : c.wp P (Exit.then (LoopWp P c Q) Q) a w) : LoopWp P c Q a w := by
  intro b k cs
  obtain ⟨e, a₁, w₁, hq, harr⟩ := h b (.inLoop c :: k) cs
  cases e with
  | normal =>
    obtain ⟨e₂, a₂, w₂, hq₂, harr₂⟩ := hq b k cs
    exact ⟨e₂, a₂, w₂, hq₂, .of_steps (Steps.trans harr (.one step_inLoop)) harr₂⟩
  | exit id => exact ⟨_, a₁, w₁, hq, .pass (x := .inLoop c) rfl (fun _ _ => .inl (by simp)) harr⟩
  | goto l => exact ⟨_, a₁, w₁, hq, .pass (x := .inLoop c) rfl (fun _ _ => .inl (by simp)) harr⟩
  | ret => exact ⟨_, a₁, w₁, hq, .pass (x := .inLoop c) rfl (fun _ _ => .inl (by simp)) harr⟩
  | panic ch => exact ⟨_, a₁, w₁, hq, .pass (x := .inLoop c) rfl (fun _ _ => .inl (by simp)) harr⟩
  | outgrown => exact ⟨_, a₁, w₁, hq, .pass (x := .inLoop c) rfl (fun _ _ => .inl (by simp)) harr⟩
def first : Code → Nat
  | .region id _ _ => id
  | .seq a _ => first a
  | .cond _ a _ => first a
  | .block _ c | .loop c | .scope c => first c
  | _ => 99999
def joins : Code → Bool
  | .cond _ _ _ | .block _ _ => true
  | .seq _ d => joins d
  | _ => false
def find (hs : List (Nat × JS)) (k : Nat) : Option JS := (hs.find? (fun p => p.1 == k)).map (·.2)
def VD.bool {X : Type} : VD X → Option (X → Bool)
  | .cells false [.v .bool g] => some g
  | _ => none
def St.flag {X : Type} (σ : St X) : Operand → Option (X → Bool)
  | .tmp t => match σ.tmps t with
    | some ⟨_, some [], vd⟩ => vd.bool
    | _ => none
  | .const (.bool b) => some fun _ => b
  | _ => none
theorem St.flag_R {X : Type} {σ : St X} {c : Operand} {g : X → Bool} (h : σ.flag c = some g) {nt : Nat} {en : En} {x : X} {a : Act} {w : World} {ρ : Env} (hs : Sim nt en σ x a w ρ) : a.eval c = .bool (g x) := by
  cases c with
  | tmp t =>
    simp only [St.flag] at h
    split at h
    · rename_i _ ok vd ht
      obtain ⟨g1, _, g3⟩ := hs.tm t _ ht
      obtain ⟨u, hu, hR⟩ := g1 ((g3 [] rfl).2 (fun p hp => by cases hp))
      unfold VD.bool at h
      split at h
      · cases h
        have h2 : Ty.bool.K (RO en σ ρ w) w (g x) [u] := hR.1.1
        simp only [Ty.K, List.cons.injEq, and_true] at h2
        simp [Act.eval, hu, h2]
      · cases h
    · cases h
  | const v =>
    cases v with
    | bool b => simp only [St.flag] at h; obtain rfl := Option.some.inj h; rfl
    | _ => simp [St.flag] at h
  | global _ => simp [St.flag] at h
  | func _ => simp [St.flag] at h
section
variable (P : Program) (nt : Nat) {R : Type}
abbrev Reg := ∀ (id : Nat) (os : Array Oper) (draw : Bool) (Q : Fam R) (_ : Kont nt (fun en r => Q en r .normal)) (X : Type) (σ : St X), Fn nt (fun en r => (Code.region id os draw).wp P (Q en r)) σ
def loopFn {X : Type} {W : En → R → Act → World → Prop} {σ : St X} (B : Fn nt W σ → Fn nt W σ) : Nat → Fn nt W σ
  | 0 => .fail
  | m + 1 => B (loopFn B m)
def exec (pr : Prep) (reg : Reg P nt (R := R)) (n : Nat) (hs : List (Nat × JS)) : (c : Code) → (Q : Fam R) → (∀ id, Kont nt (fun en r => Q en r (.exit id))) → Kont nt (fun en r => Q en r .ret) → Kont nt (fun en r => Q en r .normal) →
    (X : Type) → (σ : St X) → Fn nt (fun en r => c.wp P (Q en r)) σ
  | .skip, _, _, _, κ, X, σ => (κ X σ).imp fun _ _ _ _ h => wp_skip h
  | .region id os draw, Q, _, _, κ, X, σ => reg id os draw Q κ X σ
  | .seq c d, Q, E, rt, κ, X, σ =>
    let κd : Kont nt (fun en r => d.wp P (Q en r)) := exec pr reg n hs d Q E rt κ
    let κd' := Kont.join pr (find hs (if joins c then first d else 300000 + first d)) κd
    (exec pr reg n hs c (fun en r => Exit.then (d.wp P (Q en r)) (Q en r)) E rt κd' X σ).imp fun _ _ _ _ h => wp_seq h
  | .cond t c d, Q, E, rt, κ, X, σ =>
    match h : σ.flag t with
    | none => .fail
    | some g =>
      let f1 := exec pr reg n hs c Q E rt κ X σ
      let f2 := exec pr reg n hs d Q E rt κ X σ
      ⟨fun x => if g x = true then f1.fn x else f2.fn x, fun en r x a w ρ hf hsim => by
        have he := St.flag_R h hsim
        by_cases hg : g x = true
        · rw [if_pos hg] at hf
          exact wp_cond_true (by rw [he, hg]) (f1.ok en r x a w ρ hf hsim)
        · rw [if_neg hg] at hf
          have hg' : g x = false := by simpa using hg
          exact wp_cond_false (by rw [he, hg']) (f2.ok en r x a w ρ hf hsim)⟩
  | .block id c, Q, E, rt, κ, X, σ =>
    (exec pr reg n hs c (fun en r => Exit.inBlock id (Q en r))
      (fun id' X' σ' => ⟨fun x => if id' = id then (κ X' σ').fn x else (E id' X' σ').fn x, fun en r x a w ρ hf hsim => by
        show Exit.inBlock id (Q en r) (.exit id') a w
        simp only [Exit.inBlock]
        by_cases hid : id' = id
        · rw [if_pos hid] at hf ⊢
          exact (κ X' σ').ok en r x a w ρ hf hsim
        · rw [if_neg hid] at hf ⊢
          exact (E id' X' σ').ok en r x a w ρ hf hsim⟩) rt κ X σ).imp fun _ _ _ _ h => wp_block h
  | .loop c, Q, E, rt, _, X, σ =>
    match find hs (100000 + first c) with
    | none => .fail
    | some J =>
      (Fn.via pr J (loopFn nt (W := fun en r => LoopWp P c (Q en r)) (σ := J.st) (fun k =>
        (exec pr reg n hs c (fun en r => Exit.then (LoopWp P c (Q en r)) (Q en r)) E rt (fun _ σ' => Fn.via pr J k σ') J.T J.st).imp fun _ _ _ _ h => LoopWp.unroll h) n) σ).imp fun _ _ _ _ h => h.wp
  | .exit id, _, E, _, _, X, σ => (E id X σ).imp fun _ _ _ _ h => wp_exit h
  | .ret, _, _, rt, _, X, σ => (rt X σ).imp fun _ _ _ _ h => wp_ret h
  | _, _, _, _, _, _, _ => .fail
end
structure MemR {X : Type} (ro : Bl → Prop) (σ : St X) (x : X) (w : World) (ρ : Env) : Prop where
  ob : ∀ id od, σ.objs id = some od → od.R x ρ ro w id
structure SimR {X : Type} (ro : Bl → Prop) (σ : St X) (x : X) (a : Act) (w : World) (ρ : Env) : Prop where
  tm : ∀ t e, σ.tmps t = some e → (e.ok x = true → ∃ u, a.tmps[t]? = some u ∧ e.vd.R x ρ ro w u) ∧ (e.ok x = false → a.tmps[t]? = some undef) ∧
    ∀ l, e.deps = some l → (e.ok x = true ↔ σ.Valid x l)
  mem : MemR ro σ x w ρ
theorem Sim.toR {X : Type} {nt : Nat} {en : En} {σ : St X} {x : X} {a : Act} {w : World} {ρ : Env} (h : Sim nt en σ x a w ρ) : SimR (RO en σ ρ w) σ x a w ρ := ⟨h.tm, ⟨h.mem.ob⟩⟩
theorem Mem.toR {X : Type} {en : En} {σ : St X} {x : X} {w : World} {ρ : Env} (h : Mem en σ x w ρ) : MemR (RO en σ ρ w) σ x w ρ := ⟨h.ob⟩
end Go.Sym
namespace Go.Sym
section
variable {X : Type}
def subD (l l' : List (Nat × Bool)) : Bool := l.all fun p => l'.contains p
theorem subD_mem {l l' : List (Nat × Bool)} (h : subD l l' = true) : ∀ p ∈ l, p ∈ l' := fun p hp => by
  have := List.all_eq_true.1 h p hp
  simpa using this
theorem Valid_sub {σ : St X} {x : X} {l l' : List (Nat × Bool)} (h : subD l l' = true) (hv : σ.Valid x l') : σ.Valid x l := fun p hp => hv p (subD_mem h p hp)
def constVD : Value → Option (VD X)
  | .int .u8 n => if 0 ≤ n ∧ n < 256 then some (.cells false [.v .u8 (fun _ => UInt8.ofNat n.toNat)]) else none
  | .int k n => some (.cells false [.v (.int k) (fun _ => n)])
  | .bool b => some (.cells false [.v .bool (fun _ => b)])
  | .string s => some (.cells false [.v .str (fun _ => s.data.toList)])
  | .slice none 0 0 => some (.cells false [.nils])
  | .pointer none => some (.cells false [.un])
  | _ => none
def St.opnd (σ : St X) (deps : List (Nat × Bool)) : Operand → Option (VD X)
  | .tmp t => match σ.tmps t with
    | some ⟨_, some l, vd⟩ => if subD l deps then some vd else none
    | _ => none
  | .const v => constVD v
  | .func f => some (.cells false [.clo f []])
  | _ => none
variable {x : X} {ρ : Env} {ro : Bl → Prop} {w : World}
theorem VD.R_one {c : CV X} {u : Value} (h : c.R x ρ ro w u) (h1 : u.oneCell' = true) : (VD.cells false [c]).R x ρ ro w u := ⟨⟨h, trivial⟩, h1⟩
theorem VD.one_R {c : CV X} {u : Value} (h : (VD.cells false [c]).R x ρ ro w u) : c.R x ρ ro w u := h.1.1
theorem u8_of {n : Int} (h : 0 ≤ n ∧ n < 256) : (((UInt8.ofNat n.toNat).toNat : Nat) : Int) = n := by
  simp only [UInt8.toNat_ofNat']
  omega
theorem constVD_R {v : Value} {d : VD X} (h : constVD v = some d) : d.R x ρ ro w v := by
  unfold constVD at h
  split at h
  · split at h
    · rename_i hn
      obtain rfl := Option.some.inj h
      exact VD.R_one (by simp only [CV.R, Ty.K, u8_of hn]) rfl
    · cases h
  · obtain rfl := Option.some.inj h
    exact VD.R_one (by simp only [CV.R, Ty.K]) rfl
  · obtain rfl := Option.some.inj h
    exact VD.R_one (by simp only [CV.R, Ty.K]) rfl
  · obtain rfl := Option.some.inj h
    exact VD.R_one (by simp only [CV.R, Ty.K]; rfl) rfl
  · obtain rfl := Option.some.inj h
    exact VD.R_one rfl rfl
  · obtain rfl := Option.some.inj h
    exact VD.R_one trivial rfl
  · cases h
variable {nt : Nat} {en : En} {σ : St X} {a : Act}
theorem opnd_Rr {deps : List (Nat × Bool)} {o : Operand} {d : VD X} (h : σ.opnd deps o = some d) (hs : SimR ro σ x a w ρ) (hv : σ.Valid x deps) : d.R x ρ ro w (a.eval o) := by
  cases o with
  | tmp t =>
    simp only [St.opnd] at h
    split at h
    · rename_i _ ok l vd ht
      split at h
      · rename_i hsub
        obtain rfl := Option.some.inj h
        obtain ⟨g1, _, g3⟩ := hs.tm t _ ht
        obtain ⟨u, hu, hR⟩ := g1 ((g3 l rfl).2 (Valid_sub hsub hv))
        have : a.eval (.tmp t) = u := by simp [Act.eval, hu]
        rw [this]
        exact hR
      · cases h
    · cases h
  | const v => exact constVD_R h
  | global _ => simp [St.opnd] at h
  | func f =>
    simp only [St.opnd] at h
    obtain rfl := Option.some.inj h
    exact VD.R_one ⟨[], rfl, rfl, fun j c v hc => by simp at hc⟩ rfl
def St.guardOf (σ : St X) (os : Array Oper) (o : Oper) : Option ((X → Bool) × List (Nat × Bool)) :=
  match o.guard with
  | none => some (fun _ => true, [])
  | some (j, want) =>
    match (os[j]?).bind (·.dst) with
    | none => none
    | some t => match σ.tmps t with
      | some ⟨okj, some lj, vd⟩ => match vd.bool? with
        | some g => some (fun x => okj x && (g x == want), (t, want) :: lj)
        | none => none
      | _ => none
theorem bool?_R {vd : VD X} {g : X → Bool} (h : vd.bool? = some g) {u : Value} (hR : vd.R x ρ ro w u) : u = .bool (g x) := by
  unfold VD.bool? at h
  split at h
  · cases h
    have h2 : Ty.bool.K ro w (g x) [u] := VD.one_R hR
    simpa [Ty.K] using h2
  · cases h
theorem guardOf_Rr {os : Array Oper} {o : Oper} {ok : X → Bool} {deps : List (Nat × Bool)} (h : σ.guardOf os o = some (ok, deps)) (hs : SimR ro σ x a w ρ) :
    (ok x = true ↔ σ.Valid x deps) ∧ Region.wanted o (yielded os a.tmps) = ok x := by
  unfold St.guardOf at h
  split at h
  · rename_i hg
    cases h
    exact ⟨⟨(fun _ p hp => (by cases hp)), fun _ => rfl⟩, by simp [Region.wanted, hg]⟩
  · rename_i j want hg
    split at h
    · cases h
    · rename_i t ht
      split at h
      · rename_i _ okj lj vd hst
        split at h
        · rename_i g hb
          cases h
          obtain ⟨g1, g2, g3⟩ := hs.tm t _ hst
          have hgv : σ.gv t x = some (g x) := by simp [St.gv, hst, hb]
          have hval : ((okj x && (g x == want)) = true ↔ σ.Valid x ((t, want) :: lj)) := by
            rw [Bool.and_eq_true]
            constructor
            · rintro ⟨e1, e2⟩ p hp
              rcases List.mem_cons.1 hp with rfl | hp
              · rw [hgv]; simpa using e2
              · exact (g3 lj rfl).1 e1 p hp
            · intro hv
              refine ⟨(g3 lj rfl).2 (fun p hp => hv p (List.mem_cons_of_mem _ hp)), ?_⟩
              have := hv (t, want) (by simp)
              rw [hgv] at this
              simpa using this
          refine ⟨hval, ?_⟩
          have hy : yielded os a.tmps j = if okj x = true then some (g x) else none := by
            unfold yielded
            rw [ht]
            cases hok : okj x with
            | true =>
              obtain ⟨u, hu, hR⟩ := g1 hok
              have := bool?_R hb hR
              simp [hu, this]
            | false =>
              have := g2 hok
              simp [this, undef]
          simp only [Region.wanted, hg, hy]
          cases okj x <;> simp
        · cases h
      · cases h
def CV.num : CV X → Option (IntKind × (X → Int))
  | .v (.int k) g => if k = .u8 then none else some (k, g)
  | .v .u8 g => some (.u8, fun x => ((UInt8.toNat (g x) : Nat) : Int))
  | _ => none
def mkNum (k : IntKind) (g : X → Int) : CV X :=
  match k with
  | .u8 => .v .u8 (fun x => UInt8.ofNat (g x).toNat)
  | k => .v (.int k) g
theorem num_R {c : CV X} {k : IntKind} {g : X → Int} (h : c.num = some (k, g)) {u : Value} (hR : c.R x ρ ro w u) : u = .int k (g x) := by
  unfold CV.num at h
  split at h
  · split at h
    · cases h
    · cases h
      simpa [CV.R, Ty.K] using hR
  · cases h
    simpa [CV.R, Ty.K] using hR
  · cases h
theorem num_u8 {c : CV X} {g : X → Int} (h : c.num = some (.u8, g)) (x : X) : 0 ≤ g x ∧ g x < 256 := by
  unfold CV.num at h
  split at h
  · split at h
    · cases h
    · rename_i hne
      cases h
      exact absurd rfl hne
  · rename_i g0
    cases h
    have h1 : UInt8.toNat (g0 x) < 256 := UInt8.toNat_lt (g0 x)
    show 0 ≤ ((UInt8.toNat (g0 x) : Nat) : Int) ∧ ((UInt8.toNat (g0 x) : Nat) : Int) < 256
    omega
  · cases h
theorem mkNum_R {k : IntKind} {g : X → Int} (h : k = .u8 → 0 ≤ g x ∧ g x < 256) : (mkNum k g).R x ρ ro w (.int k (g x)) := by
  cases k with
  | u8 => simp only [mkNum, CV.R, Ty.K, u8_of (h rfl)]
  | _ => simp only [mkNum, CV.R, Ty.K]
theorem wrap_u8 (n : Int) : 0 ≤ IntKind.u8.wrap n ∧ IntKind.u8.wrap n < 256 := by
  simp only [IntKind.wrap, IntKind.signed, IntKind.bits]
  simp
  omega
end
end Go.Sym
namespace Go.Sym
section
variable {X : Type}
abbrev VR (X : Type) := Option (Option (X → Bool) × VD X)
def one (c : CV X) : VR X := some (none, .cells false [c])
def oneIf (g : X → Bool) (c : CV X) : VR X := some (some g, .cells false [c])
def bitF (op : BinOp) (k : IntKind) (a b : Int) : Int :=
  match op with
  | .and => k.wrap ((BitVec.ofInt k.bits a &&& BitVec.ofInt k.bits b).toNat : Int)
  | .or => k.wrap ((BitVec.ofInt k.bits a ||| BitVec.ofInt k.bits b).toNat : Int)
  | .xor => k.wrap ((BitVec.ofInt k.bits a ^^^ BitVec.ofInt k.bits b).toNat : Int)
  | _ => k.wrap ((BitVec.ofInt k.bits a &&& ~~~ BitVec.ofInt k.bits b).toNat : Int)
def binNum (op : BinOp) (k : IntKind) (safe : Bool) (f g : X → Int) : VR X :=
  match op with
  | .add => one (mkNum k fun x => k.wrap (f x + g x))
  | .sub => one (mkNum k fun x => k.wrap (f x - g x))
  | .mul => one (mkNum k fun x => k.wrap (f x * g x))
  | .quo => if safe then one (mkNum k fun x => k.wrap ((f x).tdiv (g x))) else oneIf (fun x => g x != 0) (mkNum k fun x => k.wrap ((f x).tdiv (g x)))
  | .rem => if safe then one (mkNum k fun x => (f x).tmod (g x)) else oneIf (fun x => g x != 0) (mkNum k fun x => (f x).tmod (g x))
  | .and => one (mkNum k fun x => bitF .and k (f x) (g x))
  | .or => one (mkNum k fun x => bitF .or k (f x) (g x))
  | .xor => one (mkNum k fun x => bitF .xor k (f x) (g x))
  | .andNot => one (mkNum k fun x => bitF .andNot k (f x) (g x))
  | .eql => one (.v .bool fun x => f x == g x)
  | .neq => one (.v .bool fun x => f x != g x)
  | .lss => one (.v .bool fun x => decide (f x < g x))
  | .leq => one (.v .bool fun x => decide (f x ≤ g x))
  | .gtr => one (.v .bool fun x => decide (f x > g x))
  | .geq => one (.v .bool fun x => decide (f x ≥ g x))
  | _ => none
def shiftNum (op : BinOp) (k : IntKind) (safe : Bool) (f g : X → Int) : VR X :=
  let c : VR X := match op with
    | .shl => one (mkNum k fun x => k.wrap (f x * 2 ^ min (g x).toNat k.bits))
    | .shr => one (mkNum k fun x => (f x).fdiv (2 ^ min (g x).toNat k.bits))
    | _ => none
  if safe then c else c.map fun r => (some fun x => decide (0 ≤ g x), r.2)
def binStr (op : BinOp) (f g : X → List UInt8) : VR X :=
  match op with
  | .add => oneIf (fun x => decide ((f x).length + (g x).length ≤ 9223372036854775807)) (.v .str fun x => f x ++ g x)
  | .eql => one (.v .bool fun x => f x == g x)
  | .neq => one (.v .bool fun x => !(f x == g x))
  | .lss => one (.v .bool fun x => Op.bytesLess (f x) (g x))
  | .leq => one (.v .bool fun x => Op.bytesLess (f x) (g x) || (f x == g x))
  | .gtr => one (.v .bool fun x => !(Op.bytesLess (f x) (g x) || (f x == g x)))
  | .geq => one (.v .bool fun x => !Op.bytesLess (f x) (g x))
  | _ => none
def isShift : BinOp → Bool
  | .shl | .shr => true
  | _ => false
def safeOp (op : BinOp) : Operand → Bool
  | .const (.int _ n) => if isShift op then decide (0 ≤ n) else n != 0
  | _ => false
def isNilI : Operand → Bool
  | .const .nilIface => true
  | _ => false
def valErr (P : Program) (op : BinOp) (t : TypeId) : VD X → VR X
  | .cells false [.v .err f] => match P.underlying t with
    | some (.interface _) => match op with
      | .neq => one (.v .bool fun x => !(show Bool from f x))
      | .eql => one (.v .bool fun x => (show Bool from f x))
      | _ => none
    | _ => none
  | _ => none
def eqCell (P : Program) (t : TypeId) (c d : CV X) : Option (X → Bool) :=
  match c.num, d.num with
  | some (k, f), some (k', g) => match P.underlying t with
    | some (.int _) => if k = k' then some fun x => f x == g x else none
    | _ => none
  | _, _ => match c, d with
    | .v .str f, .v .str g => match P.underlying t with
      | some .string => some fun x => (show List UInt8 from f x) == g x
      | _ => none
    | .v .bool f, .v .bool g => match P.underlying t with
      | some .bool => some fun x => (show Bool from f x) == g x
      | _ => none
    | _, _ => none
def eqCells (P : Program) : Nat → List Field → List (CV X) → List (CV X) → Option (X → Bool)
  | _, [], [], [] => some fun _ => true
  | i, f :: fs, c :: cs, d :: ds => if f.name ≠ "_" then (if f.offset = i then (match eqCell P f.type c d, eqCells P (i + 1) fs cs ds with
    | some q, some r => some fun x => q x && r x
    | _, _ => none) else none) else none
  | _, _, _, _ => none
def valEq (P : Program) (op : BinOp) (t : TypeId) (cs ds : List (CV X)) : VR X :=
  if (!P.stoodInHeld t && !P.eqGuardType P.depth t) = true then match P.underlying t with
    | some (.struct fs) => match eqCells P 0 fs.toList cs ds with
      | some q => match op with
        | .eql => one (.v .bool q)
        | .neq => one (.v .bool fun x => !q x)
        | _ => none
      | none => none
    | _ => none
  else none
def valBin (P : Program) (op : BinOp) (t : TypeId) (safe : Bool) : VD X → VD X → VR X
  | .cells true cs, .cells true ds => valEq P op t cs ds
  | .cells false [c], .cells false [d] =>
    match c.num, d.num with
    | some (k, f), some (k', g) => if isShift op then shiftNum op k safe f g else if k = k' then binNum op k safe f g else none
    | _, _ => match c, d with
      | .v .str f, .v .str g => binStr op f g
      | .v .bool f, .v .bool g => match P.underlying t with
        | some .bool => match op with
          | .eql => one (.v .bool fun x => (show Bool from f x) == g x)
          | .neq => one (.v .bool fun x => !((show Bool from f x) == g x))
          | _ => none
        | _ => none
      | _, _ => none
  | _, _ => none
variable {x : X} {ρ : Env} {ro : Bl → Prop} {w : World} {P : Program}
theorem run_guard_int (op : BinOp) (t : TypeId) (a b : Operand) (k k' : IntKind) (m n : Int) : (eqGuard op t a b (.int k m) (.int k' n)).run P w = .ok () w := by
  cases op <;> simp [eqGuard]
theorem run_guard_str (op : BinOp) (t : TypeId) (a b : Operand) (m n : ByteArray) : (eqGuard op t a b (.string m) (.string n)).run P w = .ok () w := by
  cases op <;> simp [eqGuard]
theorem run_guard_bool (op : BinOp) (t : TypeId) (a b : Operand) (m n : Bool) : (eqGuard op t a b (.bool m) (.bool n)).run P w = .ok () w := by
  cases op <;> simp [eqGuard]
theorem R_bool (q : X → Bool) : (VD.cells false [.v .bool q]).R x ρ ro w (.bool (q x)) := VD.R_one (by simp only [CV.R, Ty.K]) rfl
theorem R_str (q : X → List UInt8) : (VD.cells false [.v .str q]).R x ρ ro w (strV (q x)) := VD.R_one (by simp only [CV.R, Ty.K]) rfl
theorem R_num {k : IntKind} (q : X → Int) (h : k = .u8 → 0 ≤ q x ∧ q x < 256) : (VD.cells false [mkNum k q]).R x ρ ro w (.int k (q x)) := VD.R_one (mkNum_R h) rfl
theorem binNum_R {op : BinOp} {t : TypeId} {k : IntKind} {safe : Bool} {f g : X → Int} {c : Option (X → Bool)} {vd : VD X} (h : binNum op k safe f g = some (c, vd)) (hu : k = .u8 → (0 ≤ f x ∧ f x < 256) ∧ 0 ≤ g x ∧ g x < 256)
    (hc : ∀ q, c = some q → q x = true) (hsafe : safe = true → g x ≠ 0) : ∃ r, (binOp op t (.int k (f x)) (.int k (g x))).run P w = .ok r w ∧ vd.R x ρ ro w r := by
  have hz : ∀ q : VD X, (if safe then (some (none, q) : VR X) else some (some (fun x => g x != 0), q)) = some (c, vd) → vd = q ∧ g x ≠ 0 := by
    intro q hq
    cases safe with
    | true => cases hq; exact ⟨rfl, hsafe rfl⟩
    | false =>
      cases hq
      exact ⟨rfl, by have := hc _ rfl; simpa using this⟩
  cases op <;> simp only [binNum, one, oneIf] at h
  case add | sub | mul =>
    cases h
    exact ⟨_, by simp [binOp, Op.intArith], R_num _ (by rintro rfl; exact wrap_u8 _)⟩
  case quo =>
    obtain ⟨rfl, hg⟩ := hz _ h
    exact ⟨_, by simp [binOp, Op.intDiv, hg], R_num _ (by rintro rfl; exact wrap_u8 _)⟩
  case rem =>
    obtain ⟨rfl, hg⟩ := hz _ h
    refine ⟨_, by simp [binOp, Op.intDiv, hg], R_num _ (fun hk => ?_)⟩
    obtain ⟨h1, h2⟩ := hu hk
    rw [Int.tmod_eq_emod_of_nonneg h1.1]
    exact ⟨Int.emod_nonneg _ hg, Int.lt_trans (Int.emod_lt_of_pos _ (by omega)) h2.2⟩
  case and | or | xor | andNot =>
    cases h
    exact ⟨_, by simp [binOp, Op.intBits, bitF], R_num _ (by rintro rfl; exact wrap_u8 _)⟩
  case eql | neq | lss | leq | gtr | geq =>
    cases h
    exact ⟨_, by simp [binOp, Op.intCmp], R_bool _⟩
  all_goals cases h
theorem shiftNum_R {op : BinOp} {t : TypeId} {k yk : IntKind} {safe : Bool} {f g : X → Int} {c : Option (X → Bool)} {vd : VD X} (h : shiftNum op k safe f g = some (c, vd)) (hu : k = .u8 → 0 ≤ f x ∧ f x < 256)
    (hc : ∀ q, c = some q → q x = true) (hsafe : safe = true → 0 ≤ g x) : ∃ r, (binOp op t (.int k (f x)) (.int yk (g x))).run P w = .ok r w ∧ vd.R x ρ ro w r := by
  have hz : ∀ q : VD X, (if safe then (some (none, q) : VR X) else (some (none, q) : VR X).map fun r => (some fun x => decide (0 ≤ g x), r.2)) = some (c, vd) → vd = q ∧ 0 ≤ g x := by
    intro q hq
    cases safe with
    | true => cases hq; exact ⟨rfl, hsafe rfl⟩
    | false =>
      cases hq
      exact ⟨rfl, by have := hc _ rfl; simpa using this⟩
  cases op <;> simp only [shiftNum, one] at h
  case shl =>
    obtain ⟨rfl, hg⟩ := hz _ h
    have hg' : ¬ g x < 0 := by omega
    exact ⟨_, by simp [binOp, Op.shift, hg'], R_num _ (by rintro rfl; exact wrap_u8 _)⟩
  case shr =>
    obtain ⟨rfl, hg⟩ := hz _ h
    have hg' : ¬ g x < 0 := by omega
    refine ⟨_, by simp [binOp, Op.shift, hg'], R_num _ (fun hk => ?_)⟩
    obtain ⟨h1, h2⟩ := hu hk
    have hp : (0 : Int) < 2 ^ min (g x).toNat k.bits := Int.pow_pos (by decide)
    rw [Int.fdiv_eq_ediv_of_nonneg _ (Int.le_of_lt hp)]
    exact ⟨Int.ediv_nonneg h1 (Int.le_of_lt hp), Int.lt_of_le_of_lt (Int.ediv_le_self _ h1) h2⟩
  all_goals (cases safe <;> cases h)
theorem binStr_R {op : BinOp} {t : TypeId} {f g : X → List UInt8} {c : Option (X → Bool)} {vd : VD X} (h : binStr op f g = some (c, vd))
    (hc : ∀ q, c = some q → q x = true) : ∃ r, (binOp op t (strV (f x)) (strV (g x))).run P w = .ok r w ∧ vd.R x ρ ro w r := by
  cases op <;> simp only [binStr, one, oneIf] at h
  case add =>
    cases h
    have := hc _ rfl
    have hl : (f x).length + (g x).length ≤ 9223372036854775807 := by simpa using this
    have hn : ¬ (9223372036854775807 < ((f x).length : Int) + ((g x).length : Int)) := by omega
    refine ⟨_, ?_, R_str _⟩
    have hap : (⟨⟨f x⟩⟩ : ByteArray) ++ ⟨⟨g x⟩⟩ = ⟨⟨f x ++ g x⟩⟩ := by
      apply ByteArray.ext
      simp [ByteArray.data_append]
    have hs : ∀ l : List UInt8, (⟨⟨l⟩⟩ : ByteArray).size = l.length := fun l => rfl
    simp [binOp, strV, Op.stringOp, hs, IntKind.max, IntKind.signed, IntKind.bits, hn, hap]
  case eql | neq | lss | leq | gtr | geq =>
    cases h
    exact ⟨_, by simp [binOp, strV, Op.stringOp], R_bool _⟩
  all_goals cases h
end
end Go.Sym
namespace Go.Sym
section
variable {X : Type}
def Ty.cv : (e : Ty) → (X → e.D) → List (CV X)
  | .pair a b, g => a.cv (fun x => Prod.fst (α := a.D) (β := b.D) (g x)) ++ b.cv (fun x => Prod.snd (α := a.D) (β := b.D) (g x))
  | .int k, g => [.v (.int k) g]
  | .u8, g => [.v .u8 g]
  | .bool, g => [.v .bool g]
  | .str, g => [.v .str g]
  | .slc kl e, g => [.v (.slc kl e) g]
  | .hole t, g => [.v (.hole t) g]
  | .err, g => [.v .err g]
variable {x : X} {ρ : Env} {ro : Bl → Prop} {w : World} {P : Program}
theorem Ty.cv_R : ∀ (e : Ty) (g : X → e.D) {us : List Value}, e.K ro w (g x) us → CsR x ρ ro w (e.cv g) us
  | .pair a b, g, us, h => by
    simp only [Ty.K] at h
    obtain ⟨c0, c1, rfl, h0, h1⟩ := h
    exact CsR_app (Ty.cv_R a _ h0) (Ty.cv_R b _ h1)
  | .int _, g, us, h => by simp only [Ty.K] at h; subst h; exact ⟨by simp only [CV.R, Ty.K], trivial⟩
  | .u8, g, us, h => by simp only [Ty.K] at h; subst h; exact ⟨by simp only [CV.R, Ty.K], trivial⟩
  | .bool, g, us, h => by simp only [Ty.K] at h; subst h; exact ⟨by simp only [CV.R, Ty.K], trivial⟩
  | .str, g, us, h => by simp only [Ty.K] at h; subst h; exact ⟨by simp only [CV.R, Ty.K], trivial⟩
  | .slc _ e, g, us, h => by
    have h' := h
    simp only [Ty.K] at h'
    obtain ⟨A, c, rfl, _⟩ := h'
    exact ⟨h, trivial⟩
  | .hole t, g, us, h => by
    have h' := h
    simp only [Ty.K] at h'
    obtain ⟨u, rfl, _⟩ := h'
    exact ⟨h, trivial⟩
  | .err, g, us, h => by
    have h' := h
    rcases h' with ⟨_, rfl⟩ | ⟨_, _, _, rfl⟩ <;> exact ⟨h, trivial⟩
def Program.shapeOf (P : Program) (t : TypeId) : Option (Bool × Nat) :=
  match P.underlying t, P.info? t with
  | some d, some i => some (d.isRow, i.size)
  | _, _ => none
def ofCells (agg : Bool) (cs : List (CV X)) : Option (VD X) :=
  if agg then some (.cells true cs) else match cs with
    | [c] => some (.cells false [c])
    | _ => none
def cut (cs : List (CV X)) (off n : Nat) : Option (List (CV X)) := if off + n ≤ cs.length then some ((cs.drop off).take n) else none
theorem cut_R {cs ds : List (CV X)} {off n : Nat} (h : cut cs off n = some ds) {us : List Value} (hR : CsR x ρ ro w cs us) : CsR x ρ ro w ds ((us.drop off).take n) ∧ ((us.drop off).take n).length = n ∧ ds.length = n := by
  unfold cut at h
  split at h
  · rename_i hl
    cases h
    have := CsR_len hR
    refine ⟨CsR_take (CsR_drop hR off) n, ?_, ?_⟩ <;> simp <;> omega
  · cases h
theorem ofCells_R {agg : Bool} {cs : List (CV X)} {d : VD X} (h : ofCells agg cs = some d) {us : List Value} (hR : CsR x ρ ro w cs us) (h1 : ∀ u ∈ us, u.oneCell' = true) :
    (agg = true → d.R x ρ ro w (.agg us.toArray)) ∧ (agg = false → ∃ u, us = [u] ∧ d.R x ρ ro w u) := by
  unfold ofCells at h
  cases agg with
  | true =>
    cases h
    exact ⟨fun _ => ⟨us, rfl, hR, h1⟩, fun h => by cases h⟩
  | false =>
    refine ⟨(fun h => by cases h), fun _ => ?_⟩
    simp only [Bool.false_eq_true, if_false] at h
    split at h
    · cases h
      cases us with
      | nil => exact hR.elim
      | cons u us =>
        cases us with
        | nil => exact ⟨u, rfl, VD.R_one hR.1 (h1 u (by simp))⟩
        | cons _ _ => exact hR.2.elim
    · cases h
def valFieldAddr (P : Program) (s : TypeId) (f : Nat) : VD X → VR X
  | .cells false [c] =>
    match P.underlying s with
    | some (.struct fs) => match fs[f]? with
      | some fd => if (P.info? fd.type).map (·.size) = some 0 ∨ P.info? fd.type = none then none else
        match c with
        | .ptr id off => one (.ptr id (off + fd.offset))
        | .ep kl e g off => one (.ep kl e g (off + fd.offset))
        | .rp id e i off => one (.rp id e i (off + fd.offset))
        | _ => none
      | none => none
    | _ => none
  | _ => none
theorem Addr.add_add (a : Addr) (m n : Nat) : (a.add m).add n = a.add (m + n) := by
  unfold Addr.add
  by_cases hm : m = 0
  · subst hm; simp
  · by_cases hn : n = 0
    · subst hn; simp [hm]
    · simp [hm, hn, Nat.add_assoc]
theorem Addr.mk_add (b o n : Nat) : (⟨b, o, none⟩ : Addr).add n = ⟨b, o + n, none⟩ := Addr.add_mid b o n
theorem run_fieldAt {s : TypeId} {fs : Array Field} {f : Nat} {fd : Field} (hs : P.underlying s = some (.struct fs)) (hf : fs[f]? = some fd) (hz : ¬ ((P.info? fd.type).map (·.size) = some 0 ∨ P.info? fd.type = none)) (p : Addr) :
    (Instr.fieldAt s (.pointer (some p)) f).run P w = .ok (.pointer (some (p.add fd.offset))) w := by
  cases hi : P.info? fd.type with
  | none => exact absurd (.inr hi) hz
  | some i =>
    have h0 : i.size ≠ 0 := fun h => hz (.inl (by rw [hi]; simp [h]))
    simp [Instr.fieldAt, run_underlying hs, hf, Instr.sureAddr, fieldPlace, sizeOf, typeInfo, hi, h0]
theorem valFieldAddr_R {s : TypeId} {f : Nat} {d vd : VD X} {c : Option (X → Bool)} (h : valFieldAddr P s f d = some (c, vd)) {u : Value} (hR : d.R x ρ ro w u) :
    ∃ r, (Instr.fieldAt s u f).run P w = .ok r w ∧ vd.R x ρ ro w r := by
  unfold valFieldAddr at h
  split at h
  · rename_i cv
    split at h
    · rename_i fs hs
      split at h
      · rename_i fd hf
        split at h
        · cases h
        · rename_i hz
          have hc := VD.one_R hR
          split at h
          · cases h
            obtain ⟨b, o, t, outer, h1, rfl⟩ := hc
            exact ⟨_, run_fieldAt hs hf hz _, VD.R_one ⟨b, o, t, outer, h1, by rw [Addr.mk_add, Nat.add_assoc]⟩ rfl⟩
          · cases h
            obtain ⟨p, us, rfl, h2⟩ := hc
            exact ⟨_, run_fieldAt hs hf hz _, VD.R_one ⟨p, us, by rw [Addr.add_add], h2⟩ rfl⟩
          · cases h
            obtain ⟨b, n, c', h1, hin, rfl⟩ := hc
            exact ⟨_, run_fieldAt hs hf hz _, VD.R_one ⟨b, n, c', h1, hin, by rw [Addr.mk_add, Nat.add_assoc]⟩ rfl⟩
          · cases h
      · cases h
    · cases h
  · cases h
def Ty.dflt : (e : Ty) → e.D
  | .int _ => (0 : Int)
  | .u8 => (0 : UInt8)
  | .bool => false
  | .str => ([] : List UInt8)
  | .slc _ e => ([] : List e.D)
  | .hole t => t.dflt
  | .err => false
  | .pair a b => (a.dflt, b.dflt)
def rdN (e : Ty) (l : List e.D) (i : Nat) : e.D := (l[i]?).getD e.dflt
def St.cellsAt (σ : St X) (n : Nat) : CV X → Option (List (CV X))
  | .ptr id off => match σ.objs id with
    | some (.box cs) => cut cs off n
    | _ => none
  | .ep _ e g off => cut (e.cv g) off n
  | .rp id e i off => match σ.objs id with
    | some (.row e' _ g) => if h : e' = e then cut (e.cv fun x => rdN e (h ▸ g x) (i x)) off n else none
    | _ => none
  | _ => none
def valLoad (P : Program) (σ : St X) (t : TypeId) : VD X → VR X
  | .cells false [c] =>
    match Program.shapeOf P t with
    | some (agg, n) => match σ.cellsAt n c with
      | some cs => (ofCells agg cs).map fun d => (none, d)
      | none => none
    | none => none
  | _ => none
variable {en : En} {σ : St X}
theorem cellsAt_Rr {n : Nat} {c : CV X} {cs : List (CV X)} (h : σ.cellsAt n c = some cs) (hm : MemR ro σ x w ρ) {u : Value} (hR : c.R x ρ ro w u) :
    ∃ p us, u = .pointer (some p) ∧ us.length = n ∧ CsR x ρ ro w cs us ∧ (∀ v ∈ us, v.oneCell' = true) ∧ ∀ (j : Nat) (v : Value), us[j]? = some v → w.cell? (p.add j) = some v := by
  cases c with
  | ptr id off =>
    simp only [St.cellsAt] at h
    split at h
    · rename_i _ cs0 ho
      obtain ⟨b, o, t, outer, h1, rfl⟩ := hR
      obtain ⟨b', o', t', outer', cur, e1, e2, e3, e4, e5, us, e6, e7, e8, e9⟩ := hm.ob id _ ho
      have := h1.symm.trans e1
      cases this
      obtain ⟨c1, c2, _⟩ := cut_R h e8
      refine ⟨_, (us.drop off).take n, rfl, c2, c1, fun v hv => e9 v (List.mem_of_mem_drop (List.mem_of_mem_take hv)), fun j v hv => ?_⟩
      rw [Addr.mk_add]
      have hv' : us[off + j]? = some v := by
        rw [List.getElem?_take] at hv
        split at hv
        · rw [List.getElem?_drop] at hv; exact hv
        · cases hv
      have := e7 (off + j) v hv'
      simp only [World.cell?, e2]
      rw [Nat.add_assoc]
      simpa using this
    · cases h
  | ep kl e g off =>
    simp only [St.cellsAt] at h
    obtain ⟨p, us, rfl, h2, h3, h4⟩ := hR
    obtain ⟨c1, c2, _⟩ := cut_R (x := x) (ρ := ρ) h (Ty.cv_R e g h3)
    refine ⟨_, (us.drop off).take n, rfl, c2, c1, fun v hv => Ty.K_one h3 v (List.mem_of_mem_drop (List.mem_of_mem_take hv)), fun j v hv => ?_⟩
    rw [Addr.add_add]
    refine h4 (off + j) v ?_
    rw [List.getElem?_take] at hv
    split at hv
    · rw [List.getElem?_drop] at hv; exact hv
    · cases hv
  | rp id e i off =>
    simp only [St.cellsAt] at h
    split at h
    · rename_i _ e' te g ho
      split at h
      · rename_i hh
        subst hh
        obtain ⟨b, m, cap, hρ, hin, rfl⟩ := hR
        obtain ⟨hd, inner, e1, e2, e3⟩ := hm.ob id _ ho
        have := hρ.symm.trans e1
        cases this
        have hm' : m = (g x).length := by
          rcases e2 with ⟨A, hx, _⟩ | e2
          · cases hx
            omega
          rcases e2.2 with ⟨hx, _⟩ | ⟨_, _, _, hx, _⟩ <;> cases hx
          rfl
        subst hm'
        have hget : (g x)[i x]? = some (rdN e' (g x) (i x)) := by simp [rdN, hin]
        have hK := e3.2 _ _ hget
        obtain ⟨c1, c2, _⟩ := cut_R (x := x) (ρ := ρ) h (Ty.cv_R e' (fun x => rdN e' (g x) (i x)) hK)
        have hl := Ty.K_len hK
        refine ⟨_, (((inner.drop (i x * e'.size)).take e'.size).drop off).take n, rfl, c2, c1, fun v hv => Ty.K_one hK v (List.mem_of_mem_drop (List.mem_of_mem_take hv)), fun j v hv => ?_⟩
        rw [List.getElem?_take] at hv
        split at hv
        · rw [List.getElem?_drop, List.getElem?_take] at hv
          split at hv
          · rename_i hj
            rw [List.getElem?_drop] at hv
            have hlt : i x * e'.size + (off + j) < (g x).length * e'.size := by
              have h3 : (i x + 1) * e'.size ≤ (g x).length * e'.size := Nat.mul_le_mul_right _ hin
              rw [Nat.succ_mul] at h3
              omega
            rw [Addr.mk_add, Nat.add_assoc, World.ownsRow.cellAt (e2.pos (by omega)) _ hlt]
            exact hv
          · cases hv
        · cases hv
      · cases h
    · cases h
  | _ => simp [St.cellsAt] at h
theorem run_loadAt_list {t : TypeId} {agg : Bool} {n : Nat} (hs : Program.shapeOf P t = some (agg, n)) {p : Addr} {us : List Value} (hl : us.length = n) (hc : ∀ (j : Nat) (v : Value), us[j]? = some v → w.cell? (p.add j) = some v) :
    (agg = true → (Instr.loadAt t (.pointer (some p))).run P w = .ok (.agg us.toArray) w) ∧ (agg = false → ∀ u, us = [u] → (Instr.loadAt t (.pointer (some p))).run P w = .ok u w) := by
  unfold Program.shapeOf at hs
  split at hs
  · rename_i d i hd hi
    cases hs
    have hagg : (isAgg t).run P w = .ok d.isRow w := by
      unfold isAgg
      rw [Sem.run_bind, run_underlying hd w]
      cases d <;> rfl
    have hload : (loadCells p us.length).run P w = .ok us.toArray w := run_loadCells_list (P := P) w p us hc
    refine ⟨fun h => ?_, fun h u hu => ?_⟩
    · rw [h] at hagg
      rw [hl] at hload
      simp [Instr.loadAt, Instr.sureAddr, loadVar, Sem.run_bind, hagg, sizeOf, typeInfo, hi, hload]
    · rw [h] at hagg
      have h0 := hc 0 u (by rw [hu]; rfl)
      have hp : p.add 0 = p := by simp [Addr.add]
      rw [hp] at h0
      simp [Instr.loadAt, Instr.sureAddr, loadVar, Sem.run_bind, hagg, h0]
  · cases hs
theorem valLoad_R {t : TypeId} {d vd : VD X} {c : Option (X → Bool)} (h : valLoad P σ t d = some (c, vd)) (hm : MemR ro σ x w ρ) {u : Value} (hR : d.R x ρ ro w u) :
    ∃ r, (Instr.loadAt t u).run P w = .ok r w ∧ vd.R x ρ ro w r := by
  unfold valLoad at h
  split at h
  · rename_i cv
    split at h
    · rename_i agg n hs
      split at h
      · rename_i cs hcs
        obtain ⟨p, us, rfl, hl, h1, h2, h3⟩ := cellsAt_Rr hcs hm (VD.one_R hR)
        cases hof : ofCells agg cs with
        | none => rw [hof] at h; cases h
        | some d0 =>
          rw [hof] at h
          cases h
          obtain ⟨g1, g2⟩ := ofCells_R hof h1 h2
          obtain ⟨r1, r2⟩ := run_loadAt_list (P := P) (w := w) hs hl h3
          cases agg with
          | true => exact ⟨_, r1 rfl, g1 rfl⟩
          | false =>
            obtain ⟨v, rfl, hv⟩ := g2 rfl
            exact ⟨v, r2 rfl v rfl, hv⟩
      · cases h
    · cases h
  · cases h
end
end Go.Sym

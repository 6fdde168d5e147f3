import Derived.Test.YtmogjjnghkfmnaaGreatS19
import Derived.Laws.OwnMore
import Derived.Laws.MakeOwn
import Derived.Lib.AppendStr
import Derived.Maps.AppendAt
import Derived.Laws.IdiomStrings
/-! Rows of the call's own: literals, make, append. -/
namespace Go.Sym
section
variable {X : Type} {x : X} {ρ : Env} {ro : Bl → Prop} {w : World} {P : Program} {en : En} {σ : St X} {nt : Nat} {a : Act}

/-- A value out of its cells. -/
def Ty.ofCV : (e : Ty) → List (CV X) → Option (X → e.D)
  | .pair a b, cs => match a.ofCV (cs.take a.size), b.ofCV (cs.drop a.size) with
    | some f, some g => some fun x => (f x, g x)
    | _, _ => none
  | .int k, [c] => c.toV (.int k)
  | .u8, [c] => c.toV .u8
  | .bool, [c] => c.toV .bool
  | .str, [c] => c.toV .str
  | .slc kl e, [c] => c.toV (.slc kl e)
  | .hole t, [c] => c.toV (.hole t)
  | .err, [c] => c.toV .err
  | _, _ => none
theorem toV_K {t : Ty} {c : CV X} {g : X → t.D} (h : c.toV t = some g) {u : Value} (hR : c.R x ρ ro w u) : t.K ro w (g x) [u] :=
  CV.toV_R h hR g x rfl (ρ' := ρ)
theorem Ty.ofCV_K : ∀ (e : Ty) {cs : List (CV X)} {g : X → e.D}, e.ofCV cs = some g → ∀ {us : List Value}, CsR x ρ ro w cs us → e.K ro w (g x) us := by
  intro e
  induction e with
  | pair a b iha ihb =>
    intro cs g h us hR
    simp only [Ty.ofCV] at h
    split at h
    · rename_i f g' hf hg
      cases h
      simp only [Ty.K]
      exact ⟨us.take a.size, us.drop a.size, by simp, iha hf (CsR_take hR _), ihb hg (CsR_drop hR _)⟩
    · cases h
  | int k | u8 | bool | str | slc kl e _ | hole t _ | err =>
    intro cs g h us hR
    cases cs with
    | nil => simp [Ty.ofCV] at h
    | cons c cs =>
      cases cs with
      | cons _ _ => simp [Ty.ofCV] at h
      | nil =>
        cases us with
        | nil => exact hR.elim
        | cons u us =>
          cases us with
          | cons _ _ => exact hR.2.elim
          | nil => exact toV_K (by simpa [Ty.ofCV] using h) hR.1

theorem RowsK_mono {e : Ty} {ro ro' : Bl → Prop} {w w' : World} (hr : ∀ b, ro b → ro' b) (hw : ∀ b, ro b → w'.heap[b.1]? = w.heap[b.1]?) {xs : List e.D} {cells : List Value} (h : RowsK e ro w xs cells) : RowsK e ro' w' xs cells :=
  ⟨h.1, fun i x hx => Ty.K_mono hr hw e x _ (h.2 i x hx)⟩
theorem RowsK_nil {e : Ty} : RowsK e ro w [] [] := ⟨by simp, fun i x hx => by simp at hx⟩
theorem RowsK_app {e : Ty} {xs ys : List e.D} {cs ds : List Value} (h : RowsK e ro w xs cs) (h' : RowsK e ro w ys ds) : RowsK e ro w (xs ++ ys) (cs ++ ds) := by
  refine ⟨by rw [List.length_append, List.length_append, h.1, h'.1, Nat.add_mul], fun i x hx => ?_⟩
  rcases Nat.lt_or_ge i xs.length with hi | hi
  · rw [List.getElem?_append_left hi] at hx
    have h1 : i * e.size + e.size ≤ cs.length := by rw [h.1, ← Nat.succ_mul]; exact Nat.mul_le_mul_right _ hi
    rw [List.drop_append_of_le_length (by omega), List.take_append_of_le_length (by rw [List.length_drop]; omega)]
    exact h.2 i x hx
  · rw [List.getElem?_append_right hi] at hx
    have h2 := h'.2 _ x hx
    have e1 : i * e.size = cs.length + (i - xs.length) * e.size := by
      rw [h.1, ← Nat.add_mul]
      congr 1
      omega
    rw [e1, List.drop_append, List.drop_eq_nil_of_le (by omega), List.nil_append, Nat.add_sub_cancel_left]
    exact h2
theorem RowsK_one {e : Ty} {y : e.D} {cs : List Value} (h : e.K ro w y cs) : RowsK e ro w [y] cs := by
  have hl := Ty.K_len h
  refine ⟨by simp [hl], fun i x hx => ?_⟩
  cases i with
  | zero =>
    simp at hx
    subst hx
    simpa [← hl] using h
  | succ i => simp at hx
theorem RowsK_ones {e : Ty} {xs : List e.D} {cells : List Value} (h : RowsK e ro w xs cells) : ∀ u ∈ cells, u.oneCell' = true := by
  intro u hu
  obtain ⟨k, hk, rfl⟩ := List.mem_iff_getElem.1 hu
  have hsz := Ty.size_pos e
  have hi : k / e.size < xs.length := by
    rw [Nat.div_lt_iff_lt_mul hsz, ← h.1]
    exact hk
  have hK := h.2 (k / e.size) _ (List.getElem?_eq_getElem hi)
  refine Ty.K_one hK _ ?_
  have hm : k % e.size < e.size := Nat.mod_lt _ hsz
  have hd : k / e.size * e.size + k % e.size = k := Nat.div_add_mod' k e.size
  refine List.mem_iff_getElem?.2 ⟨k % e.size, ?_⟩
  rw [List.getElem?_take, if_pos hm, List.getElem?_drop, hd]
  exact List.getElem?_eq_getElem hk
/-- A row that is read, as cells. -/
theorem K_row {e : Ty} {xs : List e.D} {A : Option Addr} {c : Nat} {kl : Cls} (h : (Ty.slc kl e).K ro w xs [.slice A xs.length c]) (hne : xs ≠ []) :
    ∃ ad cells, A = some ad ∧ RowsK e ro w xs cells ∧ ∀ (j : Nat) (u : Value), cells[j]? = some u → w.cell? (ad.add j) = some u := by
  simp only [Ty.K] at h
  obtain ⟨A', c', he, hle, hel⟩ := h
  cases he
  obtain ⟨ad, rfl⟩ : ∃ ad, A = some ad := by
    cases xs with
    | nil => exact absurd rfl hne
    | cons y ys =>
      obtain ⟨ad, _, h1, _⟩ := hel 0 y rfl
      exact ⟨ad, h1⟩
  have key : ∀ (n : Nat), n ≤ List.length (α := e.D) xs → ∃ cells : List Value, RowsK e ro w (List.take (α := e.D) n xs) cells ∧ ∀ (j : Nat) (u : Value), cells[j]? = some u → w.cell? (ad.add j) = some u := by
    intro n
    induction n with
    | zero => intro _; exact ⟨[], by simpa using RowsK_nil, fun j u hu => by simp at hu⟩
    | succ n ih =>
      intro hn
      obtain ⟨cells, h1, h2⟩ := ih (by omega)
      have hget : (xs : List e.D)[n]? = some ((xs : List e.D)[n]'(by omega)) := List.getElem?_eq_getElem (by omega)
      obtain ⟨ad', us, h3, _, h4, h5⟩ := hel n _ hget
      cases h3
      refine ⟨cells ++ us, ?_, fun j u hu => ?_⟩
      · rw [List.take_succ_eq_append_getElem (by omega)]
        exact RowsK_app h1 (RowsK_one h4)
      · have hl : cells.length = n * e.size := by
          rw [h1.1, List.length_take]
          congr 1
          omega
        rcases Nat.lt_or_ge j cells.length with hj | hj
        · rw [List.getElem?_append_left hj] at hu
          exact h2 j u hu
        · rw [List.getElem?_append_right hj] at hu
          have := h5 _ u hu
          rw [show n * e.size + (j - cells.length) = j by omega] at this
          exact this
  obtain ⟨cells, h1, h2⟩ := key _ (Nat.le_refl _)
  exact ⟨ad, cells, rfl, by rw [List.take_length] at h1; exact h1, h2⟩

/-- A new row of the call's own; what was touched was given up. -/
theorem Sim.row (h : Sim nt en σ x a w ρ) {L : Nat → Prop} {w' : World} (g : Grew L w w') {D : Nat → Bool} (hL : ∀ b, L b → Given σ ρ D b) {id : Nat} (hid : D id = true) (hid63 : id ≠ 63) {e : Ty} {te : TypeId} {f : X → List e.D} {v' : Value} {inner : List Value}
    (hown : w'.ownsRow 0 te e.size v' (f x).length inner) (hK : RowsK e (RO en σ ρ w) w (f x) inner) (hb : ∀ b, v'.ownBlock = some b → Free σ ρ w w' D b) :
    ∃ ρ', ρ' id = .row v' ∧ Sim nt en (σ.adds D (fun i => if i = id then some (.row e te f) else none)) x a w' ρ' := by
  have hbl : ∀ i, D i = true → (if i = id then some (OD.row e te f) else none) ≠ none → ∀ b, (RB.row v').block = some b → Free σ ρ w w' D b := fun i _ _ b hb' => hb b hb'
  refine ⟨mixE D (fun _ => .row v') ρ, by simp [mixE, hid], h.adds g hL (fun _ => by rw [if_neg (Ne.symm hid63)]) (fun _ => .row v') hbl (fun i j _ _ hi hj hij => ?_) (fun i od hi ho => ?_)⟩
  · have e1 : i = id := by
      by_cases hh : i = id
      · exact hh
      · simp [hh] at hi
    have e2 : j = id := by
      by_cases hh : j = id
      · exact hh
      · simp [hh] at hj
    exact absurd (e1.trans e2.symm) hij
  · have e1 : i = id := by
      by_cases hh : i = id
      · exact hh
      · simp [hh] at ho
    subst e1
    simp only [if_true] at ho
    obtain rfl := Option.some.inj ho
    have hro := RO_adds (en := en) (σ := σ) (ρ := ρ) (D := D) (obs := fun j => if j = i then some (OD.row e te f) else none) (rbs := fun _ => .row v') g hbl
    refine ⟨v', inner, by simp [mixE, hi], hown, RowsK_mono hro (fun b hb' => g.block b.1 hb'.2.1 (fun hl => ?_)) hK⟩
    obtain ⟨k, _, h4, h5⟩ := hL b.1 hl
    exact hb'.2.2 k h4 h5
end
end Go.Sym

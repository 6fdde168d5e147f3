import Derived.Test.YtmogjjnghkfmnaaGreatS23
/-! append; a text's bytes. -/
namespace Go.Sym
section
variable {X : Type} {x : X} {ρ : Env} {ro : Bl → Prop} {w : World} {P : Program} {en : En} {σ : St X} {nt : Nat} {a : Act} {R : Type}

/-- What is appended to: nil, or a row. -/
def St.base (σ : St X) (ty : Ty) (te : TypeId) : CV X → Option (Option Nat × (X → List ty.D))
  | .nils => some (none, fun _ => [])
  | .row id => match σ.objs id with
    | some (.row e te' g) => if h : e = ty ∧ te' = te then some (some id, h.1 ▸ g) else none
    | _ => none
  | _ => none
def vMore (ty t : Ty) (g : X → t.D) : Option (X → List ty.D) := CV.toV (.slc .any ty) (.v t g)
/-- What is appended. -/
def St.more (σ : St X) (ty : Ty) : CV X → Option (X → List ty.D)
  | .nils => some (fun _ => [])
  | .row id => match σ.objs id with
    | some (.row e _ g) => if h : e = ty then some (h ▸ g) else none
    | _ => none
  | .v t g => vMore ty t g
  | _ => none

theorem base_R {ty : Ty} {te : TypeId} {c : CV X} {old : Option Nat} {g : X → List ty.D} (h : σ.base ty te c = some (old, g)) (hs : Sim nt en σ x a w ρ) {v : Value} (hR : c.R x ρ (RO en σ ρ w) w v) :
    ∃ inner, w.ownsRow 0 te ty.size v (g x).length inner ∧ RowsK ty (RO en σ ρ w) w (g x) inner ∧ ∀ b, v.ownBlock = some b → ∃ k, old = some k ∧ σ.objs k ≠ none ∧ (ρ k).block = some b := by
  cases c with
  | nils =>
    simp only [St.base, Option.some.injEq, Prod.mk.injEq] at h
    obtain ⟨rfl, rfl⟩ := h
    have hv : v = .slice none 0 0 := hR
    subst hv
    exact ⟨[], ⟨by simp, .inl ⟨rfl, rfl⟩⟩, RowsK_nil, fun b hb => by cases hb⟩
  | row id =>
    simp only [St.base] at h
    split at h
    · rename_i e te' g' ho
      split at h
      · rename_i hh
        obtain ⟨rfl, rfl⟩ := hh
        simp only [Option.some.injEq, Prod.mk.injEq] at h
        obtain ⟨rfl, rfl⟩ := h
        obtain ⟨v', inner, h1, h2, h3⟩ := hs.mem.ob id _ ho
        have hv : ρ id = .row v := hR
        rw [h1] at hv
        cases hv
        exact ⟨inner, h2, h3, fun b hb => ⟨id, rfl, by rw [ho]; simp, by rw [h1]; exact hb⟩⟩
      · cases h
    · cases h
  | _ => simp [St.base] at h

theorem more_R {ty : Ty} {c : CV X} {g : X → List ty.D} (h : σ.more ty c = some g) (hs : Sim nt en σ x a w ρ) {v : Value} (hR : c.R x ρ (RO en σ ρ w) w v) :
    ∃ A cap news, v = .slice A (g x).length cap ∧ ((g x) ≠ [] → A ≠ none) ∧ RowsK ty (RO en σ ρ w) w (g x) news ∧ ∀ ad, A = some ad → ∀ (j : Nat) (u : Value), news[j]? = some u → w.cell? (ad.add j) = some u := by
  cases c with
  | nils =>
    simp only [St.more, Option.some.injEq] at h
    subst h
    have hv : v = .slice none 0 0 := hR
    exact ⟨none, 0, [], hv, fun hh => absurd rfl hh, RowsK_nil, fun ad hh => by cases hh⟩
  | row id =>
    simp only [St.more] at h
    split at h
    · rename_i e te' g' ho
      split at h
      · rename_i hh
        subst hh
        cases h
        obtain ⟨v', inner, h1, h2, h3⟩ := hs.mem.ob id _ ho
        have hv : ρ id = .row v := hR
        rw [h1] at hv
        cases hv
        rcases h2.2 with ⟨rfl, h0⟩ | ⟨b, cap, cur, rfl, _, _, _, _, _, _⟩
        · have hx := List.eq_nil_of_length_eq_zero h0
          refine ⟨none, 0, inner, by rw [h0], fun hh => absurd hx hh, h3, fun ad hh => by cases hh⟩
        · refine ⟨_, _, inner, rfl, fun _ => by simp, h3, fun ad had j u hu => ?_⟩
          cases had
          have hj : j < (g' x).length * e.size := by rw [← h2.1]; exact (List.getElem?_eq_some_iff.1 hu).1
          rw [Addr.mk_add, Nat.zero_add, World.ownsRow.cellAt h2 j hj]
          exact hu
      · cases h
    · cases h
  | v t g' =>
    have hK : (Ty.slc .any ty).K (RO en σ ρ w) w (g x) [v] := toV_K (t := .slc .any ty) (c := .v t g') h hR
    have hK' := hK
    simp only [Ty.K] at hK'
    obtain ⟨A, cap, he, _, _⟩ := hK'
    simp only [List.cons.injEq, and_true] at he
    subst he
    by_cases hne : g x = []
    · refine ⟨A, cap, [], rfl, fun hh => absurd hne hh, ?_, fun ad _ j u hu => by simp at hu⟩
      rw [hne]
      exact RowsK_nil
    · obtain ⟨ad, cells, h1, h2, h3⟩ := K_row hK hne
      refine ⟨A, cap, cells, rfl, fun _ => by rw [h1]; simp, h2, fun ad' had => ?_⟩
      rw [h1] at had
      cases had
      exact h3
  | _ => simp [St.more] at h

theorem run_append_none' (base : Nat) (t ty e : TypeId) (i : TypeInfo) (size : Nat) (ht : P.underlying t = some (.slice e)) (hi : P.info? e = some i)
    (v : Value) (n c : Nat) (xs : List Value) (hown : w.ownsRow base e size v n xs) :
    (Builtin.append_ #[t, t] ty #[v, .slice none 0 c]).run P w = .ok v w := by
  rcases hown.2 with ⟨rfl, rfl⟩ | ⟨g, cap, cur, rfl, _, _, hnc, _⟩
  · simp [Builtin.append_, run_underlying ht, sizeOf, typeInfo, hi, Builtin.lenOf, Builtin.firstCells]
  · simp [Builtin.append_, run_underlying ht, sizeOf, typeInfo, hi, Builtin.lenOf, Builtin.firstCells, hnc, storeCells]

/-- One law for both. -/
theorem run_append_any {t : TypeId} (E : ElemOf P t) (hzs : E.z.cells.size = E.i.size) (hby : 0 < E.i.bytes) (ty : TypeId) {xs ys : List E.ty.D} {v : Value} {inner news : List Value} {A : Option Addr} {cap : Nat}
    (hown : w.ownsRow 0 E.e E.ty.size v xs.length inner) (hA : ys ≠ [] → A ≠ none) (hy : RowsK E.ty ro w ys news) (hc : ∀ ad, A = some ad → ∀ (j : Nat) (u : Value), news[j]? = some u → w.cell? (ad.add j) = some u)
    (hb : (xs.length + ys.length) * E.i.bytes ≤ 140737488355328) :
    ∃ v' w', (Builtin.append_ #[t, t] ty #[v, .slice A ys.length cap]).run P w = .ok v' w' ∧ w'.ownsRow 0 E.e E.ty.size v' (xs ++ ys).length (inner ++ news) ∧ w.grownBy w' v.ownBlock ∧ (v'.ownBlock = v.ownBlock ∨ v'.ownBlock = some w.heap.size) := by
  have h63 : xs.length + ys.length ≤ maxLen := by
    have : (xs.length + ys.length) * 1 ≤ (xs.length + ys.length) * E.i.bytes := Nat.mul_le_mul_left _ hby
    simp only [maxLen]
    omega
  cases A with
  | none =>
    have hys : ys = [] := by
      by_cases h : ys = []
      · exact h
      · exact absurd rfl (hA h)
    subst hys
    have hn : news = [] := List.eq_nil_of_length_eq_zero (by simpa using hy.1)
    subst hn
    refine ⟨v, w, run_append_none' 0 t ty E.e E.i E.ty.size E.hu E.hi v _ cap inner hown, by simpa using hown, ⟨rfl, rfl, rfl, Nat.le_refl _, fun _ _ _ => rfl⟩, .inl rfl⟩
  | some ad =>
    obtain ⟨v', w', h1, h2, h3, _, h5⟩ := run_append_own_at (P := P) w 0 t ty E.e E.i E.z E.ty.size E.i.bytes E.hu E.hi E.hz E.hs rfl (by rw [hzs, E.hs]) (Ty.size_pos _) v xs.length inner hown ad ys.length cap news hy.1 (hc ad rfl) (RowsK_ones hy) h63 hb (Nat.zero_le _)
    exact ⟨v', w', h1, by rw [List.length_append]; exact h2, h3, h5⟩

def stepApp (P : Program) (kk : Cls) (nt : Nat) (os : Array Oper) (o : Oper) {next : En → R → Act → World → Prop} {Q : Fam R} (κ : Kont nt next) (X : Type) (σ : St X) : Fn nt (fun en r a w => OpW P os o (next en r) (Q en r) a w) σ :=
  if hg : o.guard = none then
    match ho : o.op, hdst : o.dst with
    | .call ⟨.builtin .append, args, tys⟩, some d => match hargs : args.toList, htys : tys.toList with
      | [y, z], [t, t'] => if htt : t' = t then match elemOf P kk t with
        | some E => match hy : σ.opnd [] y, hz : σ.opnd [] z with
          | some (.cells false [cy]), some (.cells false [cz]) => match hb : σ.base E.ty E.e cy, hm : σ.more E.ty cz with
            | some (old, g), some f => if hd : d < nt ∧ E.z.cells.size = E.i.size ∧ 0 < E.i.bytes then
                let k := κ X (σ.newRow d old E.ty E.e (fun x => g x ++ f x))
                ⟨fun x => if (((g x).length + (f x).length) * E.i.bytes).ble 140737488355328 = true then k.fn x else none, fun en r x a w ρ hf hs => by
                  obtain ⟨hd1, hzs, hby⟩ := hd
                  subst htt
                  split at hf
                  · rename_i hc
                    have hc' := Nat.le_of_ble_eq_true hc
                    have hRy := VD.one_R (opnd_R hy hs (fun p hp => by cases hp))
                    have hRz := VD.one_R (opnd_R hz hs (fun p hp => by cases hp))
                    obtain ⟨inner, b1, b2, b3⟩ := base_R hb hs hRy
                    obtain ⟨A, cap, news, m1, m2, m3, m4⟩ := more_R hm hs hRz
                    obtain ⟨v', w', h1, h2, h3, h5⟩ := run_append_any E hzs hby o.type b1 m2 m3 m4 hc' (cap := cap)
                    rw [← m1] at h1
                    obtain ⟨ρ', h7⟩ := hs.newRow hd1 (old := old) (row := (a.eval y).ownBlock) (g := fun x => g x ++ f x) b3 h3 h2 (RowsK_app b2 m3) h5
                    refine OpW.of_value hg (v := v') (w' := w') ?_ (k.ok en r x _ _ ρ' hf ?_)
                    · have e1 : args = #[y, z] := by rw [← Array.toArray_toList (xs := args), hargs]
                      have e2 : tys = #[t', t'] := by rw [← Array.toArray_toList (xs := tys), htys]
                      simp only [execOp, ho, resolve, e1, e2]
                      simp [invoke, builtin, h1]
                    · rw [hdst]
                      exact h7
                  · cases hf⟩
              else .fail
            | _, _ => .fail
          | _, _ => .fail
        | none => .fail
        else .fail
      | _, _ => .fail
    | _, _ => .fail
  else .fail
end
end Go.Sym

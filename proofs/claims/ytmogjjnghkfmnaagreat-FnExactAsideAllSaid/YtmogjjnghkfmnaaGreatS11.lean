import Derived.Test.YtmogjjnghkfmnaaGreatS10
/-! Any operation that yields a value and leaves the world alone. -/
namespace Go.Sym
section
variable {X : Type}
def unVal (op : UnOp) : VD X → VR X
  | .cells false [c] => match op with
    | .not => match c with
      | .v .bool g => one (.v .bool fun x => !(show Bool from g x))
      | _ => none
    | .neg => match c.num with
      | some (k, f) => one (mkNum k fun x => k.wrap (0 - f x))
      | none => none
    | _ => none
  | _ => none
def valField (P : Program) (t : TypeId) (f : Nat) : VD X → VR X
  | .cells true cs => match P.underlying t with
    | some (.struct fs) => match fs[f]? with
      | some fd => match Program.shapeOf P fd.type with
        | some (agg, n) => match cut cs fd.offset n with
          | some ds => (ofCells agg ds).map fun d => (none, d)
          | none => none
        | none => none
      | none => none
    | _ => none
  | _ => none
def valExtract (i : Nat) : VD X → VR X
  | .tup l => match l[i]? with
    | some (agg, cs) => some (none, .cells agg cs)
    | none => none
  | _ => none
/-- A choice of two values of one type. -/
def pickV (g : X → Bool) : VD X → VD X → VR X
  | .cells false [.v .bool a], .cells false [.v .bool b] => one (.v .bool fun x => if g x = true then (a x : Bool) else b x)
  | .cells false [.v t a], .cells false [.v t' b] => if h : t' = t then one (.v t fun x => if g x = true then a x else h ▸ b x) else none
  | _, _ => none
def valNil : VD X → VR X
  | .cells false [c] => match c with
    | .ptr _ _ | .ep _ _ _ _ | .rp _ _ _ _ | .clo _ _ => one c
    | _ => none
  | _ => none
/-- The greater, or the lesser. -/
def valMM (mx : Bool) : VD X → VD X → VR X
  | .cells false [c], .cells false [d] => match c.num, d.num with
    | some (k, f), some (k', g) => if k = k' then one (mkNum k fun x => if mx then (if g x > f x then g x else f x) else (if g x < f x then g x else f x)) else none
    | _, _ => match c, d with
      | .v .str f, .v .str g => one (.v .str fun x => if mx then (if Op.bytesLess (f x) (g x) then g x else f x) else (if (Op.bytesLess (f x) (g x) || (show List UInt8 from f x) == g x) = true then f x else g x))
      | _, _ => none
  | _, _ => none
def withT (c : Operand) (b : Bool) (deps : List (Nat × Bool)) : List (Nat × Bool) :=
  match c with
  | .tmp t => (t, b) :: deps
  | _ => deps

def valOf (P : Program) (σ : St X) (deps : List (Nat × Bool)) (o : Oper) : VR X :=
  match o.op with
  | .move y | .assign y => (σ.opnd deps y).map fun d => (none, d)
  | .pick c y z => match σ.opnd deps c with
    | some dc => match dc.bool? with
      | some g => match σ.opnd (withT c true deps) y, σ.opnd (withT c false deps) z with
        | some d, some e => pickV g d e
        | _, _ => none
      | none => none
    | none => none
  | .binOp op t y z _ => if isNilI z = true then (match σ.opnd deps y with
    | some d => valErr P op t d
    | none => none) else match σ.opnd deps y, σ.opnd deps z with
    | some d, some e => valBin P op t (safeOp op z) d e
    | _, _ => none
  | .unOp op _ y => match σ.opnd deps y with
    | some d => unVal op d
    | none => none
  | .convert src dst y => match σ.opnd deps y with
    | some d => valConv P σ src dst d
    | none => none
  | .load t y => match σ.opnd deps y with
    | some d => valLoad P σ t d
    | none => none
  | .fieldAddr s y f => match σ.opnd deps y with
    | some d => valFieldAddr P s f d
    | none => none
  | .field s y f => match σ.opnd deps y with
    | some d => valField P s f d
    | none => none
  | .indexAddr t y z => match σ.opnd deps y, σ.opnd deps z with
    | some d, some e => valIndexAddr P σ t d e
    | _, _ => none
  | .index t y z => match σ.opnd deps y, σ.opnd deps z with
    | some d, some e => valIndex P t d e
    | _, _ => none
  | .slice t y lo hi none => match σ.opnd deps y with
    | some d => match lo, hi with
      | none, none => valSlice P t none none d
      | some l, none => match σ.opnd deps l with
        | some dl => valSlice P t (some dl) none d
        | none => none
      | none, some h => match σ.opnd deps h with
        | some dh => valSlice P t none (some dh) d
        | none => none
      | some l, some h => match σ.opnd deps l, σ.opnd deps h with
        | some dl, some dh => valSlice P t (some dl) (some dh) d
        | _, _ => none
    | none => none
  | .extract y i => match σ.opnd deps y with
    | some d => valExtract i d
    | none => none
  | .nilCheck y => match σ.opnd deps y with
    | some d => valNil d
    | none => none
  | .call c => match c.callee, c.args.toList, c.argTypes.toList with
    | .builtin .len, [y], [t] => match σ.opnd deps y with
      | some d => valLen P σ t d
      | none => none
    | .builtin .max, [y, z], _ => match σ.opnd deps y, σ.opnd deps z with
      | some d, some e => valMM true d e
      | _, _ => none
    | .builtin .min, [y, z], _ => match σ.opnd deps y, σ.opnd deps z with
      | some d, some e => valMM false d e
      | _, _ => none
    | _, _, _ => none
  | _ => none

variable {x : X} {ρ : Env} {ro : Bl → Prop} {w : World} {P : Program} {en : En} {σ : St X} {nt : Nat} {a : Act}

theorem unVal_R {op : UnOp} {d vd : VD X} {c : Option (X → Bool)} (h : unVal op d = some (c, vd)) {u : Value} (hR : d.R x ρ ro w u) : ∃ r, (Op.unary op u).run P w = .ok r w ∧ vd.R x ρ ro w r := by
  unfold unVal at h
  split at h
  · rename_i cv
    split at h
    · split at h
      · rename_i g
        cases h
        have hu : Ty.bool.K ro w (g x) [u] := VD.one_R hR
        simp only [Ty.K, List.cons.injEq, and_true] at hu
        subst hu
        exact ⟨_, by simp [Op.unary], R_bool _⟩
      · cases h
    · split at h
      · rename_i k f hf
        cases h
        have hu := num_R hf (VD.one_R hR)
        subst hu
        exact ⟨_, by simp [Op.unary, Op.intArith], R_num _ (by rintro rfl; exact wrap_u8 _)⟩
      · cases h
    · cases h
  · cases h

theorem valExtract_R {i : Nat} {d vd : VD X} {c : Option (X → Bool)} (h : valExtract i d = some (c, vd)) {u : Value} (hR : d.R x ρ ro w u) : ∃ r, (Instr.extract u i).run P w = .ok r w ∧ vd.R x ρ ro w r := by
  unfold valExtract at h
  split at h
  · rename_i l
    split at h
    · rename_i agg cs hl
      cases h
      obtain ⟨us, rfl, hp⟩ := hR
      have key : ∀ (l : List (Bool × List (CV X))) (us : List Value) (i : Nat) (p : Bool × List (CV X)), PartsR x ρ ro w l us → l[i]? = some p → ∃ v, us[i]? = some v ∧ PartR x ρ ro w p v := by
        intro l
        induction l with
        | nil => intro us i p _ hi; simp at hi
        | cons q l ih =>
          intro us i p hps hi
          cases us with
          | nil => exact hps.elim
          | cons v us =>
            cases i with
            | zero => simp at hi; subst hi; exact ⟨v, rfl, hps.1⟩
            | succ i => exact ih us i p hps.2 (by simpa using hi)
      obtain ⟨v, hv, hpv⟩ := key l us i _ hp hl
      exact ⟨v, by simp [Instr.extract, hv], hpv⟩
    · cases h
  · cases h

theorem pickV_R {g : X → Bool} {d e vd : VD X} {c : Option (X → Bool)} (h : pickV g d e = some (c, vd)) {u v : Value} (hd : g x = true → d.R x ρ ro w u) (he : g x = false → e.R x ρ ro w v) :
    vd.R x ρ ro w (if g x then u else v) := by
  have hcomb : ∀ (t : Ty) (p q : X → t.D), (g x = true → (VD.cells false [.v t p]).R x ρ ro w u) → (g x = false → (VD.cells false [.v t q]).R x ρ ro w v) →
      (VD.cells false [CV.v t fun x => if g x = true then p x else q x]).R x ρ ro w (if g x then u else v) := by
    intro t p q h1 h2
    cases hg : g x with
    | true =>
      have := h1 hg
      simp only [if_true]
      refine VD.R_one ?_ this.2
      have h3 : t.K ro w (p x) [u] := VD.one_R this
      show t.K ro w (if g x = true then p x else q x) [u]
      rw [if_pos hg]
      exact h3
    | false =>
      have := h2 hg
      simp only [Bool.false_eq_true, if_false]
      refine VD.R_one ?_ this.2
      have h3 : t.K ro w (q x) [v] := VD.one_R this
      show t.K ro w (if g x = true then p x else q x) [v]
      rw [if_neg (by rw [hg]; simp)]
      exact h3
  unfold pickV at h
  split at h
  · cases h
    exact hcomb .bool _ _ hd he
  · split at h
    · rename_i ht
      subst ht
      cases h
      exact hcomb _ _ _ hd he
    · cases h
  · cases h

theorem valField_R {t : TypeId} {f : Nat} {d vd : VD X} {c : Option (X → Bool)} (h : valField P t f d = some (c, vd)) {u : Value} (hR : d.R x ρ ro w u) :
    ∃ r, (Instr.field t u f).run P w = .ok r w ∧ vd.R x ρ ro w r := by
  unfold valField at h
  split at h
  · rename_i cs
    split at h
    · rename_i fs hs
      split at h
      · rename_i fd hf
        split at h
        · rename_i agg n hsh
          split at h
          · rename_i ds hcut
            cases hof : ofCells agg ds with
            | none => rw [hof] at h; cases h
            | some d0 =>
              rw [hof] at h
              cases h
              obtain ⟨us, rfl, hcs, h1⟩ := hR
              obtain ⟨c1, c2, c3⟩ := cut_R hcut hcs
              have hones : ∀ v ∈ (us.drop fd.offset).take n, v.oneCell' = true := fun v hv => h1 v (List.mem_of_mem_drop (List.mem_of_mem_take hv))
              obtain ⟨g1, g2⟩ := ofCells_R hof c1 hones
              unfold Program.shapeOf at hsh
              split at hsh
              · rename_i dd ii hdd hii
                cases hsh
                have hagg : (isAgg fd.type).run P w = .ok dd.isRow w := by
                  unfold isAgg
                  rw [Sem.run_bind, run_underlying hdd w]
                  cases dd <;> rfl
                cases hb : dd.isRow with
                | true =>
                  refine ⟨_, ?_, g1 hb⟩
                  rw [hb] at hagg
                  simp [Instr.field, run_underlying hs, hf, part, asAgg, hagg, sizeOf, typeInfo, hii]
                | false =>
                  obtain ⟨v, hv, hR⟩ := g2 hb
                  refine ⟨v, ?_, hR⟩
                  rw [hb] at hagg
                  have hget : us[fd.offset]? = some v := by
                    have h0 : ((us.drop fd.offset).take ii.size)[0]? = some v := by rw [hv]; rfl
                    rw [List.getElem?_take] at h0
                    split at h0
                    · simpa using h0
                    · cases h0
                  simp [Instr.field, run_underlying hs, hf, part, asAgg, hagg, hget]
              · cases hsh
          · cases h
        · cases h
      · cases h
    · cases h
  · cases h
end
end Go.Sym

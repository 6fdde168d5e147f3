import Derived.Test.YtmogjjnghkfmnaaGreatS5
import Derived.Laws.StructEq
import Derived.Laws.Small
/-! Operations that yield a value and leave the world alone: operands, guards, numbers, strings, bools. -/
namespace Go.Sym
section
variable {X : Type}

def subD (l l' : List (Nat × Bool)) : Bool := l.all fun p => l'.contains p
theorem subD_mem {l l' : List (Nat × Bool)} (h : subD l l' = true) : ∀ p ∈ l, p ∈ l' := fun p hp => by
  have := List.all_eq_true.1 h p hp
  simpa using this
theorem Valid_sub {σ : St X} {x : X} {l l' : List (Nat × Bool)} (h : subD l l' = true) (hv : σ.Valid x l') : σ.Valid x l := fun p hp => hv p (subD_mem h p hp)

def constVD : Value → Option (VD X)
  | .int .u8 n => if 0 ≤ n ∧ n < 256 then some (.cells false [.v .u8 (fun _ => UInt8.ofNat n.toNat)]) else none
  | .int k n => some (.cells false [.v (.int k) (fun _ => n)])
  | .bool b => some (.cells false [.v .bool (fun _ => b)])
  | .string s => some (.cells false [.v .str (fun _ => s.data.toList)])
  | .slice none 0 0 => some (.cells false [.nils])
  | _ => none

def St.opnd (σ : St X) (deps : List (Nat × Bool)) : Operand → Option (VD X)
  | .tmp t => match σ.tmps t with
    | some ⟨_, some l, vd⟩ => if subD l deps then some vd else none
    | _ => none
  | .const v => constVD v
  | .func f => some (.cells false [.clo f []])
  | _ => none

variable {x : X} {ρ : Env} {ro : Bl → Prop} {w : World}
theorem VD.R_one {c : CV X} {u : Value} (h : c.R x ρ ro w u) (h1 : u.oneCell' = true) : (VD.cells false [c]).R x ρ ro w u := ⟨⟨h, trivial⟩, h1⟩
theorem VD.one_R {c : CV X} {u : Value} (h : (VD.cells false [c]).R x ρ ro w u) : c.R x ρ ro w u := h.1.1

theorem u8_of {n : Int} (h : 0 ≤ n ∧ n < 256) : (((UInt8.ofNat n.toNat).toNat : Nat) : Int) = n := by
  simp only [UInt8.toNat_ofNat']
  omega

theorem constVD_R {v : Value} {d : VD X} (h : constVD v = some d) : d.R x ρ ro w v := by
  unfold constVD at h
  split at h
  · split at h
    · rename_i hn
      obtain rfl := Option.some.inj h
      exact VD.R_one (by simp only [CV.R, Ty.K, u8_of hn]) rfl
    · cases h
  · obtain rfl := Option.some.inj h
    exact VD.R_one (by simp only [CV.R, Ty.K]) rfl
  · obtain rfl := Option.some.inj h
    exact VD.R_one (by simp only [CV.R, Ty.K]) rfl
  · obtain rfl := Option.some.inj h
    exact VD.R_one (by simp only [CV.R, Ty.K]; rfl) rfl
  · obtain rfl := Option.some.inj h
    exact VD.R_one rfl rfl
  · cases h

variable {nt : Nat} {en : En} {σ : St X} {a : Act}
theorem opnd_Rr {deps : List (Nat × Bool)} {o : Operand} {d : VD X} (h : σ.opnd deps o = some d) (hs : SimR ro σ x a w ρ) (hv : σ.Valid x deps) : d.R x ρ ro w (a.eval o) := by
  cases o with
  | tmp t =>
    simp only [St.opnd] at h
    split at h
    · rename_i _ ok l vd ht
      split at h
      · rename_i hsub
        obtain rfl := Option.some.inj h
        obtain ⟨g1, _, g3⟩ := hs.tm t _ ht
        obtain ⟨u, hu, hR⟩ := g1 ((g3 l rfl).2 (Valid_sub hsub hv))
        have : a.eval (.tmp t) = u := by simp [Act.eval, hu]
        rw [this]
        exact hR
      · cases h
    · cases h
  | const v => exact constVD_R h
  | global _ => simp [St.opnd] at h
  | func f =>
    simp only [St.opnd] at h
    obtain rfl := Option.some.inj h
    exact VD.R_one ⟨[], rfl, rfl, fun j c v hc => by simp at hc⟩ rfl

/-! ### guards -/
def St.guardOf (σ : St X) (os : Array Oper) (o : Oper) : Option ((X → Bool) × List (Nat × Bool)) :=
  match o.guard with
  | none => some (fun _ => true, [])
  | some (j, want) =>
    match (os[j]?).bind (·.dst) with
    | none => none
    | some t => match σ.tmps t with
      | some ⟨okj, some lj, vd⟩ => match vd.bool? with
        | some g => some (fun x => okj x && (g x == want), (t, want) :: lj)
        | none => none
      | _ => none

theorem bool?_R {vd : VD X} {g : X → Bool} (h : vd.bool? = some g) {u : Value} (hR : vd.R x ρ ro w u) : u = .bool (g x) := by
  unfold VD.bool? at h
  split at h
  · cases h
    have h2 : Ty.bool.K ro w (g x) [u] := VD.one_R hR
    simpa [Ty.K] using h2
  · cases h

theorem guardOf_Rr {os : Array Oper} {o : Oper} {ok : X → Bool} {deps : List (Nat × Bool)} (h : σ.guardOf os o = some (ok, deps)) (hs : SimR ro σ x a w ρ) :
    (ok x = true ↔ σ.Valid x deps) ∧ Region.wanted o (yielded os a.tmps) = ok x := by
  unfold St.guardOf at h
  split at h
  · rename_i hg
    cases h
    exact ⟨⟨(fun _ p hp => (by cases hp)), fun _ => rfl⟩, by simp [Region.wanted, hg]⟩
  · rename_i j want hg
    split at h
    · cases h
    · rename_i t ht
      split at h
      · rename_i _ okj lj vd hst
        split at h
        · rename_i g hb
          cases h
          obtain ⟨g1, g2, g3⟩ := hs.tm t _ hst
          have hgv : σ.gv t x = some (g x) := by simp [St.gv, hst, hb]
          have hval : ((okj x && (g x == want)) = true ↔ σ.Valid x ((t, want) :: lj)) := by
            rw [Bool.and_eq_true]
            constructor
            · rintro ⟨e1, e2⟩ p hp
              rcases List.mem_cons.1 hp with rfl | hp
              · rw [hgv]; simpa using e2
              · exact (g3 lj rfl).1 e1 p hp
            · intro hv
              refine ⟨(g3 lj rfl).2 (fun p hp => hv p (List.mem_cons_of_mem _ hp)), ?_⟩
              have := hv (t, want) (by simp)
              rw [hgv] at this
              simpa using this
          refine ⟨hval, ?_⟩
          have hy : yielded os a.tmps j = if okj x = true then some (g x) else none := by
            unfold yielded
            rw [ht]
            cases hok : okj x with
            | true =>
              obtain ⟨u, hu, hR⟩ := g1 hok
              have := bool?_R hb hR
              simp [hu, this]
            | false =>
              have := g2 hok
              simp [this, undef]
          simp only [Region.wanted, hg, hy]
          cases okj x <;> simp
        · cases h
      · cases h

/-! ### numbers -/
def CV.num : CV X → Option (IntKind × (X → Int))
  | .v (.int k) g => if k = .u8 then none else some (k, g)
  | .v .u8 g => some (.u8, fun x => ((UInt8.toNat (g x) : Nat) : Int))
  | _ => none
def mkNum (k : IntKind) (g : X → Int) : CV X :=
  match k with
  | .u8 => .v .u8 (fun x => UInt8.ofNat (g x).toNat)
  | k => .v (.int k) g
theorem num_R {c : CV X} {k : IntKind} {g : X → Int} (h : c.num = some (k, g)) {u : Value} (hR : c.R x ρ ro w u) : u = .int k (g x) := by
  unfold CV.num at h
  split at h
  · split at h
    · cases h
    · cases h
      simpa [CV.R, Ty.K] using hR
  · cases h
    simpa [CV.R, Ty.K] using hR
  · cases h
theorem num_u8 {c : CV X} {g : X → Int} (h : c.num = some (.u8, g)) (x : X) : 0 ≤ g x ∧ g x < 256 := by
  unfold CV.num at h
  split at h
  · split at h
    · cases h
    · rename_i hne
      cases h
      exact absurd rfl hne
  · rename_i g0
    cases h
    have h1 : UInt8.toNat (g0 x) < 256 := UInt8.toNat_lt (g0 x)
    show 0 ≤ ((UInt8.toNat (g0 x) : Nat) : Int) ∧ ((UInt8.toNat (g0 x) : Nat) : Int) < 256
    omega
  · cases h
theorem mkNum_R {k : IntKind} {g : X → Int} (h : k = .u8 → 0 ≤ g x ∧ g x < 256) : (mkNum k g).R x ρ ro w (.int k (g x)) := by
  cases k with
  | u8 => simp only [mkNum, CV.R, Ty.K, u8_of (h rfl)]
  | _ => simp only [mkNum, CV.R, Ty.K]
theorem wrap_u8 (n : Int) : 0 ≤ IntKind.u8.wrap n ∧ IntKind.u8.wrap n < 256 := by
  simp only [IntKind.wrap, IntKind.signed, IntKind.bits]
  simp
  omega
end
end Go.Sym

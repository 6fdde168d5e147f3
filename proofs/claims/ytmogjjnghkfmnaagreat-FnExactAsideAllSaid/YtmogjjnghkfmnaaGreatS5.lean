import Derived.Test.YtmogjjnghkfmnaaGreatS4
import Derived.Orders
/-! Code is run over descriptors, in continuation style: what comes out is a plain function and the proof that the machine does what it says. -/
namespace Go.Sym

/-- Where fn gives r, the machine meets W from every state that σ describes. -/
structure Fn (nt : Nat) {R : Type} (W : En → R → Act → World → Prop) {X : Type} (σ : St X) where
  fn : X → Option R
  ok : ∀ en r x a w ρ, fn x = some r → Sim nt en σ x a w ρ → W en r a w
/-- What follows a call (kept shut, so that a call is seen as one). -/
@[irreducible] def obind {α β : Type} (x : Option α) (f : α → Option β) : Option β := x.bind f
theorem obind_eq {α β : Type} (x : Option α) (f : α → Option β) : obind x f = x.bind f := by unfold obind; rfl
theorem obind_congr {α β : Type} {x y : Option α} {f g : α → Option β} (h : x = y) (h2 : ∀ r, f r = g r) : obind x f = obind y g := by rw [h, show f = g from funext h2]
abbrev Fam (R : Type) := En → R → Exit → Act → World → Prop
abbrev Kont (nt : Nat) {R : Type} (W : En → R → Act → World → Prop) := ∀ (X : Type) (σ : St X), Fn nt W σ

section
variable {nt : Nat} {R : Type} {W : En → R → Act → World → Prop} {X : Type} {σ : St X}
def Fn.fail : Fn nt W σ := ⟨fun _ => none, fun _ _ _ _ _ _ h => by cases h⟩
/-- What is done to a state ahead of a join. -/
structure Prep where
  f : {X : Type} → JS → St X → St X
  ok : ∀ {X : Type} {x : X} {nt : Nat} {en : En} {σ : St X} {a : Act} {w : World} {ρ : Env} (J : JS), Sim nt en σ x a w ρ → ∃ ρ', Sim nt en (f J σ) x a w ρ'
/-- Through a join. -/
def Fn.via (pr : Prep) (J : JS) (k : Fn nt W J.st) (σ : St X) : Fn nt W σ :=
  match h : J.enter (pr.f J σ) with
  | none => .fail
  | some m => ⟨fun x => k.fn (m x), fun en r x a w _ hf hs => by
      obtain ⟨ρ', hs'⟩ := pr.ok J hs
      exact k.ok en r (m x) a w _ hf (JS.enter_R h hs')⟩
def Kont.join (pr : Prep) (J : Option JS) (κ : Kont nt W) : Kont nt W :=
  match J with
  | none => κ
  | some J => fun _ σ => Fn.via pr J (κ J.T J.st) σ
def Fn.imp {W' : En → R → Act → World → Prop} (k : Fn nt W σ) (h : ∀ en r a w, W en r a w → W' en r a w) : Fn nt W' σ :=
  ⟨k.fn, fun en r x a w ρ hf hs => h _ _ _ _ (k.ok en r x a w ρ hf hs)⟩
end

/-- A loop behind its first step. -/
def LoopWp (P : Program) (c : Code) (Q : Exit → Act → World → Prop) (a : Act) (w : World) : Prop :=
  ∀ (b : Frame) (k : List Item) (cs : List Frame),
    ∃ e a' w', Q e a' w' ∧ Arrives P (lone (b.at a (.code c :: .inLoop c :: k)) cs w) b k cs e a' w'
theorem LoopWp.wp {P : Program} {c : Code} {Q : Exit → Act → World → Prop} {a : Act} {w : World} (h : LoopWp P c Q a w) : (Code.loop c).wp P Q a w :=
  fun b k cs => let ⟨e, a', w', q, r⟩ := h b k cs; ⟨e, a', w', q, .of_steps (.one step_loop) r⟩
theorem LoopWp.unroll {P : Program} {c : Code} {Q : Exit → Act → World → Prop} {a : Act} {w : World} (h : c.wp P (Exit.then (LoopWp P c Q) Q) a w) : LoopWp P c Q a w := by
  intro b k cs
  obtain ⟨e, a₁, w₁, hq, harr⟩ := h b (.inLoop c :: k) cs
  cases e with
  | normal =>
    obtain ⟨e₂, a₂, w₂, hq₂, harr₂⟩ := hq b k cs
    exact ⟨e₂, a₂, w₂, hq₂, .of_steps (Steps.trans harr (.one step_inLoop)) harr₂⟩
  | exit id => exact ⟨_, a₁, w₁, hq, .pass (x := .inLoop c) rfl (fun _ _ => .inl (by simp)) harr⟩
  | goto l => exact ⟨_, a₁, w₁, hq, .pass (x := .inLoop c) rfl (fun _ _ => .inl (by simp)) harr⟩
  | ret => exact ⟨_, a₁, w₁, hq, .pass (x := .inLoop c) rfl (fun _ _ => .inl (by simp)) harr⟩
  | panic ch => exact ⟨_, a₁, w₁, hq, .pass (x := .inLoop c) rfl (fun _ _ => .inl (by simp)) harr⟩
  | outgrown => exact ⟨_, a₁, w₁, hq, .pass (x := .inLoop c) rfl (fun _ _ => .inl (by simp)) harr⟩

/-- The first region that stands in a code: by it joins are named. -/
def first : Code → Nat
  | .region id _ _ => id
  | .seq a _ => first a
  | .cond _ a _ => first a
  | .block _ c | .loop c | .scope c => first c
  | _ => 99999
def joins : Code → Bool
  | .cond _ _ _ | .block _ _ => true
  | .seq _ d => joins d
  | _ => false
def find (hs : List (Nat × JS)) (k : Nat) : Option JS := (hs.find? (fun p => p.1 == k)).map (·.2)

def VD.bool {X : Type} : VD X → Option (X → Bool)
  | .cells false [.v .bool g] => some g
  | _ => none
/-- An operand's bool, unguarded. -/
def St.flag {X : Type} (σ : St X) : Operand → Option (X → Bool)
  | .tmp t => match σ.tmps t with
    | some ⟨_, some [], vd⟩ => vd.bool
    | _ => none
  | .const (.bool b) => some fun _ => b
  | _ => none
theorem St.flag_R {X : Type} {σ : St X} {c : Operand} {g : X → Bool} (h : σ.flag c = some g) {nt : Nat} {en : En} {x : X} {a : Act} {w : World} {ρ : Env} (hs : Sim nt en σ x a w ρ) : a.eval c = .bool (g x) := by
  cases c with
  | tmp t =>
    simp only [St.flag] at h
    split at h
    · rename_i _ ok vd ht
      obtain ⟨g1, _, g3⟩ := hs.tm t _ ht
      obtain ⟨u, hu, hR⟩ := g1 ((g3 [] rfl).2 (fun p hp => by cases hp))
      unfold VD.bool at h
      split at h
      · cases h
        have h2 : Ty.bool.K (RO en σ ρ w) w (g x) [u] := hR.1.1
        simp only [Ty.K, List.cons.injEq, and_true] at h2
        simp [Act.eval, hu, h2]
      · cases h
    · cases h
  | const v =>
    cases v with
    | bool b => simp only [St.flag] at h; obtain rfl := Option.some.inj h; rfl
    | _ => simp [St.flag] at h
  | global _ => simp [St.flag] at h
  | func _ => simp [St.flag] at h

section
variable (P : Program) (nt : Nat) {R : Type}
/-- How a region is run. -/
abbrev Reg := ∀ (id : Nat) (os : Array Oper) (draw : Bool) (Q : Fam R) (_ : Kont nt (fun en r => Q en r .normal)) (X : Type) (σ : St X), Fn nt (fun en r => (Code.region id os draw).wp P (Q en r)) σ

def loopFn {X : Type} {W : En → R → Act → World → Prop} {σ : St X} (B : Fn nt W σ → Fn nt W σ) : Nat → Fn nt W σ
  | 0 => .fail
  | m + 1 => B (loopFn B m)

def exec (pr : Prep) (reg : Reg P nt (R := R)) (n : Nat) (hs : List (Nat × JS)) : (c : Code) → (Q : Fam R) → (∀ id, Kont nt (fun en r => Q en r (.exit id))) → Kont nt (fun en r => Q en r .ret) → Kont nt (fun en r => Q en r .normal) →
    (X : Type) → (σ : St X) → Fn nt (fun en r => c.wp P (Q en r)) σ
  | .skip, _, _, _, κ, X, σ => (κ X σ).imp fun _ _ _ _ h => wp_skip h
  | .region id os draw, Q, _, _, κ, X, σ => reg id os draw Q κ X σ
  | .seq c d, Q, E, rt, κ, X, σ =>
    let κd : Kont nt (fun en r => d.wp P (Q en r)) := exec pr reg n hs d Q E rt κ
    let κd' := if joins c then Kont.join pr (find hs (first d)) κd else κd
    (exec pr reg n hs c (fun en r => Exit.then (d.wp P (Q en r)) (Q en r)) E rt κd' X σ).imp fun _ _ _ _ h => wp_seq h
  | .cond t c d, Q, E, rt, κ, X, σ =>
    match h : σ.flag t with
    | none => .fail
    | some g =>
      let f1 := exec pr reg n hs c Q E rt κ X σ
      let f2 := exec pr reg n hs d Q E rt κ X σ
      ⟨fun x => if g x = true then f1.fn x else f2.fn x, fun en r x a w ρ hf hsim => by
        have he := St.flag_R h hsim
        by_cases hg : g x = true
        · rw [if_pos hg] at hf
          exact wp_cond_true (by rw [he, hg]) (f1.ok en r x a w ρ hf hsim)
        · rw [if_neg hg] at hf
          have hg' : g x = false := by simpa using hg
          exact wp_cond_false (by rw [he, hg']) (f2.ok en r x a w ρ hf hsim)⟩
  | .block id c, Q, E, rt, κ, X, σ =>
    (exec pr reg n hs c (fun en r => Exit.inBlock id (Q en r))
      (fun id' X' σ' => ⟨fun x => if id' = id then (κ X' σ').fn x else (E id' X' σ').fn x, fun en r x a w ρ hf hsim => by
        show Exit.inBlock id (Q en r) (.exit id') a w
        simp only [Exit.inBlock]
        by_cases hid : id' = id
        · rw [if_pos hid] at hf ⊢
          exact (κ X' σ').ok en r x a w ρ hf hsim
        · rw [if_neg hid] at hf ⊢
          exact (E id' X' σ').ok en r x a w ρ hf hsim⟩) rt κ X σ).imp fun _ _ _ _ h => wp_block h
  | .loop c, Q, E, rt, _, X, σ =>
    match find hs (100000 + first c) with
    | none => .fail
    | some J =>
      (Fn.via pr J (loopFn nt (W := fun en r => LoopWp P c (Q en r)) (σ := J.st) (fun k =>
        (exec pr reg n hs c (fun en r => Exit.then (LoopWp P c (Q en r)) (Q en r)) E rt (fun _ σ' => Fn.via pr J k σ') J.T J.st).imp fun _ _ _ _ h => LoopWp.unroll h) n) σ).imp fun _ _ _ _ h => h.wp
  | .exit id, _, E, _, _, X, σ => (E id X σ).imp fun _ _ _ _ h => wp_exit h
  | .ret, _, _, rt, _, X, σ => (rt X σ).imp fun _ _ _ _ h => wp_ret h
  | _, _, _, _, _, _, _ => .fail
end
/-! ### what an operation needs to know -/
structure MemR {X : Type} (ro : Bl → Prop) (σ : St X) (x : X) (w : World) (ρ : Env) : Prop where
  ob : ∀ id od, σ.objs id = some od → od.R x ρ ro w id
structure SimR {X : Type} (ro : Bl → Prop) (σ : St X) (x : X) (a : Act) (w : World) (ρ : Env) : Prop where
  tm : ∀ t e, σ.tmps t = some e → (e.ok x = true → ∃ u, a.tmps[t]? = some u ∧ e.vd.R x ρ ro w u) ∧ (e.ok x = false → a.tmps[t]? = some undef) ∧
    ∀ l, e.deps = some l → (e.ok x = true ↔ σ.Valid x l)
  mem : MemR ro σ x w ρ
theorem Sim.toR {X : Type} {nt : Nat} {en : En} {σ : St X} {x : X} {a : Act} {w : World} {ρ : Env} (h : Sim nt en σ x a w ρ) : SimR (RO en σ ρ w) σ x a w ρ := ⟨h.tm, ⟨h.mem.ob⟩⟩
theorem Mem.toR {X : Type} {en : En} {σ : St X} {x : X} {w : World} {ρ : Env} (h : Mem en σ x w ρ) : MemR (RO en σ ρ w) σ x w ρ := ⟨h.ob⟩
end Go.Sym

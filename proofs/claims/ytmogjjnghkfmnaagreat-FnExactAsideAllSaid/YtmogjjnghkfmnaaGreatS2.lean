import Derived.Test.YtmogjjnghkfmnaaGreatS1
/-! Descriptors over a context X: what is known of temporaries and of memory; the relation to the machine. -/
namespace Go.Sym

/-- Where an object lies: cells of a block from o on (what lies outside is 'outer'), or a row of the call's own, by its header. -/
inductive RB where
  | box (b o : Nat) (t : TypeId) (outer : Array Value)
  | row (v : Value)
def RB.block : RB → Option Nat
  | .box b _ _ _ => some b
  | .row v => v.ownBlock
abbrev Env := Nat → RB

/-- One cell: a value, the nil slice, a place in a box, a row of the call's own, a place in an element that is read, a place in an element of an own row, a closure over cells, anything. -/
inductive CV (X : Type) where
  | v (t : Ty) (g : X → t.D)
  | nils
  | ptr (id off : Nat)
  | row (id : Nat)
  | ep (k : Cls) (e : Ty) (g : X → e.D) (off : Nat)
  | rp (id : Nat) (e : Ty) (i : X → Nat) (off : Nat)
  | clo (f : Nat) (caps : List (Nat × Nat))
  | un

section
variable {X : Type} (x : X) (ρ : Env) (ro : Bl → Prop) (w : World)
def CV.R : CV X → Value → Prop
  | .v t g, u => t.K ro w (g x) [u]
  | .nils, u => u = .slice none 0 0
  | .ptr id off, u => ∃ b o t outer, ρ id = .box b o t outer ∧ u = .pointer (some ⟨b, o + off, none⟩)
  | .row id, u => ρ id = .row u
  | .ep k e g off, u => ∃ (p : Addr) (us : List Value), u = .pointer (some (p.add off)) ∧ RoW ro w p.block k ∧ e.K ro w (g x) us ∧ ∀ (j : Nat) (c : Value), us[j]? = some c → w.cell? (p.add j) = some c
  | .rp id e i off, u => ∃ b n c, ρ id = .row (.slice (some ⟨b, 0, none⟩) n c) ∧ i x < n ∧ u = .pointer (some ⟨b, i x * e.size + off, none⟩)
  | .clo f caps, u => ∃ av : List Value, u = .func (.func f) #[] av.toArray ∧ av.length = caps.length ∧
      ∀ (j : Nat) (c : Nat × Nat) (v : Value), caps[j]? = some c → av[j]? = some v → ∃ b o t outer, ρ c.1 = .box b o t outer ∧ v = .pointer (some ⟨b, o + c.2, none⟩)
  | .un, _ => True

def CsR : List (CV X) → List Value → Prop
  | [], [] => True
  | c :: cs, u :: us => c.R x ρ ro w u ∧ CsR cs us
  | _, _ => False
end

inductive VD (X : Type) where
  | cells (agg : Bool) (cs : List (CV X))
  | tup (l : List (Bool × List (CV X)))

section
variable {X : Type} (x : X) (ρ : Env) (ro : Bl → Prop) (w : World)
def PartR (p : Bool × List (CV X)) (u : Value) : Prop :=
  match p with
  | (true, cs) => ∃ us : List Value, u = .agg us.toArray ∧ CsR x ρ ro w cs us ∧ ∀ v ∈ us, v.oneCell' = true
  | (false, cs) => CsR x ρ ro w cs [u] ∧ u.oneCell' = true
def PartsR : List (Bool × List (CV X)) → List Value → Prop
  | [], [] => True
  | p :: ps, u :: us => PartR x ρ ro w p u ∧ PartsR ps us
  | _, _ => False
def VD.R : VD X → Value → Prop
  | .cells agg cs, u => PartR x ρ ro w (agg, cs) u
  | .tup l, u => ∃ us : List Value, u = .tuple us.toArray ∧ PartsR x ρ ro w l us
end

/-- An object: a box's cells, or a row of elements (type e; te: the machine's number). -/
inductive OD (X : Type) where
  | box (cs : List (CV X))
  | row (e : Ty) (te : TypeId) (g : X → List e.D)

def RowsK (e : Ty) (ro : Bl → Prop) (w : World) (xs : List e.D) (cells : List Value) : Prop :=
  cells.length = xs.length * e.size ∧ ∀ (i : Nat) (x : e.D), xs[i]? = some x → e.K ro w x ((cells.drop (i * e.size)).take e.size)

def OD.R {X : Type} (x : X) (ρ : Env) (ro : Bl → Prop) (w : World) (id : Nat) : OD X → Prop
  | .box cs => ∃ b o t outer cur, ρ id = .box b o t outer ∧ w.heap[b]? = some (.cells cur t (0, 0)) ∧ cur.size = outer.size ∧ o + cs.length ≤ cur.size ∧
      (∀ j, j < o ∨ o + cs.length ≤ j → cur[j]? = outer[j]?) ∧
      ∃ us : List Value, us.length = cs.length ∧ (∀ (j : Nat) (u : Value), us[j]? = some u → cur[o + j]? = some u) ∧ CsR x ρ ro w cs us ∧ ∀ u ∈ us, u.oneCell' = true
  | .row e te g => ∃ h inner, ρ id = .row h ∧ w.ownsRow 0 te e.size h (g x).length inner ∧ RowsK e ro w (g x) inner

/-- What is known of a temporary where ok holds (else it is undefined); deps: ok says that these temporaries hold these bools. -/
structure TE (X : Type) where
  ok : X → Bool
  deps : Option (List (Nat × Bool))
  vd : VD X

structure St (X : Type) where
  tmps : Nat → Option (TE X)
  objs : Nat → Option (OD X)

/-- The call's own beginning: the world then, which of its blocks may be written, which blocks what came in may lie in. -/
structure En where
  w0 : World
  lent : Nat → Prop
  ro : Nat → Prop
  /-- which blocks may be marked -/
  hl : Nat → Prop
  /-- which blocks that came in are named as such -/
  od : Nat → Prop
  /-- where object 63 lies, if it came in -/
  fx : Option RB

def VD.bool? {X : Type} : VD X → Option (X → Bool)
  | .cells false [.v .bool g] => some g
  | _ => none
def St.gv {X : Type} (σ : St X) (j : Nat) (x : X) : Option Bool := (σ.tmps j).bind fun e => e.vd.bool?.map fun g => g x
def St.Valid {X : Type} (σ : St X) (x : X) (gl : List (Nat × Bool)) : Prop := ∀ p ∈ gl, σ.gv p.1 x = some p.2

def En.cl (en : En) : Bl → Prop
  | (b, .any) => en.ro b ∨ en.w0.heap.size ≤ b ∨ en.lent b
  | (b, .new) => (en.hl b ∧ en.ro b) ∨ en.w0.heap.size ≤ b ∨ en.lent b
  | (b, .old) => (en.ro b ∧ en.od b) ∧ b < en.w0.heap.size ∧ ¬ en.lent b ∧ ¬ en.hl b
theorem En.cl_any {en : En} {b : Nat} : ∀ {k : Cls}, en.cl (b, k) → en.cl (b, .any)
  | .any, h => h
  | .new, h => h.elim (fun h => .inl h.2) .inr
  | .old, h => .inl h.1.1
def RO {X : Type} (en : En) (σ : St X) (ρ : Env) (w : World) (b : Bl) : Prop :=
  en.cl b ∧ b.1 < w.heap.size ∧ ∀ i, σ.objs i ≠ none → (ρ i).block ≠ some b.1
theorem RO.toAny {X : Type} {en : En} {σ : St X} {ρ : Env} {w : World} {b : Nat} {k : Cls} (h : RO en σ ρ w (b, k)) : RO en σ ρ w (b, .any) := ⟨En.cl_any h.1, h.2⟩

/-- The tables stand, as long as nothing is written that came in. -/
def Good (en : En) : Prop := ∀ w' : World, (∀ b, b < en.w0.heap.size → ¬ en.lent b → ¬ en.hl b → w'.heap[b]? = en.w0.heap[b]?) → Tabs w'
structure Fr (en : En) (w : World) : Prop where
  os : w.os = en.w0.os
  tape : w.tape = en.w0.tape
  output : w.output = en.w0.output
  size : en.w0.heap.size ≤ w.heap.size
  block : ∀ b, b < en.w0.heap.size → ¬ en.lent b → ¬ en.hl b → w.heap[b]? = en.w0.heap[b]?
  keep : ∀ ad u, en.hl ad.block → ¬ en.lent ad.block → en.w0.cell? ad = some u → ∃ u', w.cell? ad = some u' ∧ Like u u'
  fz : ∀ b off, en.hl b → ¬ en.lent b → b < en.w0.heap.size → w.frozen? ⟨b, off, none⟩ = en.w0.frozen? ⟨b, off, none⟩
  tb : Good en
theorem Fr.tabs {en : En} {w : World} (h : Fr en w) : Tabs w := h.tb w h.block
theorem Fr.good {en en' : En} {w : World} (h : Fr en w) (hw : en'.w0 = w) (hs : ∀ b, b < en.w0.heap.size → ¬ en.lent b → ¬ en.hl b → ¬ en'.lent b ∧ ¬ en'.hl b) : Good en' := fun w' hh =>
  h.tb w' fun b h1 h2 h3 => by
    subst hw
    exact (hh b (Nat.lt_of_lt_of_le h1 h.size) (hs b h1 h2 h3).1 (hs b h1 h2 h3).2).trans (h.block b h1 h2 h3)

structure Mem {X : Type} (en : En) (σ : St X) (x : X) (w : World) (ρ : Env) : Prop where
  ob : ∀ id od, σ.objs id = some od → od.R x ρ (RO en σ ρ w) w id
  inj : ∀ i j, σ.objs i ≠ none → σ.objs j ≠ none → i ≠ j → ∀ b, (ρ i).block = some b → (ρ j).block ≠ some b
  new : ∀ i, σ.objs i ≠ none → ∀ b, (ρ i).block = some b → b < w.heap.size ∧ (en.w0.heap.size ≤ b ∨ en.lent b)
  fr : Fr en w
  fix : ∀ v, en.fx = some v → σ.objs 63 ≠ none → ρ 63 = v

structure Sim {X : Type} (nt : Nat) (en : En) (σ : St X) (x : X) (a : Act) (w : World) (ρ : Env) : Prop where
  tm : ∀ t e, σ.tmps t = some e → (e.ok x = true → ∃ u, a.tmps[t]? = some u ∧ e.vd.R x ρ (RO en σ ρ w) w u) ∧ (e.ok x = false → a.tmps[t]? = some undef) ∧
    ∀ l, e.deps = some l → (e.ok x = true ↔ σ.Valid x l)
  mem : Mem en σ x w ρ
  nt : a.tmps.size = nt
  df : a.defers = []

/-! ### moving along -/
section
variable {X : Type} {x : X} {ρ ρ' : Env} {ro ro' : Bl → Prop} {w w' : World}

/-- Which objects a cell names. -/
def CV.ids : CV X → List Nat
  | .ptr id _ | .row id | .rp id _ _ _ => [id]
  | .clo _ caps => caps.map (·.1)
  | _ => []

theorem CV.R_mono (hr : ∀ b, ro b → ro' b) (hw : ∀ b, ro b → w'.heap[b.1]? = w.heap[b.1]?) {c : CV X} (hρ : ∀ i ∈ c.ids, ρ' i = ρ i) {u : Value} (h : c.R x ρ ro w u) : c.R x ρ' ro' w' u := by
  cases c with
  | v t g => exact Ty.K_mono hr hw t _ _ h
  | nils => exact h
  | ptr id off =>
    obtain ⟨b, o, t, outer, h1, h2⟩ := h
    exact ⟨b, o, t, outer, by rw [hρ id (by simp [CV.ids])]; exact h1, h2⟩
  | row id => show ρ' id = _; rw [hρ id (by simp [CV.ids])]; exact h
  | ep k e g off =>
    obtain ⟨p, us, h1, h2, h3, h4⟩ := h
    refine ⟨p, us, h1, h2.mono hr hw, Ty.K_mono hr hw e _ _ h3, fun j c hc => ?_⟩
    have hb : (p.add j).block = p.block := by unfold Addr.add; split <;> rfl
    rw [← h4 j c hc]
    exact World.cell?_of_block (by rw [hb]; exact hw _ h2.1)
  | rp id e i off =>
    obtain ⟨b, n, c, h1, h2⟩ := h
    exact ⟨b, n, c, by rw [hρ id (by simp [CV.ids])]; exact h1, h2⟩
  | clo f caps =>
    obtain ⟨av, h1, h2, h3⟩ := h
    refine ⟨av, h1, h2, fun j c v hc hv => ?_⟩
    obtain ⟨b, o, t, outer, h4, h5⟩ := h3 j c v hc hv
    exact ⟨b, o, t, outer, by rw [hρ c.1 (by simp only [CV.ids]; exact List.mem_map_of_mem (List.mem_of_getElem? hc))]; exact h4, h5⟩
  | un => trivial

theorem CsR_mono (hr : ∀ b, ro b → ro' b) (hw : ∀ b, ro b → w'.heap[b.1]? = w.heap[b.1]?) : ∀ {cs : List (CV X)} (_ : ∀ c ∈ cs, ∀ i ∈ c.ids, ρ' i = ρ i) {us : List Value}, CsR x ρ ro w cs us → CsR x ρ' ro' w' cs us
  | [], _, [], _ => trivial
  | [], _, _ :: _, h => h.elim
  | _ :: _, _, [], h => h.elim
  | c :: cs, hρ, u :: us, h => ⟨CV.R_mono hr hw (hρ c (by simp)) h.1, CsR_mono hr hw (fun c' hc' => hρ c' (List.mem_cons_of_mem _ hc')) h.2⟩

theorem CsR_len : ∀ {cs : List (CV X)} {us : List Value}, CsR x ρ ro w cs us → us.length = cs.length
  | [], [], _ => rfl
  | [], _ :: _, h => h.elim
  | _ :: _, [], h => h.elim
  | _ :: cs, _ :: us, h => by simp [CsR_len h.2]
theorem CsR_get : ∀ {cs : List (CV X)} {us : List Value}, CsR x ρ ro w cs us → ∀ {j : Nat} {c : CV X} {u : Value}, cs[j]? = some c → us[j]? = some u → c.R x ρ ro w u
  | [], [], _, j, c, u, hc, _ => by simp at hc
  | [], _ :: _, h, _, _, _, _, _ => h.elim
  | _ :: _, [], h, _, _, _, _, _ => h.elim
  | c0 :: cs, u0 :: us, h, 0, c, u, hc, hu => by simp at hc hu; subst hc; subst hu; exact h.1
  | c0 :: cs, u0 :: us, h, j + 1, c, u, hc, hu => CsR_get h.2 (by simpa using hc) (by simpa using hu)
theorem CsR_take : ∀ {cs : List (CV X)} {us : List Value}, CsR x ρ ro w cs us → ∀ n, CsR x ρ ro w (cs.take n) (us.take n)
  | [], [], _, n => by simp [CsR]
  | [], _ :: _, h, _ => h.elim
  | _ :: _, [], h, _ => h.elim
  | _ :: _, _ :: _, _, 0 => by simp [CsR]
  | _ :: _, _ :: _, h, n + 1 => ⟨h.1, CsR_take h.2 n⟩
theorem CsR_drop : ∀ {cs : List (CV X)} {us : List Value}, CsR x ρ ro w cs us → ∀ n, CsR x ρ ro w (cs.drop n) (us.drop n)
  | [], [], _, n => by simp [CsR]
  | [], _ :: _, h, _ => h.elim
  | _ :: _, [], h, _ => h.elim
  | _ :: _, _ :: _, h, 0 => h
  | _ :: _, _ :: _, h, n + 1 => CsR_drop h.2 n
theorem CsR_app : ∀ {cs cs' : List (CV X)} {us us' : List Value}, CsR x ρ ro w cs us → CsR x ρ ro w cs' us' → CsR x ρ ro w (cs ++ cs') (us ++ us')
  | [], _, [], _, _, h' => h'
  | [], _, _ :: _, _, h, _ => h.elim
  | _ :: _, _, [], _, h, _ => h.elim
  | _ :: _, _, _ :: _, _, h, h' => ⟨h.1, CsR_app h.2 h'⟩

def VD.ids : VD X → List Nat
  | .cells _ cs => cs.flatMap CV.ids
  | .tup l => l.flatMap fun p => p.2.flatMap CV.ids
def OD.ids : OD X → List Nat
  | .box cs => cs.flatMap CV.ids
  | .row _ _ _ => []

theorem PartR_mono (hr : ∀ b, ro b → ro' b) (hw : ∀ b, ro b → w'.heap[b.1]? = w.heap[b.1]?) {p : Bool × List (CV X)} (hρ : ∀ i ∈ p.2.flatMap CV.ids, ρ' i = ρ i) {u : Value} (h : PartR x ρ ro w p u) : PartR x ρ' ro' w' p u := by
  have h1 : ∀ c ∈ p.2, ∀ i ∈ c.ids, ρ' i = ρ i := fun c hc i hi => hρ i (List.mem_flatMap.2 ⟨c, hc, hi⟩)
  obtain ⟨b, cs⟩ := p
  cases b with
  | true =>
    obtain ⟨us, h2, h3, h4⟩ := h
    exact ⟨us, h2, CsR_mono hr hw h1 h3, h4⟩
  | false => exact ⟨CsR_mono hr hw h1 h.1, h.2⟩
theorem PartsR_mono (hr : ∀ b, ro b → ro' b) (hw : ∀ b, ro b → w'.heap[b.1]? = w.heap[b.1]?) : ∀ {l : List (Bool × List (CV X))} (_ : ∀ i ∈ l.flatMap fun p => p.2.flatMap CV.ids, ρ' i = ρ i) {us : List Value}, PartsR x ρ ro w l us → PartsR x ρ' ro' w' l us
  | [], _, [], _ => trivial
  | [], _, _ :: _, h => h.elim
  | _ :: _, _, [], h => h.elim
  | p :: l, hρ, u :: us, h => ⟨PartR_mono hr hw (fun i hi => hρ i (List.mem_flatMap.2 ⟨p, by simp, hi⟩)) h.1,
      PartsR_mono hr hw (fun i hi => hρ i (by obtain ⟨q, hq, hi⟩ := List.mem_flatMap.1 hi; exact List.mem_flatMap.2 ⟨q, List.mem_cons_of_mem _ hq, hi⟩)) h.2⟩
theorem VD.R_mono (hr : ∀ b, ro b → ro' b) (hw : ∀ b, ro b → w'.heap[b.1]? = w.heap[b.1]?) {v : VD X} (hρ : ∀ i ∈ v.ids, ρ' i = ρ i) {u : Value} (h : v.R x ρ ro w u) : v.R x ρ' ro' w' u := by
  cases v with
  | cells agg cs => exact PartR_mono (p := (agg, cs)) hr hw hρ h
  | tup l =>
    obtain ⟨us, h1, h2⟩ := h
    exact ⟨us, h1, PartsR_mono hr hw hρ h2⟩
end
end Go.Sym

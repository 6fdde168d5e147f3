import Derived.Test.YtmogjjnghkfmnaaGreatS40
/-! Cells that are marked: what is known of the rest. -/
namespace Go.Sym
section
variable {X : Type} {x : X} {ρ : Env} {ro : Bl → Prop} {w w' : World} {P : Program} {en : En} {σ : St X} {nt : Nat} {a : Act} {R : Type}
def CV.safe : CV X → Bool
  | .v t _ => t.safe false
  | .ep kl e _ _ => e.safe (!decide (kl = .old))
  | _ => true
theorem CV.R_kept (hk : Kept ro w w') {c : CV X} (hs : c.safe = true) {u : Value} (h : c.R x ρ ro w u) : c.R x ρ ro w' u := by
  cases c with
  | v t g => exact Ty.K_kept hk hs h rfl (fun j u u' hu hu' => by rw [hu] at hu'; simpa using (Option.some.inj hu').symm)
  | ep kl e g off =>
    obtain ⟨p, us, h1, h2, h3, h4⟩ := h
    have hb : ∀ n, (p.add n).block = p.block := fun n => by unfold Addr.add; split <;> rfl
    by_cases hko : kl = .old
    · subst hko
      refine ⟨p, us, h1, h2.kept hk, Ty.K_kept hk hs h3 rfl (fun j u u' hu hu' => ?_), fun j c hc => ?_⟩
      · rw [hu] at hu'
        simpa using (Option.some.inj hu').symm
      · rw [← h4 j c hc]
        exact World.cell?_of_block (by rw [hb]; exact hk.old _ h2.1)
    · obtain ⟨us2, g1, g2, g3⟩ := like_list (a := p) (o := 0) hk.cell us 0 (fun j u hu => by rw [Nat.zero_add, Nat.zero_add]; exact h4 j u hu)
      refine ⟨p, us2, h1, h2.kept hk, Ty.K_kept hk hs h3 g1 (fun j u u' hu hu' => ?_), fun j u hu => by have := g2 j u hu; rw [Nat.zero_add, Nat.zero_add] at this; exact this⟩
      simpa [hko] using g3 j u u' hu hu'
  | _ => exact h
theorem CsR_kept (hk : Kept ro w w') : ∀ {cs : List (CV X)}, (cs.all CV.safe) = true → ∀ {us : List Value}, CsR x ρ ro w cs us → CsR x ρ ro w' cs us
  | [], _, [], _ => trivial
  | [], _, _ :: _, h => h.elim
  | _ :: _, _, [], h => h.elim
  | c :: cs, hp, u :: us, h => by
    simp only [List.all_cons, Bool.and_eq_true] at hp
    exact ⟨CV.R_kept hk hp.1 h.1, CsR_kept hk hp.2 h.2⟩
theorem PartR_kept (hk : Kept ro w w') {p : Bool × List (CV X)} (hp : (p.2.all CV.safe) = true) {u : Value} (h : PartR x ρ ro w p u) : PartR x ρ ro w' p u := by
  obtain ⟨b, cs⟩ := p
  cases b with
  | true =>
    obtain ⟨us, h2, h3, h4⟩ := h
    exact ⟨us, h2, CsR_kept hk hp h3, h4⟩
  | false => exact ⟨CsR_kept hk hp h.1, h.2⟩
theorem PartsR_kept (hk : Kept ro w w') : ∀ {l : List (Bool × List (CV X))}, (l.all fun p => p.2.all CV.safe) = true → ∀ {us : List Value}, PartsR x ρ ro w l us → PartsR x ρ ro w' l us
  | [], _, [], _ => trivial
  | [], _, _ :: _, h => h.elim
  | _ :: _, _, [], h => h.elim
  | p :: l, hp, u :: us, h => by
    simp only [List.all_cons, Bool.and_eq_true] at hp
    exact ⟨PartR_kept hk hp.1 h.1, PartsR_kept hk hp.2 h.2⟩
def VD.safe : VD X → Bool
  | .cells _ cs => cs.all CV.safe
  | .tup l => l.all fun p => p.2.all CV.safe
theorem VD.R_kept (hk : Kept ro w w') {v : VD X} (hs : v.safe = true) {u : Value} (h : v.R x ρ ro w u) : v.R x ρ ro w' u := by
  cases v with
  | cells agg cs => exact PartR_kept (p := (agg, cs)) hk hs h
  | tup l =>
    obtain ⟨us, h1, h2⟩ := h
    exact ⟨us, h1, PartsR_kept hk hs h2⟩
def OD.safe : OD X → Bool
  | .box cs => cs.all CV.safe
  | .row e _ _ => e.safe false
/-- What is left where cells of new rows were marked. -/
def St.kept (σ : St X) : St X := ⟨fun t => (σ.tmps t).bind fun e => if e.vd.safe = true then some e else none, fun i => (σ.objs i).bind fun o => if o.safe = true then some o else none⟩
theorem bool?_safe {v : VD X} {g : X → Bool} (h : v.bool? = some g) : v.safe = true := by
  unfold VD.bool? at h
  split at h
  · rfl
  · cases h
theorem kept_gv (σ : St X) (j : Nat) : (σ.kept).gv j x = σ.gv j x := by
  unfold St.gv St.kept
  cases hs : σ.tmps j with
  | none => simp [hs]
  | some e =>
    by_cases h : e.vd.safe = true
    · simp [hs, h]
    · simp only [hs, Option.bind_some, if_neg h, Option.bind_none]
      cases hb : e.vd.bool? with
      | none => rfl
      | some g => exact absurd (bool?_safe hb) h
theorem Sim.kept (h : Sim nt en σ x a w ρ) (hos : w'.os = w.os) (htp : w'.tape = w.tape) (hou : w'.output = w.output) (hsz : w.heap.size ≤ w'.heap.size) (hk : Kept (RO en σ ρ w) w w')
    (hb : ∀ b, b < w.heap.size → ¬ RO en σ ρ w (b, .new) → w'.heap[b]? = w.heap[b]?) : Sim nt en σ.kept x a w' ρ := by
  have hlive : ∀ i, σ.kept.objs i ≠ none → σ.objs i ≠ none := fun i hi hn => hi (by simp [St.kept, hn])
  have hro : ∀ b, RO en σ ρ w b → RO en σ.kept ρ w' b := fun b hb => ⟨hb.1, Nat.lt_of_lt_of_le hb.2.1 hsz, fun i hi => hb.2.2 i (hlive i hi)⟩
  have hval : ∀ l, σ.Valid x l ↔ σ.kept.Valid x l := fun l => ⟨fun hv p hp => by rw [kept_gv]; exact hv p hp, fun hv p hp => by rw [← kept_gv]; exact hv p hp⟩
  have hcl : ∀ b, b < en.w0.heap.size → ¬ en.lent b → ¬ en.hl b → ¬ RO en σ ρ w (b, .new) := fun b h1 h2 h3 h4 => by
    rcases h4.1 with h5 | h5 | h5
    · exact h3 h5.1
    · omega
    · exact h2 h5
  refine ⟨fun t e he => ?_, ⟨fun i od ho => ?_, fun i j hi hj => h.mem.inj i j (hlive i hi) (hlive j hj), fun i hi b hb => ⟨Nat.lt_of_lt_of_le (h.mem.new i (hlive i hi) b hb).1 hsz, (h.mem.new i (hlive i hi) b hb).2⟩, ?_, fun v hv h0 => h.mem.fix v hv (hlive 63 h0)⟩, h.nt, h.df⟩
  · simp only [St.kept, Option.bind_eq_some_iff] at he
    obtain ⟨e0, he0, he⟩ := he
    split at he
    · rename_i hsf
      cases he
      obtain ⟨g1, g2, g3⟩ := h.tm t e he0
      refine ⟨fun hok => ?_, g2, fun l hl => (g3 l hl).trans (hval l)⟩
      obtain ⟨u, hu, hR⟩ := g1 hok
      exact ⟨u, hu, VD.R_mono hro (fun _ _ => rfl) (fun _ _ => rfl) (VD.R_kept hk hsf hR)⟩
    · cases he
  · simp only [St.kept, Option.bind_eq_some_iff] at ho
    obtain ⟨o0, ho0, ho⟩ := ho
    split at ho
    · rename_i hsf
      cases ho
      have hR := h.mem.ob i od ho0
      have hil : σ.objs i ≠ none := by rw [ho0]; simp
      have hblk : ∀ b, (ρ i).block = some b → w'.heap[b]? = w.heap[b]? := fun b hb' => hb b (h.mem.new i hil b hb').1 (fun hh => hh.2.2 i hil hb')
      cases od with
      | box cs =>
        obtain ⟨b, o, t, outer, cur, h1, h2, h3, h4, h5, us, h6, h7, h8, h9⟩ := hR
        refine ⟨b, o, t, outer, cur, h1, ?_, h3, h4, h5, us, h6, h7, CsR_mono hro (fun _ _ => rfl) (fun _ _ _ _ => rfl) (CsR_kept hk hsf h8), h9⟩
        rw [hblk b (by rw [h1]; rfl)]
        exact h2
      | row e te g =>
        obtain ⟨hd, inner, h1, h2, h3⟩ := hR
        refine ⟨hd, inner, h1, ?_, h3.1, fun j y hy => Ty.K_mono hro (fun _ _ => rfl) e y _ (Ty.K_kept hk hsf (h3.2 j y hy) rfl (fun j u u' hu hu' => by rw [hu] at hu'; simpa using (Option.some.inj hu').symm))⟩
        refine ⟨h2.1, ?_⟩
        rcases h2.2 with h4 | ⟨g', cap, cur, h4, h5, h6, h7⟩
        · exact .inl h4
        · refine .inr ⟨g', cap, cur, h4, h5, ?_, h7⟩
          rw [hblk g' (by rw [h1, h4]; rfl)]
          exact h6
    · cases ho
  · have fr := h.mem.fr
    refine ⟨hos.trans fr.os, htp.trans fr.tape, hou.trans fr.output, Nat.le_trans fr.size hsz, fun b h1 h2 h3 => (hb b (Nat.lt_of_lt_of_le h1 fr.size) (hcl b h1 h2 h3)).trans (fr.block b h1 h2 h3), fun ad u h1 h2 h3 => ?_, fun b off h1 h2 h3 => ?_, fr.tb⟩
    · obtain ⟨u', h4, h5⟩ := fr.keep ad u h1 h2 h3
      obtain ⟨u'', h6, h7⟩ := hk.cell ad u' h4
      exact ⟨u'', h6, h5.trans h7⟩
    · rw [← fr.fz b off h1 h2 h3]
      by_cases hn : RO en σ ρ w (b, .new)
      · exact hk.fz b off hn
      · have e := hb b (Nat.lt_of_lt_of_le h3 fr.size) hn
        simp only [World.frozen?, e]

/-! ### a store into a cell that may be marked -/
theorem old_new {b : Nat} (h : RO en σ ρ w (b, .old)) (h' : RO en σ ρ w (b, .new)) : False := by
  obtain ⟨_, h2, h3, h4⟩ := h.1
  rcases h'.1 with h5 | h5 | h5
  · exact h4 h5.1
  · omega
  · exact h3 h5
theorem kept_set {b o : Nat} (hro : RO en σ ρ w (b, .new)) {s : Ty} (hs : s.scal = true) {u v : Value} (hu : w.cell? ⟨b, o, none⟩ = some u) (ku : s.kind u) (kv : s.kind v) : Kept (RO en σ ρ w) w (w.setCells b o [v]) := by
  have hgr := setCells_grew b [v] o w
  have hc0 := hu
  unfold World.cell? at hc0
  split at hc0
  · rename_i cur t fr hb
    simp only [Option.isSome_none, Bool.false_eq_true, if_false] at hc0
    have hlt : o < cur.size := (Array.getElem?_eq_some_iff.1 hc0).1
    obtain ⟨cur', h1, h2, h3⟩ := setCells_heap b [v] o w hb (by simp only [List.length_singleton]; omega)
    refine ⟨fun b' hb' => hgr.block b' hb'.2.1 (fun e => old_new hb' (e ▸ hro)), fun ad u0 h0 => ?_, fun b' off hb' => ?_⟩
    · by_cases hab : ad.block = b
      · have hsp := World.cell?_spot h0
        simp only [World.cell?, hab, hb, hsp, Option.isSome_none, Bool.false_eq_true, if_false] at h0
        simp only [World.cell?, hab, h1, hsp, Option.isSome_none, Bool.false_eq_true, if_false, h3]
        by_cases hao : ad.off = o
        · rw [hao] at h0 ⊢
          rw [hc0] at h0
          cases h0
          exact ⟨v, by simp, Like.of hs ku kv⟩
        · refine ⟨u0, ?_, Like.rfl'⟩
          rw [if_neg (by simp; omega)]
          exact h0
      · refine ⟨u0, ?_, Like.rfl'⟩
        rw [← h0]
        exact World.cell?_of_block (hgr.block _ (cell?_lt h0) hab)
    · by_cases hbb : b' = b
      · subst hbb
        simp only [World.frozen?, hb, h1]
      · have e := hgr.block b' hb'.2.1 hbb
        simp only [World.frozen?, e]
  · cases hc0
def holeAt (P : Program) (t : TypeId) (p v : VD X) : Bool :=
  match p, v with
  | .cells false [.ep .new e g off], .cells false [.v s _] =>
    (match P.info? t with
      | some i => decide (i.size = 1)
      | none => false) && s.scal && (match (e.cv g)[off]? with
      | some (.v (.hole s') _) => decide (s' = s)
      | _ => false)
  | _, _ => false
theorem holeAt_R {t : TypeId} {p v : VD X} (h : holeAt P t p v = true) (hs : Sim nt en σ x a w ρ) {u z : Value} (hp : p.R x ρ (RO en σ ρ w) w u) (hv : v.R x ρ (RO en σ ρ w) w z) :
    ∃ w', (Instr.storeAt t u z).run P w = .ok () w' ∧ Sim nt en σ.kept x a w' ρ := by
  unfold holeAt at h
  split at h
  · rename_i e g off s g'
    simp only [Bool.and_eq_true] at h
    obtain ⟨⟨h1, h2⟩, h3⟩ := h
    split at h1
    · rename_i inf hi
      have hsz : inf.size = 1 := by simpa using h1
      split at h3
      · rename_i s' gs hcv
        have hss : s' = s := by simpa using h3
        subst hss
        obtain ⟨pa, us, rfl, hro, hK, hcell⟩ := VD.one_R hp
        have hcs := Ty.cv_R (ρ := ρ) e g hK
        have hlt : off < us.length := by
          have := (List.getElem?_eq_some_iff.1 hcv).1
          rw [CsR_len hcs]
          exact this
        have huo : us[off]? = some us[off] := List.getElem?_eq_getElem hlt
        have hRo := CsR_get hcs hcv huo
        obtain ⟨u0, hu0, ku⟩ : ∃ u0, [us[off]] = [u0] ∧ s'.kind u0 := hRo
        have hc := hcell off _ huo
        obtain ⟨vs, f1, f2, f3⟩ := flat_R (v := .cells false [.v s' g']) rfl hv
        have hblk : (pa.add off).block = pa.block := by unfold Addr.add; split <;> rfl
        have hsp := World.cell?_spot hc
        generalize hpo : pa.add off = ad at hc hsp hblk
        obtain ⟨b, o, sp⟩ := ad
        have hsp' : sp = none := hsp
        subst hsp'
        have hb : b = pa.block := hblk
        match vs, f1, f2, f3 with
        | [v1], f1, f2, f3 =>
          obtain ⟨v2, hv2, kv⟩ := Ty.K_kind h2 (show s'.K (RO en σ ρ w) w (g' x) [v1] from f2.1)
          have hv21 : v1 = v2 := by simpa using hv2
          have hu01 : us[off] = u0 := by simpa using hu0
          rw [← hv21] at kv
          rw [← hu01] at ku
          have hron : RO en σ ρ w (b, .new) := by rw [hb]; exact hro.1
          have hkept := kept_set hron h2 hc ku kv
          have hgr := setCells_grew b [v1] o w
          refine ⟨_, run_storeAt_cells hi f1 (by simpa using hsz) (fun j hj => ?_) (fun j hj => ?_) f3, hs.kept hgr.os hgr.tape hgr.output hgr.size hkept (fun b' hb' hn => hgr.block b' hb' (fun e => hn (e ▸ hron)))⟩
          · have : j = 0 := by simp at hj; omega
            subst this
            rw [Nat.add_zero, hc]
            rfl
          · have h4 := hro.2.2 rfl (o + j)
            rw [← hb] at h4
            exact h4
        | [], _, f2, _ => exact f2.elim
        | _ :: _ :: _, _, f2, _ => exact f2.2.elim
      · cases h3
    · cases h1
  · cases h
def stepHole (P : Program) (nt : Nat) (os : Array Oper) (o : Oper) {next : En → R → Act → World → Prop} {Q : Fam R} (κ : Kont nt next) (X : Type) (σ : St X) : Fn nt (fun en r a w => OpW P os o (next en r) (Q en r) a w) σ :=
  if hg : o.guard = none then
    match ho : o.op, hdst : o.dst with
    | .store t p y, none => match hp : σ.opnd [] p, hy : σ.opnd [] y with
      | some vp, some vy => if hst : holeAt P t vp vy = true then
          let k := κ X σ.kept
          ⟨k.fn, fun en r x a w ρ hf hs => by
            obtain ⟨w', h1, h2⟩ := holeAt_R hst hs (opnd_R hp hs (fun p hp => by cases hp)) (opnd_R hy hs (fun p hp => by cases hp))
            have hrun : (execOp a.eval o).run P w = .ok .skip w' := by
              simp only [execOp, ho, Sem.run_bind, h1, Result.andThen_ok, Sem.run_pure]
            refine OpW.of_skip hg hrun (k.ok en r x _ _ ρ hf ?_)
            rw [hdst]
            exact h2⟩
        else .fail
      | _, _ => .fail
    | _, _ => .fail
  else .fail
/-- Does a store go into a cell that may be marked? -/
def St.toHole (σ : St X) (p : Operand) : Bool := match σ.opnd [] p with
  | some (.cells false [.ep .new _ _ _]) => true
  | _ => false
end
end Go.Sym

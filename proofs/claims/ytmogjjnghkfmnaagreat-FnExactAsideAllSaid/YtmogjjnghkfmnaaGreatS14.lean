import Derived.Test.YtmogjjnghkfmnaaGreatS13
/-! Stores. -/
namespace Go.Sym
section
variable {X : Type} {x : X} {ρ : Env} {w : World} {P : Program} {en : En} {σ : St X} {nt : Nat} {a : Act}
def St.upd (σ : St X) (id : Nat) (od : OD X) : St X := ⟨σ.tmps, fun i => if i = id then some od else σ.objs i⟩

theorem setCell_heap (w : World) (b o : Nat) (v : Value) {cur : Array Value} {t : TypeId} {fr : Nat × Nat} (h : w.heap[b]? = some (.cells cur t fr)) :
    (w.setCell ⟨b, o, none⟩ v).heap[b]? = some (.cells (cur.setIfInBounds o v) t fr) := by
  simp [World.setCell, Array.getElem?_modify, h]
theorem setCells_heap (b : Nat) : ∀ (vs : List Value) (o : Nat) (w : World) {cur : Array Value} {t : TypeId} {fr : Nat × Nat}, w.heap[b]? = some (.cells cur t fr) → o + vs.length ≤ cur.size →
    ∃ cur', (w.setCells b o vs).heap[b]? = some (.cells cur' t fr) ∧ cur'.size = cur.size ∧ ∀ k, cur'[k]? = if o ≤ k ∧ k < o + vs.length then vs[k - o]? else cur[k]?
  | [], o, w, cur, t, fr, h, _ => ⟨cur, h, rfl, fun k => by simp; omega⟩
  | v :: vs, o, w, cur, t, fr, h, hl => by
    obtain ⟨cur', h1, h2, h3⟩ := setCells_heap b vs (o + 1) (w.setCell ⟨b, o, none⟩ v) (setCell_heap w b o v h) (by simp at hl ⊢; omega)
    refine ⟨cur', h1, by simpa using h2, fun k => ?_⟩
    rw [h3 k]
    simp only [List.length_cons] at hl ⊢
    by_cases hk : k = o
    · subst hk
      have : k < cur.size := by omega
      rw [if_neg (by omega), if_pos (by omega)]
      simp [this]
    · by_cases hin : o + 1 ≤ k ∧ k < o + 1 + vs.length
      · have e : k - o = (k - (o + 1)) + 1 := by omega
        rw [if_pos hin, if_pos (by omega), e]
        simp
      · rw [if_neg hin, if_neg (by omega)]
        simp [Array.getElem?_setIfInBounds_ne (Ne.symm hk)]
theorem setCells_grew (b : Nat) : ∀ (vs : List Value) (o : Nat) (w : World), Grew (fun b' => b' = b) w (w.setCells b o vs)
  | [], _, w => ⟨rfl, rfl, rfl, Nat.le_refl _, fun _ _ _ => rfl⟩
  | v :: vs, o, w => by
    have h1 : Grew (fun b' => b' = b) w (w.setCell ⟨b, o, none⟩ v) := ⟨rfl, rfl, rfl, by simp [World.setCell], fun b' _ hne => by simp [World.setCell, Array.getElem?_modify, Ne.symm hne]⟩
    exact h1.trans (setCells_grew b vs (o + 1) _)

/-- The object id is another; its block alone was touched. -/
theorem Sim.upd (h : Sim nt en σ x a w ρ) {w' : World} {id b : Nat} {od : OD X} (hl : σ.objs id ≠ none) (hb : (ρ id).block = some b) (g : Grew (fun b' => b' = b) w w') (hR : od.R x ρ (RO en (σ.upd id od) ρ w') w' id) :
    Sim nt en (σ.upd id od) x a w' ρ := by
  have hlive : ∀ i, (σ.upd id od).objs i ≠ none → σ.objs i ≠ none := by
    intro i hi
    by_cases hii : i = id
    · subst hii; exact hl
    · simpa [St.upd, hii] using hi
  have hro : ∀ b, RO en σ ρ w b → RO en (σ.upd id od) ρ w' b := fun b' hb' => ⟨hb'.1, Nat.lt_of_lt_of_le hb'.2.1 g.size, fun i hi => hb'.2.2 i (hlive i hi)⟩
  have hnb : ∀ b', RO en σ ρ w b' → b'.1 ≠ b := fun b' hb' e => hb'.2.2 id hl (e ▸ hb)
  have hw : ∀ b', RO en σ ρ w b' → w'.heap[b'.1]? = w.heap[b'.1]? := fun b' hb' => g.block b'.1 hb'.2.1 (hnb b' hb')
  refine ⟨fun t e he => ?_, ⟨fun i od' ho => ?_, fun i j hi hj => h.mem.inj i j (hlive i hi) (hlive j hj), fun i hi b' hbi => ?_, h.mem.fr.grew g (fun b' hb' hlt => ?_), fun v hv h0 => h.mem.fix v hv (hlive 63 h0)⟩, h.nt, h.df⟩
  · obtain ⟨g1, g2, g3⟩ := h.tm t e he
    refine ⟨fun hok => ?_, g2, g3⟩
    obtain ⟨u, hu, hR'⟩ := g1 hok
    exact ⟨u, hu, VD.R_mono hro hw (fun _ _ => rfl) hR'⟩
  · by_cases hii : i = id
    · subst hii
      have : od' = od := by
        have h2 : (σ.upd i od).objs i = some od := by simp [St.upd]
        rw [h2] at ho
        exact (Option.some.inj ho).symm
      subst this
      exact hR
    · have ho' : σ.objs i = some od' := by simpa [St.upd, hii] using ho
      have hi : σ.objs i ≠ none := by rw [ho']; simp
      refine OD.R_mono hro hw (fun b' hb' => g.block b' (h.mem.new i hi b' hb').1 (fun e => ?_)) (fun _ _ => rfl) (h.mem.ob i od' ho')
      subst e
      exact h.mem.inj i id hi hl hii _ hb' hb
  · obtain ⟨h1, h2⟩ := h.mem.new i (hlive i hi) b' hbi
    exact ⟨Nat.lt_of_lt_of_le h1 g.size, h2⟩
  · subst hb'
    rcases (h.mem.new id hl b' hb).2 with h1 | h1
    · omega
    · exact h1

def VD.flat : VD X → Option (List (CV X))
  | .cells _ cs => some cs
  | _ => none
/-- A store into a box. -/
def storeBox (P : Program) (σ : St X) (t : TypeId) (p v : VD X) : Option (St X) :=
  match p, v.flat with
  | .cells false [.ptr id off], some ds =>
    match σ.objs id, P.info? t with
    | some (.box cs), some i => if i.size = ds.length ∧ off + ds.length ≤ cs.length then some (σ.upd id (.box (cs.take off ++ ds ++ cs.drop (off + ds.length)))) else none
    | _, _ => none
  | _, _ => none

theorem flat_R {v : VD X} {cs : List (CV X)} (h : v.flat = some cs) {ro : Bl → Prop} {u : Value} (hR : v.R x ρ ro w u) : ∃ us : List Value, u.cells = us.toArray ∧ CsR x ρ ro w cs us ∧ (∀ c ∈ us, c.oneCell' = true) := by
  cases v with
  | tup l => simp [VD.flat] at h
  | cells agg cs' =>
    cases h
    cases agg with
    | true =>
      obtain ⟨us, rfl, h1, h2⟩ := hR
      exact ⟨us, rfl, h1, h2⟩
    | false =>
      obtain ⟨h1, h2⟩ := hR
      refine ⟨[u], ?_, h1, by simpa using h2⟩
      cases u <;> first | rfl | (simp [Value.oneCell'] at h2)

theorem run_storeAt_cells {t : TypeId} {i : TypeInfo} (hi : P.info? t = some i) {b o : Nat} {u : Value} {us : List Value} (hu : u.cells = us.toArray) (hsz : i.size = us.length)
    (hc : ∀ j, j < us.length → (w.cell? ⟨b, o + j, none⟩).isSome = true) (hf : ∀ j, j < us.length → w.frozen? ⟨b, o + j, none⟩ = false) (h1 : ∀ v ∈ us, v.oneCell' = true) :
    (Instr.storeAt t (.pointer (some ⟨b, o, none⟩)) u).run P w = .ok () (w.setCells b o us) := by
  have := run_storeCells_cells (P := P) b o us 0 w (by simpa using hc) (by simpa using hf) h1
  simp only [Nat.add_zero] at this
  have hs2 : ¬ u.cells.size ≠ i.size := by rw [hu]; simp [hsz]
  simp [Instr.storeAt, Instr.sureAddr, storeVar, sizeOf, typeInfo, hi, hu, hsz, this]

theorem CsR_split {ro : Bl → Prop} {cs ds : List (CV X)} {us vs : List Value} (h : CsR x ρ ro w cs us) (h' : CsR x ρ ro w ds vs) (off : Nat) :
    CsR x ρ ro w (cs.take off ++ ds ++ cs.drop (off + ds.length)) (us.take off ++ vs ++ us.drop (off + vs.length)) := by
  have hl := CsR_len h'
  rw [hl]
  exact CsR_app (CsR_app (CsR_take h off) h') (CsR_drop h (off + ds.length))

theorem storeBox_R {t : TypeId} {p v : VD X} {σ' : St X} (h : storeBox P σ t p v = some σ') (hs : Sim nt en σ x a w ρ) {u z : Value} (hp : p.R x ρ (RO en σ ρ w) w u) (hv : v.R x ρ (RO en σ ρ w) w z) :
    ∃ w', (Instr.storeAt t u z).run P w = .ok () w' ∧ Sim nt en σ' x a w' ρ := by
  unfold storeBox at h
  split at h
  · rename_i id off ds hfl
    split at h
    · rename_i _ _ cs i ho hi
      split at h
      · rename_i hsz
        cases h
        obtain ⟨b, o, t0, outer, hρ, rfl⟩ := VD.one_R hp
        obtain ⟨b', o', t', outer', cur, e1, e2, e3, e4, e5, us, e6, e7, e8, e9⟩ := hs.mem.ob id _ ho
        have := hρ.symm.trans e1
        cases this
        obtain ⟨vs, f1, f2, f3⟩ := flat_R hfl hv
        have hlv := CsR_len f2
        have hlu := CsR_len e8
        have hcell : ∀ j, j < vs.length → w.cell? ⟨b, o + off + j, none⟩ = cur[o + off + j]? := fun j _ => by simp [World.cell?, e2]
        have hin : o + off + vs.length ≤ cur.size := by omega
        refine ⟨_, run_storeAt_cells hi f1 (by omega) (fun j hj => ?_) (fun j hj => ?_) f3, ?_⟩
        · rw [hcell j hj]
          have : o + off + j < cur.size := by omega
          simp [this]
        · simp [World.frozen?, e2]
        · obtain ⟨cur', g1, g2, g3⟩ := setCells_heap b vs (o + off) w e2 hin
          have hgr := setCells_grew b vs (o + off) w
          have hblk : (ρ id).block = some b := by rw [hρ]; rfl
          have hlive : σ.objs id ≠ none := by rw [ho]; simp
          refine hs.upd hlive hblk hgr ?_
          have hro : ∀ b', RO en σ ρ w b' → RO en (σ.upd id (.box (cs.take off ++ ds ++ cs.drop (off + ds.length)))) ρ (w.setCells b (o + off) vs) b' := fun b' hb' =>
            ⟨hb'.1, Nat.lt_of_lt_of_le hb'.2.1 hgr.size, fun i hi => hb'.2.2 i (by
              by_cases hii : i = id
              · subst hii; exact hlive
              · simpa [St.upd, hii] using hi)⟩
          have hw : ∀ b', RO en σ ρ w b' → (w.setCells b (o + off) vs).heap[b'.1]? = w.heap[b'.1]? := fun b' hb' => hgr.block b'.1 hb'.2.1 (fun e => hb'.2.2 id hlive (e ▸ hblk))
          have hlen : (cs.take off ++ ds ++ cs.drop (off + ds.length)).length = cs.length := by simp; omega
          have hlen' : (us.take off ++ vs ++ us.drop (off + vs.length)).length = us.length := by simp; omega
          refine ⟨b, o, t0, outer, cur', hρ, g1, by omega, by omega, fun j hj => ?_, us.take off ++ vs ++ us.drop (off + vs.length), by omega, fun j u hu => ?_, ?_, fun u hu => ?_⟩
          · rw [g3 j, if_neg (by omega)]
            exact e5 j (by omega)
          · rw [g3 (o + j)]
            have hjl : j < us.length := by have := (List.getElem?_eq_some_iff.1 hu).1; omega
            have htl : (us.take off).length = off := by simp; omega
            by_cases hc1 : j < off
            · rw [if_neg (by omega)]
              rw [List.append_assoc, List.getElem?_append_left (by omega), List.getElem?_take, if_pos hc1] at hu
              exact e7 j u hu
            · by_cases hc2 : j < off + vs.length
              · rw [if_pos (by omega)]
                rw [List.append_assoc, List.getElem?_append_right (by omega), List.getElem?_append_left (by omega), htl] at hu
                rw [show o + j - (o + off) = j - off by omega]
                exact hu
              · rw [if_neg (by omega)]
                rw [List.getElem?_append_right (by simp; omega)] at hu
                simp only [List.length_append, htl, List.getElem?_drop] at hu
                rw [show off + vs.length + (j - (off + vs.length)) = j by omega] at hu
                exact e7 j u hu
          · exact CsR_mono hro hw (fun _ _ _ _ => rfl) (CsR_split e8 f2 off)
          · rcases List.mem_append.1 hu with hu | hu
            · rcases List.mem_append.1 hu with hu | hu
              · exact e9 u (List.mem_of_mem_take hu)
              · exact f3 u hu
            · exact e9 u (List.mem_of_mem_drop hu)
      · cases h
    · cases h
  · cases h
end
end Go.Sym

import Derived.Test.YtmogjjnghkfmnaaGreatS24
/-! Stores into own rows; texts' bytes. -/
namespace Go.Sym
section
variable {X : Type} {x : X} {ρ : Env} {ro : Bl → Prop} {w : World} {P : Program} {en : En} {σ : St X} {nt : Nat} {a : Act} {R : Type}

def splice {α : Type} (L us : List α) (p : Nat) : List α := L.take p ++ us ++ L.drop (p + us.length)
theorem splice_get {α : Type} {L us : List α} {p : Nat} (h : p + us.length ≤ L.length) (k : Nat) : (splice L us p)[k]? = if p ≤ k ∧ k < p + us.length then us[k - p]? else L[k]? := by
  unfold splice
  have hp : (L.take p).length = p := by rw [List.length_take]; omega
  by_cases h1 : k < p
  · rw [List.append_assoc, List.getElem?_append_left (by omega), List.getElem?_take, if_pos h1, if_neg (by omega)]
  · by_cases h2 : k < p + us.length
    · rw [List.append_assoc, List.getElem?_append_right (by omega), List.getElem?_append_left (by omega), hp, if_pos ⟨by omega, h2⟩]
    · rw [List.getElem?_append_right (by rw [List.length_append]; omega), List.getElem?_drop, List.length_append, hp, if_neg (by omega)]
      congr 1
      omega
theorem splice_len {α : Type} {L us : List α} {p : Nat} (h : p + us.length ≤ L.length) : (splice L us p).length = L.length := by
  simp only [splice, List.length_append, List.length_take, List.length_drop]
  omega
def seg {α : Type} (L : List α) (s j : Nat) : List α := (L.drop (j * s)).take s
theorem seg_get {α : Type} (L : List α) (s j k : Nat) : (seg L s j)[k]? = if k < s then L[j * s + k]? else none := by
  simp [seg, List.getElem?_take, List.getElem?_drop]
theorem seg_splice_ne {α : Type} {L us : List α} {s i j off : Nat} (h : i * s + off + us.length ≤ L.length) (hm : off + us.length ≤ s) (hij : j ≠ i) : seg (splice L us (i * s + off)) s j = seg L s j := by
  apply List.ext_getElem?
  intro k
  rw [seg_get, seg_get]
  split
  · rename_i hk
    rw [splice_get h, if_neg]
    rintro ⟨h1, h2⟩
    rcases Nat.lt_or_ge j i with hlt | hge
    · have : (j + 1) * s ≤ i * s := Nat.mul_le_mul_right _ hlt
      rw [Nat.succ_mul] at this
      omega
    · have : (i + 1) * s ≤ j * s := Nat.mul_le_mul_right _ (by omega)
      rw [Nat.succ_mul] at this
      omega
  · rfl
theorem seg_splice_eq {α : Type} {L us : List α} {s i off : Nat} (h : i * s + off + us.length ≤ L.length) (hm : off + us.length ≤ s) (hs : i * s + s ≤ L.length) : seg (splice L us (i * s + off)) s i = splice (seg L s i) us off := by
  have hl : (seg L s i).length = s := by simp only [seg, List.length_take, List.length_drop]; omega
  apply List.ext_getElem?
  intro k
  rw [seg_get (splice L us (i * s + off)) s i k, splice_get (L := seg L s i) (by omega), seg_get L s i k]
  by_cases hk : k < s
  · rw [if_pos hk, splice_get h]
    by_cases h1 : off ≤ k ∧ k < off + us.length
    · rw [if_pos (by omega), if_pos h1]
      congr 1
      omega
    · rw [if_neg (by omega), if_neg h1, if_pos hk]
  · rw [if_neg hk, if_neg (by omega), if_neg hk]

theorem CsR_splice {cs ds : List (CV X)} {us vs : List Value} (h : CsR x ρ ro w cs us) (h' : CsR x ρ ro w ds vs) (off : Nat) : CsR x ρ ro w (splice cs ds off) (splice us vs off) := CsR_split h h' off

/-- The row behind a store into one of its elements. -/
theorem RowsK_set {e : Ty} {xs : List e.D} {inner vs : List Value} {i off : Nat} {y : e.D} (h : RowsK e ro w xs inner) (hi : i < xs.length) (hm : off + vs.length ≤ e.size)
    (hy : e.K ro w y (splice (seg inner e.size i) vs off)) : RowsK e ro w (xs.set i y) (splice inner vs (i * e.size + off)) := by
  have hb : i * e.size + e.size ≤ inner.length := by
    rw [h.1, ← Nat.succ_mul]
    exact Nat.mul_le_mul_right _ hi
  have hfit : i * e.size + off + vs.length ≤ inner.length := by omega
  refine ⟨by rw [splice_len hfit, h.1, List.length_set], fun j z hz => ?_⟩
  show e.K ro w z (seg (splice inner vs (i * e.size + off)) e.size j)
  by_cases hij : j = i
  · subst hij
    rw [seg_splice_eq hfit hm hb]
    rw [List.getElem?_set_self hi] at hz
    cases hz
    exact hy
  · rw [seg_splice_ne hfit hm hij]
    rw [List.getElem?_set_ne (Ne.symm hij)] at hz
    exact h.2 j z hz

/-- Stored cells in a row of the call's own. -/
theorem owns_store {e : TypeId} {size n cap b p : Nat} {inner vs : List Value} (h : w.ownsRow 0 e size (.slice (some ⟨b, 0, none⟩) n cap) n inner) (hp : p + vs.length ≤ n * size) :
    (w.setCells b p vs).ownsRow 0 e size (.slice (some ⟨b, 0, none⟩) n cap) n (splice inner vs p) := by
  have hin : p + vs.length ≤ inner.length := by rw [h.1]; exact hp
  refine ⟨by rw [splice_len hin, h.1], ?_⟩
  rcases h.2 with ⟨hx, _⟩ | ⟨b', cap', cur, hx, h1, h2, h3, h4, h5, h6⟩
  · cases hx
  · cases hx
    have hcs : n * size ≤ cur.size := by rw [h5]; exact Nat.mul_le_mul_right _ h3
    obtain ⟨cur', g1, g2, g3⟩ := setCells_heap b vs p w h2 (by omega)
    refine .inr ⟨b, cap, cur', rfl, h1, g1, h3, h4, by rw [g2, h5], ?_⟩
    apply List.ext_getElem?
    intro k
    rw [splice_get hin, List.getElem?_take, Array.getElem?_toList, g3 k, ← h6]
    by_cases hk : k < n * size
    · simp only [if_pos hk, List.getElem?_take, Array.getElem?_toList]
    · simp only [if_neg hk, List.getElem?_take]
      rw [if_neg (by omega)]

/-- A store into an element. -/
def storeRow (P : Program) (σ : St X) (t : TypeId) (p v : VD X) : Option (St X) :=
  match p, v.flat with
  | .cells false [.rp id e i off], some ds =>
    match σ.objs id, P.info? t with
    | some (.row e' te g), some inf => if h : e' = e then
        if inf.size = ds.length ∧ off + ds.length ≤ e.size then
          (e.ofCV (splice (e.cv fun x => rdN e (h ▸ g x) (i x)) ds off)).map fun f => σ.upd id (.row e te fun x => (show List e.D from h ▸ g x).set (i x) (f x))
        else none
      else none
    | _, _ => none
  | _, _ => none
theorem storeRow_R {t : TypeId} {p v : VD X} {σ' : St X} (h : storeRow P σ t p v = some σ') (hs : Sim nt en σ x a w ρ) {u z : Value} (hp : p.R x ρ (RO en σ ρ w) w u) (hv : v.R x ρ (RO en σ ρ w) w z) :
    ∃ w', (Instr.storeAt t u z).run P w = .ok () w' ∧ Sim nt en σ' x a w' ρ := by
  unfold storeRow at h
  split at h
  · rename_i id e i off ds hfl
    split at h
    · rename_i _ _ e' te g inf ho hi
      split at h
      · rename_i hh
        subst hh
        split at h
        · rename_i hsz
          simp only [Option.map_eq_some_iff] at h
          obtain ⟨f, hf, rfl⟩ := h
          obtain ⟨b, m, cap, hρ, hin, rfl⟩ := VD.one_R hp
          obtain ⟨hd, inner, e1, e2, e3⟩ := hs.mem.ob id _ ho
          have := hρ.symm.trans e1
          cases this
          have hm' : m = (g x).length := by
            rcases e2.2 with ⟨hx, _⟩ | ⟨_, _, _, hx, _⟩ <;> cases hx
            rfl
          subst hm'
          obtain ⟨vs, f1, f2, f3⟩ := flat_R hfl hv
          have hlv := CsR_len f2
          have hget : (g x)[i x]? = some (rdN e' (g x) (i x)) := by simp [rdN, hin]
          have hK := e3.2 _ _ hget
          have hb : i x * e'.size + e'.size ≤ (g x).length * e'.size := by
            rw [← Nat.succ_mul]
            exact Nat.mul_le_mul_right _ hin
          have hcell : ∀ j, j < vs.length → w.cell? ⟨b, i x * e'.size + off + j, none⟩ = inner[i x * e'.size + off + j]? := fun j hj => World.ownsRow.cellAt e2 _ (by omega)
          have hblk : (ρ id).block = some b := by rw [hρ]; rfl
          have hlive : σ.objs id ≠ none := by rw [ho]; simp
          have hgr := setCells_grew b vs (i x * e'.size + off) w
          refine ⟨_, run_storeAt_cells hi f1 (by omega) (fun j hj => ?_) (fun j hj => World.ownsRow.frozenAt e2 _) f3, hs.upd hlive hblk hgr ?_⟩
          · rw [hcell j hj]
            have : i x * e'.size + off + j < inner.length := by rw [e2.1]; omega
            simp [this]
          · have hro : ∀ (od : OD X) b', RO en σ ρ w b' → RO en (σ.upd id od) ρ (w.setCells b (i x * e'.size + off) vs) b' := fun od b' hb' =>
              ⟨hb'.1, Nat.lt_of_lt_of_le hb'.2.1 hgr.size, fun i hi => hb'.2.2 i (by
                by_cases hii : i = id
                · subst hii; exact hlive
                · simpa [St.upd, hii] using hi)⟩
            have hw : ∀ b', RO en σ ρ w b' → (w.setCells b (i x * e'.size + off) vs).heap[b'.1]? = w.heap[b'.1]? := fun b' hb' => hgr.block b'.1 hb'.2.1 (fun e => hb'.2.2 id hlive (e ▸ hblk))
            have hy : e'.K (RO en σ ρ w) w (f x) (splice (seg inner e'.size (i x)) vs off) := Ty.ofCV_K _ hf (CsR_splice (Ty.cv_R e' (fun x => rdN e' (g x) (i x)) hK) f2 off)
            have h1 := RowsK_set e3 hin (by omega) hy
            have h2 := owns_store e2 (p := i x * e'.size + off) (vs := vs) (by omega)
            refine ⟨_, splice inner vs (i x * e'.size + off), hρ, ?_, RowsK_mono (hro _) hw h1⟩
            have hl : ((g x).set (i x) (f x)).length = (g x).length := List.length_set
            show (w.setCells b (i x * e'.size + off) vs).ownsRow 0 te e'.size _ ((g x).set (i x) (f x)).length _
            rw [hl]
            exact h2
        · cases h
      · cases h
    · cases h
  · cases h

def stepStore (P : Program) (nt : Nat) (os : Array Oper) (o : Oper) {next : En → R → Act → World → Prop} {Q : Fam R} (κ : Kont nt next) (X : Type) (σ0 : St X) : Fn nt (fun en r a w => OpW P os o (next en r) (Q en r) a w) σ0 :=
  if hg : o.guard = none then
    match ho : o.op, hdst : o.dst with
    | .store t p y, none =>
      match hq : (match σ0.opnd [] p with | some (.cells false [.rp _ _ _ _]) => true | _ => false) with
      | true =>
        let σ := σ0.frzs (σ0.rowsOf [y])
        match hp : σ.opnd [] p, hy : σ.opnd [] y with
        | some vp, some vy => match hst : storeRow P σ t vp vy with
          | some σ' =>
            let k := κ X σ'
            ⟨k.fn, fun en r x a w ρ hf hs0 => by
              have hs : Sim nt en σ x a w ρ := hs0.frzs
              obtain ⟨w', h1, h2⟩ := storeRow_R hst hs (opnd_R hp hs (fun p hp => by cases hp)) (opnd_R hy hs (fun p hp => by cases hp))
              have hrun : (execOp a.eval o).run P w = .ok .skip w' := by
                simp only [execOp, ho, Sem.run_bind, h1, Result.andThen_ok, Sem.run_pure]
              refine OpW.of_skip hg hrun (k.ok en r x _ _ ρ hf ?_)
              rw [hdst]
              exact h2⟩
          | none => .fail
        | _, _ => .fail
      | false => stepNew P nt os o κ X σ0
    | _, _ => stepNew P nt os o κ X σ0
  else .fail

theorem bytesRow_get {l : List UInt8} {i : Nat} {y : UInt8} (h : l[i]? = some y) (cap : Nat) : (bytesRow ⟨⟨l⟩⟩ cap)[i]? = some (.int .u8 ((UInt8.toNat y : Nat) : Int)) := by
  have hi : i < l.length := (List.getElem?_eq_some_iff.1 h).1
  unfold bytesRow
  rw [Array.getElem?_append_left (by simpa using hi), Array.getElem?_map]
  show Option.map _ (l.toArray[i]?) = _
  simp [h]
def isU8 (P : Program) (e : TypeId) : Bool :=
  match P.underlying e with
  | some (.int .u8) => true
  | _ => false
theorem isU8_eq {e : TypeId} (h : isU8 P e = true) : P.underlying e = some (.int .u8) := by
  unfold isU8 at h
  split at h
  · assumption
  · cases h

/-- A text's bytes, in a row that nobody writes. -/
def stepBytes (P : Program) (nt : Nat) (os : Array Oper) (o : Oper) {next : En → R → Act → World → Prop} {Q : Fam R} (κ : Kont nt next) (X : Type) (σ : St X) : Fn nt (fun en r a w => OpW P os o (next en r) (Q en r) a w) σ :=
  if hg : o.guard = none then
    match ho : o.op, hdst : o.dst with
    | .convert src dst y, some d => match hsrc : P.underlying src, elemOf P .any dst, hy : σ.opnd [] y with
      | some .string, some E, some (.cells false [.v .str g]) => if hd : d < nt ∧ isU8 P E.e = true then
          let k := κ X (σ.put d (TE.plain (.cells false [.v (.sl .u8) g])))
          ⟨k.fn, fun en r x a w ρ hf hs => by
            have hv : Ty.str.K (RO en σ ρ w) w (g x) [a.eval y] := VD.one_R (opnd_R hy hs (fun p hp => by cases hp))
            simp only [Ty.K, List.cons.injEq, and_true] at hv
            have hrun0 := run_bytes_of_string (P := P) w src dst E.e ⟨⟨g x⟩⟩ hsrc E.hu (isU8_eq hd.2)
            obtain ⟨C, hC⟩ : ∃ C, C = bytesRow ⟨⟨g x⟩⟩ (grownCap w (⟨⟨g x⟩⟩ : ByteArray).size 0 E.e) := ⟨_, rfl⟩
            rw [← hC] at hrun0
            have hgr : Grew (fun _ => False) w (w.drew.alloc (.cells C E.e (C.size, C.size + 1))) := (Grew.drew w).trans (Grew.alloc _ _)
            have hs' := hs.grew0 hgr
            have hrun : (execOp a.eval o).run P w = .ok (.value (.slice (some ⟨w.heap.size, 0, none⟩) (⟨⟨g x⟩⟩ : ByteArray).size (grownCap w (⟨⟨g x⟩⟩ : ByteArray).size 0 E.e))) (w.drew.alloc (.cells C E.e (C.size, C.size + 1))) := by
              simp only [execOp, ho, hv, strV, Sem.run_bind, hrun0, Result.andThen_ok, Sem.run_pure]
            refine OpW.of_value hg hrun (k.ok en r x _ _ ρ hf ?_)
            rw [hdst]
            have hsz : (⟨⟨g x⟩⟩ : ByteArray).size = List.length (α := UInt8) (g x) := rfl
            refine hs'.setP hd.1 (VD.R_one ?_ rfl)
            show (Ty.sl .u8).K _ _ _ _
            simp only [Ty.K]
            refine ⟨some ⟨w.heap.size, 0, none⟩, _, rfl, by rw [hsz]; exact grownCap_ge w _ 0 E.e, fun i y hi => ⟨_, [.int .u8 ((UInt8.toNat y : Nat) : Int)], rfl, ⟨⟨.inr (.inl hs.mem.fr.size), by simp, fun j hj he => ?_⟩, ⟨.inr (.inl hs.mem.fr.size), by simp, fun j hj he => ?_⟩, fun hh => by cases hh⟩, rfl, fun j u hu => ?_⟩⟩
            · exact absurd (hs.mem.new j hj _ he).1 (Nat.lt_irrefl _)
            · exact absurd (hs.mem.new j hj _ he).1 (Nat.lt_irrefl _)
            · cases j with
              | succ j => simp at hu
              | zero =>
                simp only [List.getElem?_cons_zero, Option.some.injEq] at hu
                subst hu
                have hnew : (w.drew.alloc (.cells C E.e (C.size, C.size + 1))).heap[w.heap.size]? = some (.cells C E.e (C.size, C.size + 1)) := heap_alloc_new w.drew _
                rw [Addr.mk_add]
                simp only [World.cell?, hnew, Ty.size, Nat.mul_one, Nat.add_zero, Nat.zero_add]
                subst hC
                exact bytesRow_get hi _⟩
        else .fail
      | _, _, _ => .fail
    | _, _ => .fail
  else .fail
end
end Go.Sym

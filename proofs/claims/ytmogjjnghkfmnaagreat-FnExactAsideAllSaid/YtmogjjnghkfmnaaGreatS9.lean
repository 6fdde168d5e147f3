import Derived.Test.YtmogjjnghkfmnaaGreatS8
import Derived.Laws.BytesString
/-! Elements, parts of slices and strings, lengths. -/
namespace Go.Sym
section
variable {X : Type}
/-- Element i (an int). -/
def rdT (e : Ty) (l : List e.D) (i : Int) : e.D := (l[i.toNat]?).getD e.dflt
def inR (n : Nat) (i : Int) : Bool := decide (0 ≤ i) && decide (i < (n : Int))
theorem inR_iff {n : Nat} {i : Int} : inR n i = true ↔ 0 ≤ i ∧ i < (n : Int) := by simp [inR]
theorem rdT_get {e : Ty} {l : List e.D} {i : Int} (h : inR l.length i = true) : l[i.toNat]? = some (rdT e l i) := by
  have := inR_iff.1 h
  have hl : i.toNat < l.length := by omega
  simp [rdT, hl]

def elemSize (P : Program) (t : TypeId) : Option Nat :=
  match P.underlying t with
  | some (.slice e) => (P.info? e).map (·.size)
  | _ => none

def valIndexAddr (P : Program) (σ : St X) (t : TypeId) : VD X → VD X → VR X
  | .cells false [c], .cells false [d] =>
    match d.num with
    | none => none
    | some (_, i) => match c with
      | .v (.slc kl e) g => if elemSize P t = some e.size then oneIf (fun x => inR (List.length (α := e.D) (g x)) (i x)) (.ep kl e (fun x => rdT e (g x) (i x)) 0) else none
      | .row id => match σ.objs id with
        | some (.row e _ g) => if elemSize P t = some e.size then oneIf (fun x => inR (g x).length (i x)) (.rp id e (fun x => (i x).toNat) 0) else none
        | _ => none
      | _ => none
  | _, _ => none

variable {x : X} {ρ : Env} {ro : Bl → Prop} {w : World} {P : Program} {en : En} {σ : St X}
theorem elemSize_spec {t : TypeId} {n : Nat} (h : elemSize P t = some n) : ∃ e i, P.underlying t = some (.slice e) ∧ P.info? e = some i ∧ i.size = n ∧ P.elem t = e := by
  unfold elemSize at h
  split at h
  · rename_i e he
    cases hi : P.info? e with
    | none => rw [hi] at h; cases h
    | some i =>
      rw [hi] at h
      exact ⟨e, i, he, hi, by simpa using h, by simp [Program.elem, he]⟩
  · cases h
theorem run_indexAt_ok {t : TypeId} {n : Nat} (h : elemSize P t = some n) {a : Addr} {len cap : Nat} {k : IntKind} {i : Int} (h0 : 0 ≤ i) (h1 : i < (len : Int)) :
    (Instr.indexAt t (.slice (some a) len cap) (.int k i)).run P w = .ok (.pointer (some (a.add (i.toNat * n)))) w := by
  obtain ⟨e, i', h2, h3, h4, h5⟩ := elemSize_spec h
  rw [run_indexAt_slice (h := by rw [h5]; exact h2), if_pos ⟨h0, h1⟩, h5]
  simp [sizeOf, typeInfo, h3, h4]

theorem valIndexAddr_R {t : TypeId} {d1 d2 vd : VD X} {c : Option (X → Bool)} (h : valIndexAddr P σ t d1 d2 = some (c, vd)) (hm : MemR ro σ x w ρ) (hc : ∀ q, c = some q → q x = true)
    {u v : Value} (hR : d1.R x ρ ro w u) (hR' : d2.R x ρ ro w v) : ∃ r, (Instr.indexAt t u v).run P w = .ok r w ∧ vd.R x ρ ro w r := by
  unfold valIndexAddr at h
  split at h
  · rename_i cv dv
    split at h
    · cases h
    · rename_i k i hi
      have hv := num_R hi (VD.one_R hR')
      subst hv
      split at h
      · rename_i kl e g
        split at h
        · rename_i hes
          cases h
          have hin := hc _ rfl
          have hK : (Ty.slc kl e).K ro w (g x) [u] := VD.one_R hR
          simp only [Ty.K] at hK
          obtain ⟨A, cap, hu, hle, hel⟩ := hK
          obtain ⟨a, us, rfl, hro, hk, hcell⟩ := hel _ _ (rdT_get (e := e) (l := g x) hin)
          cases hu
          obtain ⟨h0, h1⟩ := inR_iff.1 hin
          refine ⟨_, run_indexAt_ok hes h0 h1, VD.R_one ⟨a.add ((i x).toNat * e.size), us, by simp [Addr.add], ?_, hk, fun j c hj => by rw [Addr.add_add]; exact hcell j c hj⟩ rfl⟩
          have : (a.add ((i x).toNat * e.size)).block = a.block := by unfold Addr.add; split <;> rfl
          rw [this]
          exact hro
        · cases h
      · rename_i id
        split at h
        · rename_i _ e te g ho
          split at h
          · rename_i hes
            cases h
            have hin := hc _ rfl
            obtain ⟨h0, h1⟩ := inR_iff.1 hin
            have hρ : ρ id = .row u := VD.one_R hR
            obtain ⟨hd, inner, e1, e2, e3⟩ := hm.ob id _ ho
            have := hρ.symm.trans e1
            cases this
            rcases e2.2 with ⟨_, hz⟩ | ⟨b, cap, cur, rfl, _⟩
            · omega
            · refine ⟨_, run_indexAt_ok hes h0 h1, VD.R_one ⟨b, (g x).length, cap, hρ, (by show (i x).toNat < (g x).length; omega), ?_⟩ rfl⟩
              rw [Addr.mk_add]
              simp
          · cases h
        · cases h
      · cases h
  · cases h

/-! ### strings, arrays: index -/
def CV.asV (t : Ty) : CV X → Option (X → t.D)
  | .v t' g => if h : t' = t then some (fun x => h ▸ g x) else none
  | _ => none
def valIndex (P : Program) (t : TypeId) : VD X → VD X → VR X
  | .cells false [.v .str g], .cells false [d] =>
    match d.num, P.underlying t with
    | some (_, i), some .string => oneIf (fun x => inR (List.length (α := UInt8) (g x)) (i x)) (.v .u8 fun x => (List.getD (α := UInt8) (g x) (i x).toNat 0))
    | _, _ => none
  | _, _ => none
theorem run_index_l {t : TypeId} (hs : P.underlying t = some .string) (l : List UInt8) (k : IntKind) (i : Int) (h : inR l.length i = true) : (Instr.index t (strV l) (.int k i)).run P w = .ok (.int .u8 (((l.getD i.toNat 0).toNat : Nat) : Int)) w := by
  obtain ⟨h0, h1⟩ := inR_iff.1 h
  have hsz : (⟨⟨l⟩⟩ : ByteArray).size = l.length := rfl
  have hlt : i.toNat < l.length := by omega
  show (Instr.index t (.string ⟨⟨l⟩⟩) (.int k i)).run P w = _
  rw [run_index_string (h := hs), dif_pos ⟨h0, by rw [hsz]; exact h1⟩]
  congr 3
  rw [List.getD_eq_getElem?_getD, List.getElem?_eq_getElem hlt]
  rfl
theorem valIndex_R {t : TypeId} {d1 d2 vd : VD X} {c : Option (X → Bool)} (h : valIndex P t d1 d2 = some (c, vd)) (hc : ∀ q, c = some q → q x = true)
    {u v : Value} (hR : d1.R x ρ ro w u) (hR' : d2.R x ρ ro w v) : ∃ r, (Instr.index t u v).run P w = .ok r w ∧ vd.R x ρ ro w r := by
  unfold valIndex at h
  split at h
  · rename_i g dv
    split at h
    · rename_i k i hi hs
      cases h
      have hv := num_R hi (VD.one_R hR')
      subst hv
      have hin := hc _ rfl
      have hu : Ty.str.K ro w (g x) [u] := VD.one_R hR
      simp only [Ty.K, List.cons.injEq, and_true] at hu
      subst hu
      exact ⟨_, run_index_l hs (g x) k (i x) hin, VD.R_one (c := .v .u8 _) (by simp only [CV.R, Ty.K]) rfl⟩
    · cases h
  · cases h

/-! ### lengths -/
def valLen (P : Program) (σ : St X) (t : TypeId) : VD X → VR X
  | .cells false [.v .str g] => match P.underlying t with
    | some .string => one (.v (.int .i64) fun x => ((List.length (α := UInt8) (g x) : Nat) : Int))
    | _ => none
  | .cells false [.v (.slc _ e) g] => match P.underlying t with
    | some (.slice _) => one (.v (.int .i64) fun x => ((List.length (α := e.D) (g x) : Nat) : Int))
    | _ => none
  | .cells false [.nils] => match P.underlying t with
    | some (.slice _) => one (.v (.int .i64) fun _ => (0 : Int))
    | _ => none
  | .cells false [.row id] => match P.underlying t, σ.objs id with
    | some (.slice _), some (.row _ _ g) => one (.v (.int .i64) fun x => (((g x).length : Nat) : Int))
    | _, _ => none
  | _ => none
theorem R_int {k : IntKind} (q : X → Int) : (VD.cells false [.v (.int k) q]).R x ρ ro w (.int k (q x)) := VD.R_one (by simp only [CV.R, Ty.K]) rfl
theorem run_len_sl {t ty e : TypeId} (h : P.underlying t = some (.slice e)) (a : Option Addr) (n c : Nat) : (Builtin.len_ #[t] ty #[.slice a n c]).run P w = .ok (goInt n) w := by
  simp [Builtin.len_, run_underlying h]
theorem row_form {e : Ty} {te : TypeId} {u : Value} {n : Nat} {inner : List Value} (h : w.ownsRow 0 te e.size u n inner) : ∃ A c, u = .slice A n c ∧ (n ≠ 0 → ∃ b, A = some ⟨b, 0, none⟩) := by
  rcases h.2 with ⟨rfl, rfl⟩ | ⟨b, cap, cur, rfl, _⟩
  · exact ⟨none, 0, rfl, fun h => absurd rfl h⟩
  · exact ⟨_, cap, rfl, fun _ => ⟨b, rfl⟩⟩
theorem valLen_R {t ty : TypeId} {d vd : VD X} {c : Option (X → Bool)} (h : valLen P σ t d = some (c, vd)) (hm : MemR ro σ x w ρ) {u : Value} (hR : d.R x ρ ro w u) :
    ∃ r, (Builtin.len_ #[t] ty #[u]).run P w = .ok r w ∧ vd.R x ρ ro w r := by
  unfold valLen at h
  split at h
  · rename_i g
    split at h
    · rename_i hs
      cases h
      have hu : Ty.str.K ro w (g x) [u] := VD.one_R hR
      simp only [Ty.K, List.cons.injEq, and_true] at hu
      subst hu
      exact ⟨_, run_len_string w t ty _ hs, R_int _⟩
    · cases h
  · rename_i kl e g
    split at h
    · rename_i hs
      cases h
      have hu : (Ty.slc kl e).K ro w (g x) [u] := VD.one_R hR
      simp only [Ty.K] at hu
      obtain ⟨A, cap, hu, _⟩ := hu
      cases hu
      exact ⟨_, run_len_sl hs _ _ _, R_int _⟩
    · cases h
  · split at h
    · rename_i hs
      cases h
      have hu : u = .slice none 0 0 := VD.one_R hR
      subst hu
      exact ⟨_, run_len_sl hs _ _ _, R_int (fun _ => (0 : Int))⟩
    · cases h
  · rename_i id
    split at h
    · rename_i _ _ _ e te g hs ho
      cases h
      have hρ : ρ id = .row u := VD.one_R hR
      obtain ⟨hd, inner, e1, e2, e3⟩ := hm.ob id _ ho
      have := hρ.symm.trans e1
      cases this
      obtain ⟨A, cap, rfl, _⟩ := row_form e2
      exact ⟨_, run_len_sl hs _ _ _, R_int _⟩
    · cases h
  · cases h
end
end Go.Sym

import Derived.Test.YtmogjjnghkfmnaaGreatS6
/-! Operations on numbers, strings and bools. -/
namespace Go.Sym
section
variable {X : Type}
/-- What an operation yields: a condition, if one is to be asked, and the value. -/
abbrev VR (X : Type) := Option (Option (X → Bool) × VD X)
def one (c : CV X) : VR X := some (none, .cells false [c])
def oneIf (g : X → Bool) (c : CV X) : VR X := some (some g, .cells false [c])

def bitF (op : BinOp) (k : IntKind) (a b : Int) : Int :=
  match op with
  | .and => k.wrap ((BitVec.ofInt k.bits a &&& BitVec.ofInt k.bits b).toNat : Int)
  | .or => k.wrap ((BitVec.ofInt k.bits a ||| BitVec.ofInt k.bits b).toNat : Int)
  | .xor => k.wrap ((BitVec.ofInt k.bits a ^^^ BitVec.ofInt k.bits b).toNat : Int)
  | _ => k.wrap ((BitVec.ofInt k.bits a &&& ~~~ BitVec.ofInt k.bits b).toNat : Int)

def binNum (op : BinOp) (k : IntKind) (safe : Bool) (f g : X → Int) : VR X :=
  match op with
  | .add => one (mkNum k fun x => k.wrap (f x + g x))
  | .sub => one (mkNum k fun x => k.wrap (f x - g x))
  | .mul => one (mkNum k fun x => k.wrap (f x * g x))
  | .quo => if safe then one (mkNum k fun x => k.wrap ((f x).tdiv (g x))) else oneIf (fun x => g x != 0) (mkNum k fun x => k.wrap ((f x).tdiv (g x)))
  | .rem => if safe then one (mkNum k fun x => (f x).tmod (g x)) else oneIf (fun x => g x != 0) (mkNum k fun x => (f x).tmod (g x))
  | .and => one (mkNum k fun x => bitF .and k (f x) (g x))
  | .or => one (mkNum k fun x => bitF .or k (f x) (g x))
  | .xor => one (mkNum k fun x => bitF .xor k (f x) (g x))
  | .andNot => one (mkNum k fun x => bitF .andNot k (f x) (g x))
  | .eql => one (.v .bool fun x => f x == g x)
  | .neq => one (.v .bool fun x => f x != g x)
  | .lss => one (.v .bool fun x => decide (f x < g x))
  | .leq => one (.v .bool fun x => decide (f x ≤ g x))
  | .gtr => one (.v .bool fun x => decide (f x > g x))
  | .geq => one (.v .bool fun x => decide (f x ≥ g x))
  | _ => none
def shiftNum (op : BinOp) (k : IntKind) (safe : Bool) (f g : X → Int) : VR X :=
  let c : VR X := match op with
    | .shl => one (mkNum k fun x => k.wrap (f x * 2 ^ min (g x).toNat k.bits))
    | .shr => one (mkNum k fun x => (f x).fdiv (2 ^ min (g x).toNat k.bits))
    | _ => none
  if safe then c else c.map fun r => (some fun x => decide (0 ≤ g x), r.2)
def binStr (op : BinOp) (f g : X → List UInt8) : VR X :=
  match op with
  | .add => oneIf (fun x => decide ((f x).length + (g x).length ≤ 9223372036854775807)) (.v .str fun x => f x ++ g x)
  | .eql => one (.v .bool fun x => f x == g x)
  | .neq => one (.v .bool fun x => !(f x == g x))
  | .lss => one (.v .bool fun x => Op.bytesLess (f x) (g x))
  | .leq => one (.v .bool fun x => Op.bytesLess (f x) (g x) || (f x == g x))
  | .gtr => one (.v .bool fun x => !(Op.bytesLess (f x) (g x) || (f x == g x)))
  | .geq => one (.v .bool fun x => !Op.bytesLess (f x) (g x))
  | _ => none
def isShift : BinOp → Bool
  | .shl | .shr => true
  | _ => false
/-- Is the second operand a number that is harmless (not 0; not below it)? -/
def safeOp (op : BinOp) : Operand → Bool
  | .const (.int _ n) => if isShift op then decide (0 ≤ n) else n != 0
  | _ => false

/-- Is an operand the nil of an interface? -/
def isNilI : Operand → Bool
  | .const .nilIface => true
  | _ => false
/-- An error beside nil. -/
def valErr (P : Program) (op : BinOp) (t : TypeId) : VD X → VR X
  | .cells false [.v .err f] => match P.underlying t with
    | some (.interface _) => match op with
      | .neq => one (.v .bool fun x => !(show Bool from f x))
      | .eql => one (.v .bool fun x => (show Bool from f x))
      | _ => none
    | _ => none
  | _ => none
def valBin (P : Program) (op : BinOp) (t : TypeId) (safe : Bool) : VD X → VD X → VR X
  | .cells false [c], .cells false [d] =>
    match c.num, d.num with
    | some (k, f), some (k', g) => if isShift op then shiftNum op k safe f g else if k = k' then binNum op k safe f g else none
    | _, _ => match c, d with
      | .v .str f, .v .str g => binStr op f g
      | .v .bool f, .v .bool g => match P.underlying t with
        | some .bool => match op with
          | .eql => one (.v .bool fun x => (show Bool from f x) == g x)
          | .neq => one (.v .bool fun x => !((show Bool from f x) == g x))
          | _ => none
        | _ => none
      | _, _ => none
  | _, _ => none

variable {x : X} {ρ : Env} {ro : Bl → Prop} {w : World} {P : Program}

theorem run_guard_int (op : BinOp) (t : TypeId) (a b : Operand) (k k' : IntKind) (m n : Int) : (eqGuard op t a b (.int k m) (.int k' n)).run P w = .ok () w := by
  cases op <;> simp [eqGuard]
theorem run_guard_str (op : BinOp) (t : TypeId) (a b : Operand) (m n : ByteArray) : (eqGuard op t a b (.string m) (.string n)).run P w = .ok () w := by
  cases op <;> simp [eqGuard]
theorem run_guard_bool (op : BinOp) (t : TypeId) (a b : Operand) (m n : Bool) : (eqGuard op t a b (.bool m) (.bool n)).run P w = .ok () w := by
  cases op <;> simp [eqGuard]

theorem R_bool (q : X → Bool) : (VD.cells false [.v .bool q]).R x ρ ro w (.bool (q x)) := VD.R_one (by simp only [CV.R, Ty.K]) rfl
theorem R_str (q : X → List UInt8) : (VD.cells false [.v .str q]).R x ρ ro w (strV (q x)) := VD.R_one (by simp only [CV.R, Ty.K]) rfl
theorem R_num {k : IntKind} (q : X → Int) (h : k = .u8 → 0 ≤ q x ∧ q x < 256) : (VD.cells false [mkNum k q]).R x ρ ro w (.int k (q x)) := VD.R_one (mkNum_R h) rfl

theorem binNum_R {op : BinOp} {t : TypeId} {k : IntKind} {safe : Bool} {f g : X → Int} {c : Option (X → Bool)} {vd : VD X} (h : binNum op k safe f g = some (c, vd)) (hu : k = .u8 → (0 ≤ f x ∧ f x < 256) ∧ 0 ≤ g x ∧ g x < 256)
    (hc : ∀ q, c = some q → q x = true) (hsafe : safe = true → g x ≠ 0) : ∃ r, (binOp op t (.int k (f x)) (.int k (g x))).run P w = .ok r w ∧ vd.R x ρ ro w r := by
  have hz : ∀ q : VD X, (if safe then (some (none, q) : VR X) else some (some (fun x => g x != 0), q)) = some (c, vd) → vd = q ∧ g x ≠ 0 := by
    intro q hq
    cases safe with
    | true => cases hq; exact ⟨rfl, hsafe rfl⟩
    | false =>
      cases hq
      exact ⟨rfl, by have := hc _ rfl; simpa using this⟩
  cases op <;> simp only [binNum, one, oneIf] at h
  case add | sub | mul =>
    cases h
    exact ⟨_, by simp [binOp, Op.intArith], R_num _ (by rintro rfl; exact wrap_u8 _)⟩
  case quo =>
    obtain ⟨rfl, hg⟩ := hz _ h
    exact ⟨_, by simp [binOp, Op.intDiv, hg], R_num _ (by rintro rfl; exact wrap_u8 _)⟩
  case rem =>
    obtain ⟨rfl, hg⟩ := hz _ h
    refine ⟨_, by simp [binOp, Op.intDiv, hg], R_num _ (fun hk => ?_)⟩
    obtain ⟨h1, h2⟩ := hu hk
    rw [Int.tmod_eq_emod_of_nonneg h1.1]
    exact ⟨Int.emod_nonneg _ hg, Int.lt_trans (Int.emod_lt_of_pos _ (by omega)) h2.2⟩
  case and | or | xor | andNot =>
    cases h
    exact ⟨_, by simp [binOp, Op.intBits, bitF], R_num _ (by rintro rfl; exact wrap_u8 _)⟩
  case eql | neq | lss | leq | gtr | geq =>
    cases h
    exact ⟨_, by simp [binOp, Op.intCmp], R_bool _⟩
  all_goals cases h

theorem shiftNum_R {op : BinOp} {t : TypeId} {k yk : IntKind} {safe : Bool} {f g : X → Int} {c : Option (X → Bool)} {vd : VD X} (h : shiftNum op k safe f g = some (c, vd)) (hu : k = .u8 → 0 ≤ f x ∧ f x < 256)
    (hc : ∀ q, c = some q → q x = true) (hsafe : safe = true → 0 ≤ g x) : ∃ r, (binOp op t (.int k (f x)) (.int yk (g x))).run P w = .ok r w ∧ vd.R x ρ ro w r := by
  have hz : ∀ q : VD X, (if safe then (some (none, q) : VR X) else (some (none, q) : VR X).map fun r => (some fun x => decide (0 ≤ g x), r.2)) = some (c, vd) → vd = q ∧ 0 ≤ g x := by
    intro q hq
    cases safe with
    | true => cases hq; exact ⟨rfl, hsafe rfl⟩
    | false =>
      cases hq
      exact ⟨rfl, by have := hc _ rfl; simpa using this⟩
  cases op <;> simp only [shiftNum, one] at h
  case shl =>
    obtain ⟨rfl, hg⟩ := hz _ h
    have hg' : ¬ g x < 0 := by omega
    exact ⟨_, by simp [binOp, Op.shift, hg'], R_num _ (by rintro rfl; exact wrap_u8 _)⟩
  case shr =>
    obtain ⟨rfl, hg⟩ := hz _ h
    have hg' : ¬ g x < 0 := by omega
    refine ⟨_, by simp [binOp, Op.shift, hg'], R_num _ (fun hk => ?_)⟩
    obtain ⟨h1, h2⟩ := hu hk
    have hp : (0 : Int) < 2 ^ min (g x).toNat k.bits := Int.pow_pos (by decide)
    rw [Int.fdiv_eq_ediv_of_nonneg _ (Int.le_of_lt hp)]
    exact ⟨Int.ediv_nonneg h1 (Int.le_of_lt hp), Int.lt_of_le_of_lt (Int.ediv_le_self _ h1) h2⟩
  all_goals (cases safe <;> cases h)

theorem binStr_R {op : BinOp} {t : TypeId} {f g : X → List UInt8} {c : Option (X → Bool)} {vd : VD X} (h : binStr op f g = some (c, vd))
    (hc : ∀ q, c = some q → q x = true) : ∃ r, (binOp op t (strV (f x)) (strV (g x))).run P w = .ok r w ∧ vd.R x ρ ro w r := by
  cases op <;> simp only [binStr, one, oneIf] at h
  case add =>
    cases h
    have := hc _ rfl
    have hl : (f x).length + (g x).length ≤ 9223372036854775807 := by simpa using this
    have hn : ¬ (9223372036854775807 < ((f x).length : Int) + ((g x).length : Int)) := by omega
    refine ⟨_, ?_, R_str _⟩
    have hap : (⟨⟨f x⟩⟩ : ByteArray) ++ ⟨⟨g x⟩⟩ = ⟨⟨f x ++ g x⟩⟩ := by
      apply ByteArray.ext
      simp [ByteArray.data_append]
    have hs : ∀ l : List UInt8, (⟨⟨l⟩⟩ : ByteArray).size = l.length := fun l => rfl
    simp [binOp, strV, Op.stringOp, hs, IntKind.max, IntKind.signed, IntKind.bits, hn, hap]
  case eql | neq | lss | leq | gtr | geq =>
    cases h
    exact ⟨_, by simp [binOp, strV, Op.stringOp], R_bool _⟩
  all_goals cases h
end
end Go.Sym

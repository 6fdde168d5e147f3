import Derived.Test.YtmogjjnghkfmnaaGreatS30
/-! Functions that call themselves; loops as plain recursion. -/
namespace Go.Sym
/-- A number as an int of 64 bits has it. -/
abbrev W (x : Int) : Int := IntKind.i64.wrap x
/-- Element i, plain. -/
def rd {α : Type} [Inhabited α] (l : List α) (i : Int) : α := (l[i.toNat]?).getD default
def rdn {α : Type} [Inhabited α] (l : List α) (i : Nat) : α := (l[i]?).getD default
structure Sem' (P : Program) (f : FuncId) (F G : FS) where
  fn : Nat → F.T → Option G.T
  ok : ∀ n, Contract P f F G (fn n)
section
variable {P : Program} {f : FuncId} {F G : FS}
def Sem'.toF (s : Sem' P f F G) : FSem P f := ⟨F, G, s.fn, s.ok⟩
def Sem'.fail : Sem' P f F G := ⟨fun _ _ => none, fun _ _ _ _ _ _ _ _ _ _ h => by cases h⟩
def recS (step : Sem' P f F G → Sem' P f F G) : Nat → Sem' P f F G
  | 0 => .fail
  | d + 1 => step (recS step d)
def Sem'.fix (step : Sem' P f F G → Sem' P f F G) : Sem' P f F G := ⟨fun n => (recS step n).fn n, fun n => (recS step n).ok n⟩
theorem recS_eq {step : Sem' P f F G → Sem' P f F G} (n : Nat) (L : Nat → F.T → Option G.T) (h0 : L 0 = fun _ => none) (hs : ∀ d (k : Sem' P f F G), k.fn n = L d → (step k).fn n = L (d + 1)) : ∀ d, (recS step d).fn n = L d
  | 0 => h0.symm
  | d + 1 => hs d _ (recS_eq n L h0 hs d)
end
theorem loopFn_eq {nt : Nat} {R X : Type} {W : En → R → Act → World → Prop} {σ : St X} {F : Fn nt W σ → Fn nt W σ} (L : Nat → X → Option R) (h0 : L 0 = fun _ => none) (hs : ∀ m (k : Fn nt W σ), k.fn = L m → (F k).fn = L (m + 1)) :
    ∀ m, (loopFn nt F m).fn = L m
  | 0 => h0.symm
  | m + 1 => hs m _ (loopFn_eq L h0 hs m)
end Go.Sym

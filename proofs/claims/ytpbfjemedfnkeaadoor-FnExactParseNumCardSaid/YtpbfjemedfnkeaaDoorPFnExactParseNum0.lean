import Derived.Test.YtpbfjemedfnkeaaDoorFFnExactParseNum
import Derived.KernelRfl
/-! The plain forms of these functions, and that they are these. -/
namespace Go.Sym
open Go Go.Proofs
set_option maxRecDepth 100000
set_option linter.unusedVariables false
def f22 (n : Nat) (x0 : Int) (x1 : Int) (x2 : Int) : Option (Bool × Unit) := some (if decide (x0 ≥ x1) = true then decide (x0 ≤ x2) else false, ())
theorem e22 (n : Nat) (x0 : Int) (x1 : Int) (x2 : Int) : s22.fn n (x0, x1, x2, ()) = f22 n x0 x1 x2 := (by kernel_rfl)
def f9L0 (n : Nat) : Nat → List UInt8 × Int × Int × Unit → Option (Int × Bool × Unit)
  | 0, _ => none
  | m + 1, (x0, x1, x2, ()) =>  if (if decide (x2 < (↑(List.length x0) : Int)) = true then decide (x2 < 6) else false) = true then (if inR (List.length x0) x2 = true then (obind (f22 n (W (↑(List.getD x0 (Int.toNat x2) 0).toNat : Int)) 48 57) fun r0 => if (!r0.fst) = true then (some (0, false, ())) else (if inR (List.length x0) x2 = true then ((f9L0 n m) (x0, W (W (x1 * 10) + W (↑(UInt8.ofNat (IntKind.u8.wrap ((↑(List.getD x0 (Int.toNat x2) 0).toNat : Int) - (↑(UInt8.ofNat (Int.toNat 48)).toNat : Int))).toNat).toNat : Int)), W (x2 + 1), ())) else (none))) else (none)) else (obind (f22 n ((↑(List.length x0) : Int)) 1 5) fun r1 => if (!(true && (!r1.fst) == false && decide ((↑(List.length x0) : Int) > 1) == true) || inR (List.length x0) 0) = true then (if (if (if (!r1.fst) = true then true else if decide ((↑(List.length x0) : Int) > 1) = true then (↑(List.getD x0 (Int.toNat 0) 0).toNat : Int) == (↑(UInt8.ofNat (Int.toNat 48)).toNat : Int) else false) = true then true else decide (x1 > 65535)) = true then (some (0, false, ())) else (some (x1, true, ()))) else (none))
def f9 (n : Nat) (x0 : List UInt8) : Option (Int × Bool × Unit) := f9L0 n n ((x0, 0, 0, ()))
theorem e9 (n : Nat) (x0 : List UInt8) : s9.fn n (x0, ()) = f9 n x0 := (congrFun (loopFn_eq (f9L0 n) (by funext x; rfl) (fun m k hk => by obtain ⟨f, okk⟩ := k; subst hk; exact (funext fun x => by obtain ⟨x0, x1, x2, _⟩ := x; exact  ite_congr (by kernel_rfl) (fun _ => ite_congr (by kernel_rfl) (fun _ => obind_congr (e22 n (W (↑(List.getD x0 (Int.toNat x2) 0).toNat : Int)) 48 57) (fun (r0 : Bool × Unit) => (by kernel_rfl))) (fun _ => (by kernel_rfl))) (fun _ => obind_congr (e22 n ((↑(List.length x0) : Int)) 1 5) (fun (r1 : Bool × Unit) => (by kernel_rfl))))) n) _).trans (by kernel_rfl)
def f21 (n : Nat) (x0 : Int) : Option (List UInt8 × Unit) := Option.map (fun z => (z, ())) (if -9223372036854775808 ≤ x0 then if x0 ≤ 9223372036854775807 then some (Lib.itoa x0) else none else none)
theorem e21 (n : Nat) (x0 : Int) : s21.fn n (x0, ()) = f21 n x0 := (by kernel_rfl)
def f8 (n : Nat) (x0 : Int) : Option (List UInt8 × Unit) := obind (f21 n x0) fun r0 => some (r0.fst, ())
theorem e8 (n : Nat) (x0 : Int) : s8.fn n (x0, ()) = f8 n x0 := obind_congr (e21 n x0) (fun (r0 : List UInt8 × Unit) => (by kernel_rfl))
def f23 (n : Nat) (x0 : List UInt8) : Option (Int × Bool × Unit) := if List.length x0 ≤ 1048576 then (some
  (match Lib.atoiAll x0 with
  | Lib.NumEnd.ok v => (v, true, ())
  | Lib.NumEnd.range => (Lib.atoiSat x0, false, ())
  | _ => (0, false, ()))) else (none)
theorem e23 (n : Nat) (x0 : List UInt8) : s23.fn n (x0, ()) = f23 n x0 := (by kernel_rfl)
def f45 (n : Nat) (x0 : Int) (x1 : Int) (x2 : Int) : Option (Bool × Unit) := some (if decide (x0 ≥ x1) = true then decide (x0 ≤ x2) else false, ())
theorem e45 (n : Nat) (x0 : Int) (x1 : Int) (x2 : Int) : s45.fn n (x0, x1, x2, ()) = f45 n x0 x1 x2 := (by kernel_rfl)
def f24 (n : Nat) (x0 : Int) : Option (Bool × Unit) := obind (f45 n x0 0 65535) fun r0 => some (r0.fst, ())
theorem e24 (n : Nat) (x0 : Int) : s24.fn n (x0, ()) = f24 n x0 := obind_congr (e45 n x0 0 65535) (fun (r0 : Bool × Unit) => (by kernel_rfl))
def f10 (n : Nat) (x0 : List UInt8) : Option (Int × Bool × Unit) := obind (f23 n x0) fun r0 => obind (if (true && (!r0.snd.fst) == false) = true then (f24 n r0.fst) else (some (Ty.bool.dflt, ()))) fun r1 => obind (if (true && (if (!r0.snd.fst) = true then true else !r1.fst) == false) = true then (f8 n r0.fst) else (some (Ty.str.dflt, ()))) fun r2 => if (if (if (!r0.snd.fst) = true then true else !r1.fst) = true then true else !r2.fst == x0) = true then (some (0, false, ())) else (some (r0.fst, true, ()))
theorem e10 (n : Nat) (x0 : List UInt8) : s10.fn n (x0, ()) = f10 n x0 := obind_congr (e23 n x0) (fun (r0 : Int × Bool × Unit) => obind_congr (ite_congr (by kernel_rfl) (fun _ => (e24 n r0.fst)) (fun _ => (by kernel_rfl))) (fun (r1 : Bool × Unit) => obind_congr (ite_congr (by kernel_rfl) (fun _ => (e8 n r0.fst)) (fun _ => (by kernel_rfl))) (fun (r2 : List UInt8 × Unit) => (by kernel_rfl))))
def f4 (n : Nat) (x0 : List UInt8) : Option (Bool × Unit) := if decide ((↑(List.length x0) : Int) > 1048576) = true then (some (true, ())) else (obind (f9 n x0) fun r0 => obind (f10 n x0) fun r1 => if (if (r1.fst != r0.fst) = true then true else !r1.snd.fst == r0.snd.fst) = true then (some (false, ())) else (some (true, ())))
theorem e4 (n : Nat) (x0 : List UInt8) : s4.fn n (x0, ()) = f4 n x0 := ite_congr (by kernel_rfl) (fun _ => (by kernel_rfl)) (fun _ => obind_congr (e9 n x0) (fun (r0 : Int × Bool × Unit) => obind_congr (e10 n x0) (fun (r1 : Int × Bool × Unit) => (by kernel_rfl))))
end Go.Sym

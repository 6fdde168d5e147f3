import Derived.Test.YtppdkfkggiejkaaA1
namespace Go.Sym
open Go.Proofs
noncomputable def r43 (k : Sem' Try.prog 43 (iF 3) oB) : Sem' Try.prog 43 (iF 3) oB :=
  let s := build Try.prog oB Try.f43 hm 43 Try.func43 (iF 3) [(100004, ⟨[(0, false, [I]), (1, false, [I]), (2, false, [I]), (7, false, [I])], []⟩)] [⟨46, s46⟩, ⟨43, k.toF⟩] (by decide) (Try.f43.body.getD .skip) rfl
  ⟨s.fn, s.ok⟩
noncomputable def s43 : FSem Try.prog 43 := (Sem'.fix r43).toF
noncomputable def s33 : FSem Try.prog 33 := build Try.prog oB Try.f33 hm 33 Try.func33 (iF 2) [] [⟨43, s43⟩] (by decide) (Try.f33.body.getD .skip) rfl
noncomputable def s15 : FSem Try.prog 15 := build Try.prog oB Try.f15 hm 15 Try.func15 (iF 2) [] [⟨33, s33⟩] (by decide) (Try.f15.body.getD .skip) rfl
noncomputable def r34 (k : Sem' Try.prog 34 (iF 2) oB) : Sem' Try.prog 34 (iF 2) oB :=
  let s := build Try.prog oB Try.f34 hm 34 Try.func34 (iF 2) [(100004, ⟨[(0, false, [I]), (1, false, [I]), (5, false, [I])], []⟩)] [⟨44, s44⟩, ⟨34, k.toF⟩] (by decide) (Try.f34.body.getD .skip) rfl
  ⟨s.fn, s.ok⟩
noncomputable def s34 : FSem Try.prog 34 := (Sem'.fix r34).toF
noncomputable def s16 : FSem Try.prog 16 := build Try.prog oB Try.f16 hm 16 Try.func16 (iF 2) [] [⟨34, s34⟩] (by decide) (Try.f16.body.getD .skip) rfl
noncomputable def s5 : FSem Try.prog 5 := build Try.prog oB Try.f5 hm 5 Try.func5 (iF 2) [] [⟨15, s15⟩, ⟨16, s16⟩] (by decide) (Try.f5.body.getD .skip) rfl
noncomputable def t43 (k : Sem' Try.prog 43 (iF 3) oB) : FSem Try.prog 43 := (r43 k).toF
noncomputable def t34 (k : Sem' Try.prog 34 (iF 2) oB) : FSem Try.prog 34 := (r34 k).toF
end Go.Sym

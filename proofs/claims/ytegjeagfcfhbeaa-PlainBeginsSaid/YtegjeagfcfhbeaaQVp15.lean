/- Vp15: made by vx.py. -/
import Derived.Test.YtegjeagfcfhbeaaQVp14
namespace Go.Proofs.Ytegjeagfcfhbeaa
open Go.RowKit Go.Bw Go.Vx
namespace Vp
set_option linter.unusedVariables false
set_option linter.unusedSimpArgs false
/-! ### limits -/
set_option maxRecDepth 100000 in
theorem al_1 : infR [75, 4, 0] 0 9 = ([97], 18, 0) := by decide +kernel
set_option maxRecDepth 100000 in
theorem al_2 : infR [1, 3, 0, 252, 255, 97, 98, 99] 0 3 = ([97, 98, 99], 64, 0) := by decide +kernel

theorem inf_c1 : SpecH false Try.prog 18 [.sl false 3 1 (([75, 4, 0] : List UInt8).map dB), iD 0, iD 9] [] (.tup [.ref 0 0 0 1 1, nD 18, nD 0]) [⟨([97] : List UInt8).map dB, 5, true⟩] := Inf_t [75, 4, 0] 3 rfl (by decide) 0 9 ([97], 18, 0) al_1
theorem inf_c2 : SpecH false Try.prog 18 [.sl false 8 1 (([1, 3, 0, 252, 255, 97, 98, 99] : List UInt8).map dB), iD 0, iD 3] [] (.tup [.ref 0 0 0 3 1, nD 64, nD 0]) [⟨([97, 98, 99] : List UInt8).map dB, 5, true⟩] := Inf_t [1, 3, 0, 252, 255, 97, 98, 99] 8 rfl (by decide) 0 3 ([97, 98, 99], 64, 0) al_2
set_option maxRecDepth 100000 in
set_option maxHeartbeats 4000000 in
theorem alive  : SpecH false Try.prog 17 [] [] (.v (.bool true)) [] := by
  refine SpecH.run T_ok mixed Try.func17 rfl rfl rfl trivial rfl 1000 64 (fun R ok => (.s 9 (.call 18 false [] (true) (by with_reducible rfl) ([D.sl true 3 1 [D.v (Value.int IntKind.u8 75), D.v (Value.int IntKind.u8 4), D.v (Value.int IntKind.u8 0)], D.v (Value.int IntKind.i64 0), D.v (Value.int IntKind.i64 9)]) _ (by exact (And.intro (D.sim.slw rfl rfl) (And.intro (D.sim.refl _) (And.intro (D.sim.refl _) trivial)))) (true) (by with_reducible rfl) _ _ _ (CallOk.fn (FnOk.of Try.func18 rfl rfl) (@Go.Proofs.Ytegjeagfcfhbeaa.Vp.inf_c1)) (.s 45 (.call 18 false [] (true) (by with_reducible rfl) ([D.sl true 8 1 [D.v (Value.int IntKind.u8 1), D.v (Value.int IntKind.u8 3), D.v (Value.int IntKind.u8 0), D.v (Value.int IntKind.u8 252), D.v (Value.int IntKind.u8 255), D.v (Value.int IntKind.u8 97), D.v (Value.int IntKind.u8 98), D.v (Value.int IntKind.u8 99)], D.v (Value.int IntKind.i64 0), D.v (Value.int IntKind.i64 3)]) _ (by exact (And.intro (D.sim.slw rfl rfl) (And.intro (D.sim.refl _) (And.intro (D.sim.refl _) trivial)))) (true) (by with_reducible rfl) _ _ _ (CallOk.fn (FnOk.of Try.func18 rfl rfl) (@Go.Proofs.Ytegjeagfcfhbeaa.Vp.inf_c2)) (.s 37 (.out [] [] (D.v (Value.bool true)) [] R (ok _ _ (by with_reducible rfl) (by with_reducible rfl))))))))) (by kernel_rfl)
end Vp
end Go.Proofs.Ytegjeagfcfhbeaa

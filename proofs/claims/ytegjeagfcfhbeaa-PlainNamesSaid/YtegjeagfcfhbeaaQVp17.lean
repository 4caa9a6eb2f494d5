/- Vp17: made by vx.py. -/
import Derived.Test.YtegjeagfcfhbeaaQVp15
namespace Go.Proofs.Ytegjeagfcfhbeaa
open Go.RowKit Go.Bw Go.Vx
namespace Vp
set_option linter.unusedVariables false
set_option linter.unusedSimpArgs false
set_option maxRecDepth 100000 in
theorem nm_1_v : infR [3, 0] 0 0 = ([], 10, 0) := by decide +kernel
theorem nm_1 : SpecH false Try.prog 18 [.sl false 2 1 (([3, 0] : List UInt8).map dB), iD 0, iD 0] [] (.tup [.ref 0 0 0 0 1, nD 10, nD 0]) [⟨([] : List UInt8).map dB, 5, true⟩] := Inf_t [3, 0] 2 rfl (by decide) 0 0 ([], 10, 0) nm_1_v
set_option maxRecDepth 100000 in
theorem nm_2_v : infR [1, 3, 0, 252, 255, 97, 98, 99] 0 2 = ([], 0, 140) := by decide +kernel
theorem nm_2 : SpecH false Try.prog 18 [.sl false 8 1 (([1, 3, 0, 252, 255, 97, 98, 99] : List UInt8).map dB), iD 0, iD 2] [] (.tup [.ref 0 0 0 0 1, nD 0, nD 140]) [⟨([] : List UInt8).map dB, 5, true⟩] := Inf_t [1, 3, 0, 252, 255, 97, 98, 99] 8 rfl (by decide) 0 2 ([], 0, 140) nm_2_v
set_option maxRecDepth 100000 in
theorem nm_3_v : infR [75, 4] 0 9 = ([], 0, 10) := by decide +kernel
theorem nm_3 : SpecH false Try.prog 18 [.sl false 2 1 (([75, 4] : List UInt8).map dB), iD 0, iD 9] [] (.tup [.ref 0 0 0 0 1, nD 0, nD 10]) [⟨([] : List UInt8).map dB, 5, true⟩] := Inf_t [75, 4] 2 rfl (by decide) 0 9 ([], 0, 10) nm_3_v
set_option maxRecDepth 100000 in
theorem nm_4_v : infR [7] 0 9 = ([], 0, 130) := by decide +kernel
theorem nm_4 : SpecH false Try.prog 18 [.sl false 1 1 (([7] : List UInt8).map dB), iD 0, iD 9] [] (.tup [.ref 0 0 0 0 1, nD 0, nD 130]) [⟨([] : List UInt8).map dB, 5, true⟩] := Inf_t [7] 1 rfl (by decide) 0 9 ([], 0, 130) nm_4_v
set_option maxRecDepth 100000 in
theorem nm_5_v : infR [1, 3, 0, 252, 254] 0 9 = ([], 0, 131) := by decide +kernel
theorem nm_5 : SpecH false Try.prog 18 [.sl false 5 1 (([1, 3, 0, 252, 254] : List UInt8).map dB), iD 0, iD 9] [] (.tup [.ref 0 0 0 0 1, nD 0, nD 131]) [⟨([] : List UInt8).map dB, 5, true⟩] := Inf_t [1, 3, 0, 252, 254] 5 rfl (by decide) 0 9 ([], 0, 131) nm_5_v
set_option maxRecDepth 100000 in
theorem nm_6_v : infR [5, 255, 255] 0 9 = ([], 0, 132) := by decide +kernel
theorem nm_6 : SpecH false Try.prog 18 [.sl false 3 1 (([5, 255, 255] : List UInt8).map dB), iD 0, iD 9] [] (.tup [.ref 0 0 0 0 1, nD 0, nD 132]) [⟨([] : List UInt8).map dB, 5, true⟩] := Inf_t [5, 255, 255] 3 rfl (by decide) 0 9 ([], 0, 132) nm_6_v
set_option maxRecDepth 100000 in
theorem nm_7_v : infR [3, 2, 0] 0 9 = ([], 0, 60) := by decide +kernel
theorem nm_7 : SpecH false Try.prog 18 [.sl false 3 1 (([3, 2, 0] : List UInt8).map dB), iD 0, iD 9] [] (.tup [.ref 0 0 0 0 1, nD 0, nD 60]) [⟨([] : List UInt8).map dB, 5, true⟩] := Inf_t [3, 2, 0] 3 rfl (by decide) 0 9 ([], 0, 60) nm_7_v
set_option maxRecDepth 100000 in
theorem nm_0v : pfxR [75, 4] 9 = ([97], 0) := by decide +kernel
theorem nm_0 : SpecH false Try.prog 20 [.sl false 2 1 (([75, 4] : List UInt8).map dB), iD 9] [] (.tup [.ref 0 0 0 1 1, nD 0]) [⟨([97] : List UInt8).map dB, 5, true⟩] := Pfx_t [75, 4] 2 rfl (by decide) 9 ([97], 0) nm_0v
set_option maxRecDepth 100000 in
set_option maxHeartbeats 4000000 in
theorem names  : SpecH false Try.prog 7 [] [] (.v (.bool true)) [] := by
  refine SpecH.run T_ok mixed Try.func7 rfl rfl rfl trivial rfl 1000 64 (fun R ok => (.s 6 (.call 20 false [] (true) (by with_reducible rfl) ([D.sl true 2 1 [D.v (Value.int IntKind.u8 75), D.v (Value.int IntKind.u8 4)], D.v (Value.int IntKind.i64 9)]) _ (by exact (And.intro (D.sim.slw rfl rfl) (And.intro (D.sim.refl _) trivial))) (true) (by with_reducible rfl) _ _ _ (CallOk.fn (FnOk.of Try.func20 rfl rfl) (@Go.Proofs.Ytegjeagfcfhbeaa.Vp.nm_0)) (.s 15 (.call 18 false [] (true) (by with_reducible rfl) ([D.sl true 2 1 [D.v (Value.int IntKind.u8 3), D.v (Value.int IntKind.u8 0)], D.v (Value.int IntKind.i64 0), D.v (Value.int IntKind.i64 0)]) _ (by exact (And.intro (D.sim.slw rfl rfl) (And.intro (D.sim.refl _) (And.intro (D.sim.refl _) trivial)))) (true) (by with_reducible rfl) _ _ _ (CallOk.fn (FnOk.of Try.func18 rfl rfl) (@Go.Proofs.Ytegjeagfcfhbeaa.Vp.nm_1)) (.s 45 (.call 18 false [] (true) (by with_reducible rfl) ([D.sl true 8 1 [D.v (Value.int IntKind.u8 1), D.v (Value.int IntKind.u8 3), D.v (Value.int IntKind.u8 0), D.v (Value.int IntKind.u8 252), D.v (Value.int IntKind.u8 255), D.v (Value.int IntKind.u8 97), D.v (Value.int IntKind.u8 98), D.v (Value.int IntKind.u8 99)], D.v (Value.int IntKind.i64 0), D.v (Value.int IntKind.i64 2)]) _ (by exact (And.intro (D.sim.slw rfl rfl) (And.intro (D.sim.refl _) (And.intro (D.sim.refl _) trivial)))) (true) (by with_reducible rfl) _ _ _ (CallOk.fn (FnOk.of Try.func18 rfl rfl) (@Go.Proofs.Ytegjeagfcfhbeaa.Vp.nm_2)) (.s 42 (.call 18 false [] (true) (by with_reducible rfl) ([D.sl true 2 1 [D.v (Value.int IntKind.u8 75), D.v (Value.int IntKind.u8 4)], D.v (Value.int IntKind.i64 0), D.v (Value.int IntKind.i64 9)]) _ (by exact (And.intro (D.sim.slw rfl rfl) (And.intro (D.sim.refl _) (And.intro (D.sim.refl _) trivial)))) (true) (by with_reducible rfl) _ _ _ (CallOk.fn (FnOk.of Try.func18 rfl rfl) (@Go.Proofs.Ytegjeagfcfhbeaa.Vp.nm_3)) (.s 41 (.call 18 false [] (true) (by with_reducible rfl) ([D.sl true 1 1 [D.v (Value.int IntKind.u8 7)], D.v (Value.int IntKind.i64 0), D.v (Value.int IntKind.i64 9)]) _ (by exact (And.intro (D.sim.slw rfl rfl) (And.intro (D.sim.refl _) (And.intro (D.sim.refl _) trivial)))) (true) (by with_reducible rfl) _ _ _ (CallOk.fn (FnOk.of Try.func18 rfl rfl) (@Go.Proofs.Ytegjeagfcfhbeaa.Vp.nm_4)) (.s 41 (.call 18 false [] (true) (by with_reducible rfl) ([D.sl true 5 1 [D.v (Value.int IntKind.u8 1), D.v (Value.int IntKind.u8 3), D.v (Value.int IntKind.u8 0), D.v (Value.int IntKind.u8 252), D.v (Value.int IntKind.u8 254)], D.v (Value.int IntKind.i64 0), D.v (Value.int IntKind.i64 9)]) _ (by exact (And.intro (D.sim.slw rfl rfl) (And.intro (D.sim.refl _) (And.intro (D.sim.refl _) trivial)))) (true) (by with_reducible rfl) _ _ _ (CallOk.fn (FnOk.of Try.func18 rfl rfl) (@Go.Proofs.Ytegjeagfcfhbeaa.Vp.nm_5)) (.s 42 (.call 18 false [] (true) (by with_reducible rfl) ([D.sl true 3 1 [D.v (Value.int IntKind.u8 5), D.v (Value.int IntKind.u8 255), D.v (Value.int IntKind.u8 255)], D.v (Value.int IntKind.i64 0), D.v (Value.int IntKind.i64 9)]) _ (by exact (And.intro (D.sim.slw rfl rfl) (And.intro (D.sim.refl _) (And.intro (D.sim.refl _) trivial)))) (true) (by with_reducible rfl) _ _ _ (CallOk.fn (FnOk.of Try.func18 rfl rfl) (@Go.Proofs.Ytegjeagfcfhbeaa.Vp.nm_6)) (.s 42 (.call 18 false [] (true) (by with_reducible rfl) ([D.sl true 3 1 [D.v (Value.int IntKind.u8 3), D.v (Value.int IntKind.u8 2), D.v (Value.int IntKind.u8 0)], D.v (Value.int IntKind.i64 0), D.v (Value.int IntKind.i64 9)]) _ (by exact (And.intro (D.sim.slw rfl rfl) (And.intro (D.sim.refl _) (And.intro (D.sim.refl _) trivial)))) (true) (by with_reducible rfl) _ _ _ (CallOk.fn (FnOk.of Try.func18 rfl rfl) (@Go.Proofs.Ytegjeagfcfhbeaa.Vp.nm_7)) (.s 36 (.call 17 false [] (true) (by with_reducible rfl) ([]) _ (simL.refl _) (true) (by with_reducible rfl) _ _ _ (CallOk.fn (FnOk.of Try.func17 rfl rfl) (@Go.Proofs.Ytegjeagfcfhbeaa.Vp.alive)) (.s 407 (.out [] [] (D.v (Value.bool true)) [] R (ok _ _ (by with_reducible rfl) (by with_reducible rfl))))))))))))))))))))))) (by kernel_rfl)
end Vp
end Go.Proofs.Ytegjeagfcfhbeaa

/- Vw6: made by vx.py. -/
import Derived.Test.YtmdejhgacknfhaaQVw5
namespace Go.Proofs.Ytmdejhgacknfhaa
open Go.RowKit Go.Bw Go.Vx Go.Bw.Sums Vs
namespace Vw
set_option linter.unusedVariables false
set_option linter.unusedSimpArgs false
theorem argsH {al : Bool} {P : Program} {f : FuncId} {ds ds' : List D} {hin : List Blk} {r : D} {bs : List Blk} (hs : simL ds ds') (h : SpecH al P f ds' hin r bs) : SpecH al P f ds hin r bs := by
  obtain ⟨e, g⟩ := hs.get
  refine ⟨h.1, fun O φ w args hO hh hi hl ha => h.2 O φ w args hO hh hi (hl.trans e) fun j d' u hd hu => ?_⟩
  obtain ⟨d, h1, h2⟩ := g j d' hd
  exact h2 _ _ _ (ha j d u h1 hu)
theorem labN (s t : D) : (D.agg [bD false, uD 0, bD false, nilD, s, t, bD false]).sim (.agg [bD false, uD 0, bD false, .sl false 0 1 [], s, t, bD false]) :=
  D.sim.agg ⟨.refl _, .refl _, .refl _, D.sim.nil (by decide), .refl _, .refl _, .refl _, trivial⟩
theorem labL (c s t : D) : simL [c, D.agg [bD false, uD 0, bD false, nilD, s, t, bD false]] [c, .agg [bD false, uD 0, bD false, .sl false 0 1 [], s, t, bD false]] := ⟨.refl _, labN s t, trivial⟩
theorem hd_alN : SpecH false Try.prog 8 [u8D 1, .agg [bD false, uD 0, bD false, nilD, sD [], sD [], bD false]] [] (.tup [.ref 0 0 0 10 1, iD 0]) [⟨([31, 139, 8, 0, 0, 0, 0, 0, 0, 255] : List UInt8).map dB, 5, true⟩] := argsH (labL _ _ _) hd_al
theorem tl_1 : SpecH false Try.prog 10 [u8D 1, .sl false 1 1 (([97] : List UInt8).map dB)] [] (.tup [.ref 0 0 0 8 1, iD 0]) [⟨([67, 190, 183, 232, 1, 0, 0, 0] : List UInt8).map dB, 5, true⟩] := by
  have h := Tail_1 tab rfl 1 (by decide) [97] 1 rfl (by decide) rfl
  have e : lowB (sumN tab 1 0 [97]) 4 ++ lowB 1 4 = [67, 190, 183, 232, 1, 0, 0, 0] := by decide +kernel
  rwa [e] at h
theorem tl_2 : SpecH false Try.prog 10 [u8D 2, .sl false 1 1 (([97] : List UInt8).map dB)] [] (.tup [.ref 0 0 0 4 1, iD 0]) [⟨([0, 98, 0, 98] : List UInt8).map dB, 5, false⟩] := by
  have h := Tail_2 tab rfl 2 (by decide) [97] 1 rfl (by decide) rfl
  have e : highB (sumN tab 2 1 [97]) = [0, 98, 0, 98] := by decide +kernel
  rwa [e] at h
set_option maxRecDepth 100000 in
set_option maxHeartbeats 4000000 in
theorem alive  : SpecH false Try.prog 16 [] [] (.v (.bool true)) [] := by
  refine SpecH.run T_ok mixed Try.func16 rfl rfl rfl trivial rfl 1000 64 (fun R ok => (.s 4 (.call 8 false [] (true) (by with_reducible rfl) ([D.v (Value.int IntKind.u8 1), D.agg [D.v (Value.bool false), D.v (Value.int IntKind.u32 0), D.v (Value.bool false), D.v (Value.slice none 0 0), D.v (Value.string (ByteArray.mk #[])), D.v (Value.string (ByteArray.mk #[])), D.v (Value.bool false)]]) _ (by exact (And.intro (D.sim.refl _) (And.intro (D.sim.refl _) trivial))) (true) (by with_reducible rfl) _ _ _ (CallOk.fn (FnOk.of Try.func8 rfl rfl) (@Go.Proofs.Ytmdejhgacknfhaa.Vw.hd_alN)) (.s 12 (.call 10 false [] (true) (by with_reducible rfl) ([D.v (Value.int IntKind.u8 1), D.sl true 1 1 [D.v (Value.int IntKind.u8 97)]]) _ (by exact (And.intro (D.sim.refl _) (And.intro (D.sim.slw rfl rfl) trivial))) (true) (by with_reducible rfl) _ _ _ (CallOk.fn (FnOk.of Try.func10 rfl rfl) (@Go.Proofs.Ytmdejhgacknfhaa.Vw.tl_1)) (.s 12 (.call 10 false [] (true) (by with_reducible rfl) ([D.v (Value.int IntKind.u8 2), D.sl true 1 1 [D.v (Value.int IntKind.u8 97)]]) _ (by exact (And.intro (D.sim.refl _) (And.intro (D.sim.slw rfl rfl) trivial))) (true) (by with_reducible rfl) _ _ _ (CallOk.fn (FnOk.of Try.func10 rfl rfl) (@Go.Proofs.Ytmdejhgacknfhaa.Vw.tl_2)) (.s 55 (.out [] [] (D.v (Value.bool true)) [] R (ok _ _ (by with_reducible rfl) (by with_reducible rfl))))))))))) (by kernel_rfl)
end Vw
end Go.Proofs.Ytmdejhgacknfhaa

/- Vw8: made by vx.py. -/
import Derived.Test.YtmdejhgacknfhaaQVw7
namespace Go.Proofs.Ytmdejhgacknfhaa
open Go.RowKit Go.Bw Go.Vx Go.Bw.Sums Vs
namespace Vw
set_option linter.unusedVariables false
set_option linter.unusedSimpArgs false
theorem hd_ok (t : List Nat) (htt : t = tab) (l : Lab) (m : Nat) (hm : m = l.extra.length) (hN : m ≤ 600) (hN2 : l.name.length ≤ 600) (hN3 : l.comment.length ≤ 600) (ht : l.time ≤ 4294967295) (hM : mayL l = true) : SpecH false Try.prog 8 [u8D 1, labD m l] [] (.tup [.ref 0 0 0 (gzL t l).length 1, iD 0]) [⟨(gzL t l).map dB, 5, true⟩] := by
  cases h1 : l.has <;> by_cases h2 : l.name = [] <;> by_cases h3 : l.comment = []
  · exact hd_G000 t htt l m hm hN hN2 hN3 ht hM h1 h2 h3
  · exact hd_G001 t htt l m hm hN hN2 hN3 ht hM h1 h2 h3
  · exact hd_G010 t htt l m hm hN hN2 hN3 ht hM h1 h2 h3
  · exact hd_G011 t htt l m hm hN hN2 hN3 ht hM h1 h2 h3
  · exact hd_G100 t htt l m hm hN hN2 hN3 ht hM h1 h2 h3
  · exact hd_G101 t htt l m hm hN hN2 hN3 ht hM h1 h2 h3
  · exact hd_G110 t htt l m hm hN hN2 hN3 ht hM h1 h2 h3
  · exact hd_G111 t htt l m hm hN hN2 hN3 ht hM h1 h2 h3
set_option maxRecDepth 100000 in
set_option maxHeartbeats 4000000 in
theorem hd_no (l : Lab) (m : Nat) (hm : m = l.extra.length) (hN : m ≤ 600) (hN2 : l.name.length ≤ 600) (hN3 : l.comment.length ≤ 600) (ht : l.time ≤ 4294967295) (hM : mayL l = false) : SpecH false Try.prog 8 [u8D 1, labD m l] [] (.tup [nilD, iD 3]) [] := by
  refine SpecH.run T_ok mixed Try.func8 rfl rfl rfl trivial rfl 1000 64 (fun R ok => (.s 6 (.call 21 false [] (true) (by with_reducible rfl) ([D.v (Value.int IntKind.u8 1)]) _ (by exact (And.intro (D.sim.refl _) trivial)) (true) (by with_reducible rfl) _ _ _ (CallOk.fn (FnOk.of Try.func21 rfl rfl) (@Go.Proofs.Ytmdejhgacknfhaa.Vw.known1)) (.s 14 (.call 14 false [] (true) (by with_reducible rfl) ([D.agg [D.v (Value.bool (Lab.text l)), D.v (Value.int IntKind.u32 (↑(Lab.time l) : Int)), D.v (Value.bool (Lab.has l)), D.sl false m 1 (List.map dB (Lab.extra l)), D.v (Value.string (ByteArray.mk (List.toArray (Lab.name l)))), D.v (Value.string (ByteArray.mk (List.toArray (Lab.comment l)))), D.v (Value.bool (Lab.sum l))]]) _ (simL.refl _) (true) (by with_reducible rfl) _ _ _ (CallOk.fn (FnOk.of Try.func14 rfl rfl) (@Go.Proofs.Ytmdejhgacknfhaa.Vw.CheckNo (l) (m) (by omega) (by omega) (by omega) (by omega) (by omega))) (.s 8 (.out [] [] (D.tup [D.v (Value.slice none 0 0), D.v (Value.int IntKind.i64 3)]) [] R (ok _ _ (by with_reducible rfl) (by with_reducible rfl))))))))) (by kernel_rfl)
set_option maxRecDepth 100000 in
set_option maxHeartbeats 4000000 in
theorem hd_2 (l : Lab) (m : Nat) (hm : m = l.extra.length) (hN : m ≤ 600) (hN2 : l.name.length ≤ 600) (hN3 : l.comment.length ≤ 600) (ht : l.time ≤ 4294967295) : SpecH false Try.prog 8 [u8D 2, labD m l] [] (.tup [.ref 0 0 0 2 1, iD 0]) [⟨[120, 156].map dB, 5, false⟩] := by
  refine SpecH.run T_ok mixed Try.func8 rfl rfl rfl ⟨okRL_pl _ (pl_bytes _), trivial⟩ rfl 1000 64 (fun R ok => (.s 6 (.call 21 false [] (true) (by with_reducible rfl) ([D.v (Value.int IntKind.u8 2)]) _ (by exact (And.intro (D.sim.refl _) trivial)) (true) (by with_reducible rfl) _ _ _ (CallOk.fn (FnOk.of Try.func21 rfl rfl) (@Go.Proofs.Ytmdejhgacknfhaa.Vw.known2)) (.s 13 (.out [80] [80] (D.tup [D.ref 0 0 0 2 1, D.v (Value.int IntKind.i64 0)]) [Blk.mk [D.v (Value.int IntKind.u8 120), D.v (Value.int IntKind.u8 156)] 5 false] R (ok _ _ (by with_reducible rfl) (by exact rfl))))))) (by kernel_rfl)
set_option maxRecDepth 100000 in
set_option maxHeartbeats 4000000 in
theorem hd_c (c : Nat) (hc : c ≤ 255) (h : c ≠ 1 ∧ c ≠ 2) (l : Lab) (m : Nat) (hm : m = l.extra.length) (hN : m ≤ 600) (hN2 : l.name.length ≤ 600) (hN3 : l.comment.length ≤ 600) (ht : l.time ≤ 4294967295) : SpecH false Try.prog 8 [u8D c, labD m l] [] (.tup [nilD, iD 160]) [] := by
  have hk2 : knownE c = 160 := (by unfold knownE; rw [if_neg (by omega)])
  refine SpecH.run T_ok mixed Try.func8 rfl rfl rfl trivial rfl 1000 64 (fun R ok => (.s 6 (.call 21 false [] (true) (by with_reducible rfl) ([D.v (Value.int IntKind.u8 (↑c : Int))]) _ (simL.refl _) (true) (by with_reducible rfl) _ _ _ (CallOk.fn (FnOk.of Try.func21 rfl rfl) (@Go.Proofs.Ytmdejhgacknfhaa.Vw.known (c) (by omega))) (.s 4 (.t (knownE c != 0) (by (simp <;> (omega))) (.s 3 (.out [] [] (D.tup [D.v (Value.slice none 0 0), D.v (Value.int IntKind.i64 (knownE c))]) [] R (ok _ _ (by (simp <;> (omega))) (by with_reducible rfl))))))))) (by kernel_rfl)
attribute [local simp] turnB_length turnB_zero
end Vw
end Go.Proofs.Ytmdejhgacknfhaa

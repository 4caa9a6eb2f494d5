/- Vw15s: made by vx.py. -/
import Derived.Test.YtmdejhgacknfhaaQVw4
namespace Go.Proofs.Ytmdejhgacknfhaa
open Go.RowKit Go.Bw Go.Vx Go.Bw.Sums Vs
namespace Vw
set_option linter.unusedVariables false
set_option linter.unusedSimpArgs false
set_option maxRecDepth 100000 in
set_option maxHeartbeats 4000000 in
theorem same_nn (x1 x3 x7 y1 y3 y7 : Bool) (x2 y2 : Nat) (nm cm ny cy : List UInt8) (h1 : x1 = y1) (h2 : x2 = y2) (h3 : x3 = y3) (h5 : nm = ny) (h6 : cm = cy) (h7 : x7 = y7) : SpecH false Try.prog 18 [.agg [bD x1, uD x2, bD x3, nilD, sD nm, sD cm, bD x7], .agg [bD y1, uD y2, bD y3, nilD, sD ny, sD cy, bD y7]] [] (.v (.bool true)) [] := by
  subst h1 h2 h3 h5 h6 h7
  refine SpecH.run T_ok mixed Try.func18 rfl rfl rfl trivial rfl 1000 64 (fun R ok => (.s 21 (.t (x1 == x1) (by (simp; done)) (.s 20 (.t ((↑x2 : Int) == (↑x2 : Int)) (by (refine decide_eq_true ?_; (omega))) (.s 20 (.t (x3 == x3) (by (simp; done)) (.s 47 (.t (ByteArray.toList (ByteArray.mk (List.toArray nm)) == ByteArray.toList (ByteArray.mk (List.toArray nm))) (by (simp; done)) (.s 19 (.t (ByteArray.toList (ByteArray.mk (List.toArray cm)) == ByteArray.toList (ByteArray.mk (List.toArray cm))) (by (simp; done)) (.s 19 (.out [] [] (D.v (Value.bool (x7 == x7))) [] R (ok _ _ (by (simp; done)) (by with_reducible rfl))))))))))))))) (by kernel_rfl)
set_option maxRecDepth 100000 in
set_option maxHeartbeats 4000000 in
theorem same_ss (x1 x3 x7 y1 y3 y7 : Bool) (x2 y2 : Nat) (ex ey nm cm ny cy : List UInt8) (m k : Nat) (hm : m = ex.length) (hk : k = ey.length) (h1 : x1 = y1) (h2 : x2 = y2) (h3 : x3 = y3) (h5 : nm = ny) (h6 : cm = cy) (h7 : x7 = y7) (h4 : ex = ey) : SpecH false Try.prog 18 [.agg [bD x1, uD x2, bD x3, .sl false m 1 (ex.map dB), sD nm, sD cm, bD x7], .agg [bD y1, uD y2, bD y3, .sl false k 1 (ey.map dB), sD ny, sD cy, bD y7]] [] (.v (.bool true)) [] := by
  subst h1 h2 h3 h5 h6 h7
  subst h4
  refine SpecH.run T_ok mixed Try.func18 rfl rfl rfl trivial rfl 1000 64 (fun R ok => (.s 21 (.t (x1 == x1) (by (simp; done)) (.s 20 (.t ((↑x2 : Int) == (↑x2 : Int)) (by (refine decide_eq_true ?_; (omega))) (.s 20 (.t (x3 == x3) (by (simp; done)) (.s 9 (.byt (List.map dB ex) (ex) rfl (.s 11 (.byt (List.map dB ex) (ex) rfl (.s 5 (.t (ByteArray.toList (ByteArray.mk (List.toArray ex)) == ByteArray.toList (ByteArray.mk (List.toArray ex))) (by (simp; done)) (.s 19 (.t (ByteArray.toList (ByteArray.mk (List.toArray nm)) == ByteArray.toList (ByteArray.mk (List.toArray nm))) (by (simp; done)) (.s 19 (.t (ByteArray.toList (ByteArray.mk (List.toArray cm)) == ByteArray.toList (ByteArray.mk (List.toArray cm))) (by (simp; done)) (.s 19 (.out [] [] (D.v (Value.bool (x7 == x7))) [] R (ok _ _ (by (simp; done)) (by with_reducible rfl))))))))))))))))))))) (by kernel_rfl)
set_option maxRecDepth 100000 in
set_option maxHeartbeats 4000000 in
theorem same_ns (x1 x3 x7 y1 y3 y7 : Bool) (x2 y2 : Nat) (ey nm cm ny cy : List UInt8) (k : Nat) (hk : k = ey.length) (h1 : x1 = y1) (h2 : x2 = y2) (h3 : x3 = y3) (h5 : nm = ny) (h6 : cm = cy) (h7 : x7 = y7) (h4 : ey = []) : SpecH false Try.prog 18 [.agg [bD x1, uD x2, bD x3, nilD, sD nm, sD cm, bD x7], .agg [bD y1, uD y2, bD y3, .sl false k 1 (ey.map dB), sD ny, sD cy, bD y7]] [] (.v (.bool true)) [] := by
  subst h1 h2 h3 h5 h6 h7
  refine SpecH.run T_ok mixed Try.func18 rfl rfl rfl trivial rfl 1000 64 (fun R ok => (.s 21 (.t (x1 == x1) (by (simp; done)) (.s 20 (.t ((↑x2 : Int) == (↑x2 : Int)) (by (refine decide_eq_true ?_; (omega))) (.s 20 (.t (x3 == x3) (by (simp; done)) (.s 21 (.byt (List.map dB ey) (ey) rfl (.s 5 (.t (ByteArray.toList (ByteArray.mk #[]) == ByteArray.toList (ByteArray.mk (List.toArray ey))) (by (simp <;> (omega))) (.s 19 (.t (ByteArray.toList (ByteArray.mk (List.toArray nm)) == ByteArray.toList (ByteArray.mk (List.toArray nm))) (by (simp; done)) (.s 19 (.t (ByteArray.toList (ByteArray.mk (List.toArray cm)) == ByteArray.toList (ByteArray.mk (List.toArray cm))) (by (simp; done)) (.s 19 (.out [] [] (D.v (Value.bool (x7 == x7))) [] R (ok _ _ (by (simp; done)) (by with_reducible rfl))))))))))))))))))) (by kernel_rfl)
end Vw
end Go.Proofs.Ytmdejhgacknfhaa

/- Vq1: made by vx.py. -/
import Derived.Test.YtekbfimlmdofbaaTab
namespace Go.Proofs.Ytekbfimlmdofbaa
open Go.RowKit Go.Bw Go.Vx
namespace Vq
def mayB (M : Int) (n : Nat) : Bool := decide (0 ≤ M) && decide (M ≤ 65536) && decide ((n : Int) ≤ M)
theorem mayB_def {M : Int} {n : Nat} : mayB M n = true ↔ 0 ≤ M ∧ M ≤ 65536 ∧ (n : Int) ≤ M := by
  unfold mayB; simp [and_assoc]
theorem mayB_not {M : Int} {n : Nat} (h : mayB M n = false) : ¬ (0 ≤ M ∧ M ≤ 65536 ∧ (n : Int) ≤ M) := fun e => Bool.false_ne_true (h.symm.trans (mayB_def.2 e))
abbrev qD (M : Int) (n : Nat) (cells : List D) : D := .agg [.v (.int .i64 M), .sl false n 1 cells]
abbrev nilD : D := .v (.slice none 0 0)
abbrev iD (i : Int) : D := .v (.int .i64 i)
attribute [local simp] mayB
set_option maxRecDepth 100000 in
set_option maxHeartbeats 4000000 in
theorem may (M : Int) (n : Nat) (cells : List D) : SpecH false Try.prog 25 [qD M n cells] [] (.v (.bool (mayB M n))) [] := by
  refine SpecH.run T_ok mixed Try.func25 rfl rfl rfl trivial 1000 64 (fun R ok => (.s 13 (.br (decide (0 ≤ M))
  (fun p0 => (.s 12 (.br (decide (M ≤ 65536))
    (fun p1 => (.s 21 (.out [] [] (D.v (Value.bool (decide ((↑n : Int) ≤ M)))) [] R (ok _ _ (by (simp <;> (have := of_decide_eq_true p0; have := of_decide_eq_true p1; omega))) (by with_reducible rfl)))))
    (fun p1 => (.s 12 (.out [] [] (D.v (Value.bool false)) [] R (ok _ _ (by (simp <;> (have := of_decide_eq_true p0; have := of_decide_eq_false p1; omega))) (by with_reducible rfl))))))))
  (fun p0 => (.s 20 (.out [] [] (D.v (Value.bool false)) [] R (ok _ _ (by (simp <;> (have := of_decide_eq_false p0; omega))) (by with_reducible rfl)))))))) (by kernel_rfl)
set_option maxRecDepth 100000 in
set_option maxHeartbeats 4000000 in
theorem twin (M : Int) (bs : List UInt8) (hn : bs.length ≤ 100000) : SpecH false Try.prog 14 [qD M bs.length (bs.map dB)] [] (.agg [iD M, .ref 0 0 0 bs.length 1]) [⟨bs.map dB, 5, true⟩] := by
  refine SpecH.run T_ok mixed Try.func14 rfl rfl rfl ⟨pl_bytes _, trivial⟩ 1000 64 (fun R ok => (.s 18 (.chk (true && Nat.ble ((0 + List.length bs) * 1) 140737488355328) (by (simp <;> (omega))) (.s 4 (.out [48] [48] (D.agg [D.v (Value.int IntKind.i64 M), D.ref 0 0 0 (List.length bs) 1]) [Blk.mk (List.map dB bs) 5 true] R (ok _ _ (by with_reducible rfl) (by with_reducible rfl))))))) (by kernel_rfl)
set_option maxRecDepth 100000 in
set_option maxHeartbeats 4000000 in
theorem may_ok (M : Int) (n : Nat) (cells : List D) (hm : 0 ≤ M ∧ M ≤ 65536 ∧ (n : Int) ≤ M) : SpecH false Try.prog 25 [qD M n cells] [] (.v (.bool true)) [] := by
  refine SpecH.run T_ok mixed Try.func25 rfl rfl rfl trivial 1000 64 (fun R ok => (.s 13 (.t (decide (0 ≤ M)) (by (refine decide_eq_true ?_; (omega))) (.s 12 (.t (decide (M ≤ 65536)) (by (refine decide_eq_true ?_; (omega))) (.s 21 (.out [] [] (D.v (Value.bool (decide ((↑n : Int) ≤ M)))) [] R (ok _ _ (by (simp <;> (omega))) (by with_reducible rfl))))))))) (by kernel_rfl)
set_option maxRecDepth 100000 in
set_option maxHeartbeats 4000000 in
theorem may_bad (M : Int) (n : Nat) (cells : List D) (hm : ¬ (0 ≤ M ∧ M ≤ 65536 ∧ (n : Int) ≤ M)) : SpecH false Try.prog 25 [qD M n cells] [] (.v (.bool false)) [] := by
  refine SpecH.run T_ok mixed Try.func25 rfl rfl rfl trivial 1000 64 (fun R ok => (.s 13 (.br (decide (0 ≤ M))
  (fun p0 => (.s 12 (.br (decide (M ≤ 65536))
    (fun p1 => (.s 21 (.out [] [] (D.v (Value.bool (decide ((↑n : Int) ≤ M)))) [] R (ok _ _ (by (simp <;> (have := of_decide_eq_true p0; have := of_decide_eq_true p1; omega))) (by with_reducible rfl)))))
    (fun p1 => (.s 12 (.out [] [] (D.v (Value.bool false)) [] R (ok _ _ (by with_reducible rfl) (by with_reducible rfl))))))))
  (fun p0 => (.s 20 (.out [] [] (D.v (Value.bool false)) [] R (ok _ _ (by with_reducible rfl) (by with_reducible rfl)))))))) (by kernel_rfl)
set_option maxRecDepth 100000 in
set_option maxHeartbeats 4000000 in
theorem asked_ok (M : Int) (n : Nat) (cells : List D) (hm : 0 ≤ M ∧ M ≤ 65536 ∧ (n : Int) ≤ M) : SpecH true Try.prog 26 [qD M n cells] [] (.ifc 56 (qD M n cells)) [] := by
  refine SpecH.run T_ok mixed Try.func26 rfl rfl rfl trivial 1000 64 (fun R ok => (.s 13 (.f (decide (M < 0)) (by (refine decide_eq_false ?_; (omega))) (.s 12 (.f (decide (65536 < M)) (by (refine decide_eq_false ?_; (omega))) (.s 20 (.f (decide (M < (↑n : Int))) (by (refine decide_eq_false ?_; (omega))) (.s 6 (.out [] [] (D.ifc 56 (D.agg [D.v (Value.int IntKind.i64 M), D.sl false n 1 cells])) [] R (ok _ _ (by with_reducible rfl) (by with_reducible rfl))))))))))) (by kernel_rfl)
set_option maxRecDepth 100000 in
set_option maxHeartbeats 4000000 in
theorem asked_bad (M : Int) (n : Nat) (cells : List D) (hm : ¬ (0 ≤ M ∧ M ≤ 65536 ∧ (n : Int) ≤ M)) : SpecH true Try.prog 26 [qD M n cells] [] (.ifc 26 (iD 8)) [] := by
  refine SpecH.run T_ok mixed Try.func26 rfl rfl rfl trivial 1000 64 (fun R ok => (.s 13 (.br (decide (M < 0))
  (fun p0 => (.s 23 (.out [] [] (D.ifc 26 (D.v (Value.int IntKind.i64 8))) [] R (ok _ _ (by with_reducible rfl) (by with_reducible rfl)))))
  (fun p0 => (.s 12 (.br (decide (65536 < M))
    (fun p1 => (.s 15 (.out [] [] (D.ifc 26 (D.v (Value.int IntKind.i64 8))) [] R (ok _ _ (by with_reducible rfl) (by with_reducible rfl)))))
    (fun p1 => (.s 20 (.t (decide (M < (↑n : Int))) (by (refine decide_eq_true ?_; (have := of_decide_eq_false p0; have := of_decide_eq_false p1; omega))) (.s 3 (.out [] [] (D.ifc 26 (D.v (Value.int IntKind.i64 8))) [] R (ok _ _ (by with_reducible rfl) (by with_reducible rfl))))))))))))) (by kernel_rfl)
set_option maxRecDepth 100000 in
set_option maxHeartbeats 4000000 in
theorem of_ok (M : Int) (n : Nat) (cells : List D) (hm : 0 ≤ M ∧ M ≤ 65536 ∧ (n : Int) ≤ M) : SpecH true Try.prog 22 [qD M n cells] [] (.tup [qD M n cells, iD 0]) [] := by
  refine SpecH.run T_ok mixed Try.func22 rfl rfl rfl trivial 1000 64 (fun R ok => (.s 9 (.call 26 true [] (true) (by with_reducible rfl) ([D.agg [D.v (Value.int IntKind.i64 M), D.sl false n 1 cells]]) _ (simL.refl _) (true) (by with_reducible rfl) _ _ _ (@Go.Proofs.Ytekbfimlmdofbaa.Vq.asked_ok (M) (n) (cells) (by omega)) (FnOk.of Try.func26 rfl rfl) (.s 17 (.out [] [] (D.tup [D.agg [D.v (Value.int IntKind.i64 M), D.sl false n 1 cells], D.v (Value.int IntKind.i64 0)]) [] R (ok _ _ (by with_reducible rfl) (by with_reducible rfl))))))) (by kernel_rfl)
set_option maxRecDepth 100000 in
set_option maxHeartbeats 4000000 in
theorem of_bad (M : Int) (n : Nat) (cells : List D) (hm : ¬ (0 ≤ M ∧ M ≤ 65536 ∧ (n : Int) ≤ M)) : SpecH true Try.prog 22 [qD M n cells] [] (.tup [.agg [iD 0, nilD], iD 8]) [] := by
  refine SpecH.run T_ok mixed Try.func22 rfl rfl rfl trivial 1000 64 (fun R ok => (.s 9 (.call 26 true [] (true) (by with_reducible rfl) ([D.agg [D.v (Value.int IntKind.i64 M), D.sl false n 1 cells]]) _ (simL.refl _) (true) (by with_reducible rfl) _ _ _ (@Go.Proofs.Ytekbfimlmdofbaa.Vq.asked_bad (M) (n) (cells) (by omega)) (FnOk.of Try.func26 rfl rfl) (.s 22 (.out [] [] (D.tup [D.agg [D.v (Value.int IntKind.i64 0), D.v (Value.slice none 0 0)], D.v (Value.int IntKind.i64 8)]) [] R (ok _ _ (by with_reducible rfl) (by with_reducible rfl))))))) (by kernel_rfl)
set_option maxRecDepth 100000 in
set_option maxHeartbeats 4000000 in
theorem check_ok (M : Int) (n : Nat) (cells : List D) (hm : 0 ≤ M ∧ M ≤ 65536 ∧ (n : Int) ≤ M) : SpecH false Try.prog 9 [qD M n cells] [] (iD 0) [] := by
  refine SpecH.run T_ok mixed Try.func9 rfl rfl rfl trivial 1000 64 (fun R ok => (.s 7 (.call 22 true [] (true) (by with_reducible rfl) ([D.agg [D.v (Value.int IntKind.i64 M), D.sl false n 1 cells]]) _ (simL.refl _) (true) (by with_reducible rfl) _ _ _ (@Go.Proofs.Ytekbfimlmdofbaa.Vq.of_ok (M) (n) (cells) (by omega)) (FnOk.of Try.func22 rfl rfl) (.s 12 (.out [] [] (D.v (Value.int IntKind.i64 0)) [] R (ok _ _ (by with_reducible rfl) (by with_reducible rfl))))))) (by kernel_rfl)
set_option maxRecDepth 100000 in
set_option maxHeartbeats 4000000 in
theorem check_bad (M : Int) (n : Nat) (cells : List D) (hm : ¬ (0 ≤ M ∧ M ≤ 65536 ∧ (n : Int) ≤ M)) : SpecH false Try.prog 9 [qD M n cells] [] (iD 8) [] := by
  refine SpecH.run T_ok mixed Try.func9 rfl rfl rfl trivial 1000 64 (fun R ok => (.s 7 (.call 22 true [] (true) (by with_reducible rfl) ([D.agg [D.v (Value.int IntKind.i64 M), D.sl false n 1 cells]]) _ (simL.refl _) (true) (by with_reducible rfl) _ _ _ (@Go.Proofs.Ytekbfimlmdofbaa.Vq.of_bad (M) (n) (cells) (by omega)) (FnOk.of Try.func22 rfl rfl) (.s 12 (.out [] [] (D.v (Value.int IntKind.i64 8)) [] R (ok _ _ (by with_reducible rfl) (by with_reducible rfl))))))) (by kernel_rfl)
set_option maxRecDepth 100000 in
set_option maxHeartbeats 4000000 in
theorem room1 (M : Int) (n : Nat) (cells : List D) (hm : 0 ≤ M ∧ M ≤ 65536 ∧ (n : Int) ≤ M) : SpecH false Try.prog 24 [qD M n cells] [] (iD (M - n)) [] := by
  refine SpecH.run T_ok mixed Try.func24 rfl rfl rfl trivial 1000 64 (fun R ok => (.s 18 (.opt (wrapO IntKind.i64 (M - (↑n : Int))) (D.v (Value.int IntKind.i64 (M - (↑n : Int)))) (Go.Vx.wrapO_i64 (by omega)) (.s 1 (.out [] [] (D.v (Value.int IntKind.i64 (M - (↑n : Int)))) [] R (ok _ _ (by with_reducible rfl) (by with_reducible rfl))))))) (by kernel_rfl)
set_option maxRecDepth 100000 in
set_option maxHeartbeats 4000000 in
theorem room0  : SpecH false Try.prog 24 [.agg [iD 0, nilD]] [] (iD 0) [] := by
  refine SpecH.run T_ok mixed Try.func24 rfl rfl rfl trivial 1000 64 (fun R ok => (.s 20 (.out [] [] (D.v (Value.int IntKind.i64 0)) [] R (ok _ _ (by with_reducible rfl) (by with_reducible rfl))))) (by kernel_rfl)
set_option maxRecDepth 100000 in
set_option maxHeartbeats 4000000 in
theorem Room_ok (M : Int) (n : Nat) (cells : List D) (hm : 0 ≤ M ∧ M ≤ 65536 ∧ (n : Int) ≤ M) : SpecH false Try.prog 12 [qD M n cells] [] (.tup [iD (M - n), iD 0]) [] := by
  refine SpecH.run T_ok mixed Try.func12 rfl rfl rfl trivial 1000 64 (fun R ok => (.s 8 (.call 22 true [] (true) (by with_reducible rfl) ([D.agg [D.v (Value.int IntKind.i64 M), D.sl false n 1 cells]]) _ (simL.refl _) (true) (by with_reducible rfl) _ _ _ (@Go.Proofs.Ytekbfimlmdofbaa.Vq.of_ok (M) (n) (cells) (by omega)) (FnOk.of Try.func22 rfl rfl) (.s 14 (.call 24 false [] (true) (by with_reducible rfl) ([D.agg [D.v (Value.int IntKind.i64 M), D.sl false n 1 cells]]) _ (simL.refl _) (true) (by with_reducible rfl) _ _ _ (@Go.Proofs.Ytekbfimlmdofbaa.Vq.room1 (M) (n) (cells) (by omega)) (FnOk.of Try.func24 rfl rfl) (.s 3 (.out [] [] (D.tup [D.v (Value.int IntKind.i64 (M - (↑n : Int))), D.v (Value.int IntKind.i64 0)]) [] R (ok _ _ (by with_reducible rfl) (by with_reducible rfl))))))))) (by kernel_rfl)
set_option maxRecDepth 100000 in
set_option maxHeartbeats 4000000 in
theorem Room_bad (M : Int) (n : Nat) (cells : List D) (hm : ¬ (0 ≤ M ∧ M ≤ 65536 ∧ (n : Int) ≤ M)) : SpecH false Try.prog 12 [qD M n cells] [] (.tup [iD 0, iD 8]) [] := by
  refine SpecH.run T_ok mixed Try.func12 rfl rfl rfl trivial 1000 64 (fun R ok => (.s 8 (.call 22 true [] (true) (by with_reducible rfl) ([D.agg [D.v (Value.int IntKind.i64 M), D.sl false n 1 cells]]) _ (simL.refl _) (true) (by with_reducible rfl) _ _ _ (@Go.Proofs.Ytekbfimlmdofbaa.Vq.of_bad (M) (n) (cells) (by omega)) (FnOk.of Try.func22 rfl rfl) (.s 14 (.call 24 false [] (true) (by with_reducible rfl) ([D.agg [D.v (Value.int IntKind.i64 0), D.v (Value.slice none 0 0)]]) _ (simL.refl _) (true) (by with_reducible rfl) _ _ _ (@Go.Proofs.Ytekbfimlmdofbaa.Vq.room0) (FnOk.of Try.func24 rfl rfl) (.s 3 (.out [] [] (D.tup [D.v (Value.int IntKind.i64 0), D.v (Value.int IntKind.i64 8)]) [] R (ok _ _ (by with_reducible rfl) (by with_reducible rfl))))))))) (by kernel_rfl)
set_option maxRecDepth 100000 in
set_option maxHeartbeats 4000000 in
theorem new_ok (n : Int) (h : 0 ≤ n ∧ n ≤ 65536) : SpecH false Try.prog 13 [iD n] [] (.tup [.agg [iD n, nilD], iD 0]) [] := by
  refine SpecH.run T_ok mixed Try.func13 rfl rfl rfl trivial 1000 64 (fun R ok => (.s 8 (.f (decide (n < 0)) (by (refine decide_eq_false ?_; (omega))) (.s 4 (.f (decide (65536 < n)) (by (refine decide_eq_false ?_; (omega))) (.s 6 (.out [] [] (D.tup [D.agg [D.v (Value.int IntKind.i64 n), D.v (Value.slice none 0 0)], D.v (Value.int IntKind.i64 0)]) [] R (ok _ _ (by with_reducible rfl) (by with_reducible rfl))))))))) (by kernel_rfl)
set_option maxRecDepth 100000 in
set_option maxHeartbeats 4000000 in
theorem new_bad (n : Int) (h : ¬ (0 ≤ n ∧ n ≤ 65536)) : SpecH false Try.prog 13 [iD n] [] (.tup [.agg [iD 0, nilD], iD 2]) [] := by
  refine SpecH.run T_ok mixed Try.func13 rfl rfl rfl trivial 1000 64 (fun R ok => (.s 8 (.br (decide (n < 0))
  (fun p0 => (.s 9 (.out [] [] (D.tup [D.agg [D.v (Value.int IntKind.i64 0), D.v (Value.slice none 0 0)], D.v (Value.int IntKind.i64 2)]) [] R (ok _ _ (by with_reducible rfl) (by with_reducible rfl)))))
  (fun p0 => (.s 4 (.t (decide (65536 < n)) (by (refine decide_eq_true ?_; (have := of_decide_eq_false p0; omega))) (.s 5 (.out [] [] (D.tup [D.agg [D.v (Value.int IntKind.i64 0), D.v (Value.slice none 0 0)], D.v (Value.int IntKind.i64 2)]) [] R (ok _ _ (by with_reducible rfl) (by with_reducible rfl)))))))))) (by kernel_rfl)
set_option maxRecDepth 100000 in
set_option maxHeartbeats 4000000 in
theorem clone_nil  : SpecH false Try.prog 23 [nilD] [] nilD [] := by
  refine SpecH.run T_ok mixed Try.func23 rfl rfl rfl trivial 1000 64 (fun R ok => (.s 6 (.out [] [] (D.v (Value.slice none 0 0)) [] R (ok _ _ (by with_reducible rfl) (by with_reducible rfl))))) (by kernel_rfl)
set_option maxRecDepth 100000 in
set_option maxHeartbeats 4000000 in
theorem clone_nn (bs : List UInt8) (hn : bs.length ≤ 100000) : SpecH false Try.prog 23 [.sl true bs.length 1 (bs.map dB)] [] (.ref 0 0 0 bs.length 1) [⟨bs.map dB, 5, true⟩] := by
  refine SpecH.run T_ok mixed Try.func23 rfl rfl rfl ⟨pl_bytes _, trivial⟩ 1000 64 (fun R ok => (.s 9 (.chk (true && Nat.ble ((0 + List.length bs) * 1) 140737488355328) (by (simp <;> (omega))) (.s 1 (.out [40] [40] (D.ref 0 0 0 (0 + List.length bs) 1) [Blk.mk ([] ++ List.map dB bs) 5 true] R (ok _ _ (by (simp; done)) (by (simp; done)))))))) (by kernel_rfl)
theorem clone_spec (bs : List UInt8) (hn : bs.length ≤ 100000) : SpecH false Try.prog 23 [.sl false bs.length 1 (bs.map dB)] [] (.ref 0 0 0 bs.length 1) [⟨bs.map dB, 5, true⟩] :=
  Spec.nilSplit clone_nil (clone_nn bs hn) id
theorem clone_at (n : Nat) (bs : List UInt8) (h1 : n = bs.length) (hn : bs.length ≤ 100000) : SpecH false Try.prog 23 [.sl false n 1 (bs.map dB)] [] (.ref 0 0 0 n 1) [⟨bs.map dB, 5, true⟩] := by
  subst h1; exact clone_spec bs hn
def putN (M : Int) (q b : List UInt8) : Nat := min b.length (M.toNat - q.length)
def takeN (q : List UInt8) (n : Int) : Nat := min n.toNat q.length
set_option maxRecDepth 100000 in
set_option maxHeartbeats 4000000 in
theorem put_bad (M : Int) (q b : List UInt8) (hm : ¬ (0 ≤ M ∧ M ≤ 65536 ∧ (q.length : Int) ≤ M)) : SpecH false Try.prog 10 [qD M q.length (q.map dB), .sl false b.length 1 (b.map dB)] [] (.tup [.agg [iD 0, nilD], iD 0, iD 8]) [] := by
  refine SpecH.run T_ok mixed Try.func10 rfl rfl rfl trivial 1000 64 (fun R ok => (.s 10 (.call 22 true [] (true) (by with_reducible rfl) ([D.agg [D.v (Value.int IntKind.i64 M), D.sl false (List.length q) 1 (List.map dB q)]]) _ (simL.refl _) (true) (by with_reducible rfl) _ _ _ (@Go.Proofs.Ytekbfimlmdofbaa.Vq.of_bad (M) (List.length q) (List.map dB q) (by omega)) (FnOk.of Try.func22 rfl rfl) (.s 22 (.out [] [] (D.tup [D.agg [D.v (Value.int IntKind.i64 0), D.v (Value.slice none 0 0)], D.v (Value.int IntKind.i64 0), D.v (Value.int IntKind.i64 8)]) [] R (ok _ _ (by with_reducible rfl) (by with_reducible rfl))))))) (by kernel_rfl)
set_option maxRecDepth 100000 in
set_option maxHeartbeats 4000000 in
theorem put_ok (M : Int) (q b : List UInt8) (hm : 0 ≤ M ∧ M ≤ 65536 ∧ (q.length : Int) ≤ M) (hb : b.length ≤ 100000) : SpecH false Try.prog 10 [qD M q.length (q.map dB), .sl false b.length 1 (b.map dB)] [] (.tup [.agg [iD M, .ref 0 0 0 (q.length + putN M q b) 1], iD (putN M q b), iD 0]) [⟨(q ++ b.take (putN M q b)).map dB, 5, true⟩] := by
  have e1 : minO .i64 false (b.length : Int) (M - (q.length : Int)) = some (iD (putN M q b)) := minO_is (by unfold putN; omega)
  have hp : putN M q b ≤ b.length := Nat.min_le_left _ _
  have hp2 : (putN M q b : Int) ≤ M - q.length := by unfold putN; omega
  refine SpecH.run T_ok mixed Try.func10 rfl rfl rfl ⟨pl_bytes _, trivial⟩ 1000 64 (fun R ok => (.s 10 (.call 22 true [] (true) (by with_reducible rfl) ([D.agg [D.v (Value.int IntKind.i64 M), D.sl false (List.length q) 1 (List.map dB q)]]) _ (simL.refl _) (true) (by with_reducible rfl) _ _ _ (@Go.Proofs.Ytekbfimlmdofbaa.Vq.of_ok (M) (List.length q) (List.map dB q) (by omega)) (FnOk.of Try.func22 rfl rfl) (.s 20 (.call 24 false [] (true) (by with_reducible rfl) ([D.agg [D.v (Value.int IntKind.i64 M), D.sl false (List.length q) 1 (List.map dB q)]]) _ (simL.refl _) (true) (by with_reducible rfl) _ _ _ (@Go.Proofs.Ytekbfimlmdofbaa.Vq.room1 (M) (List.length q) (List.map dB q) (by omega)) (FnOk.of Try.func24 rfl rfl) (.s 1 (.opt (minO IntKind.i64 false (↑(List.length b) : Int) (M - (↑(List.length q) : Int))) (iD (↑(putN M q b) : Int)) e1 (.s 9 (.call 23 false [] (true) (by with_reducible rfl) ([D.sl false (List.length q) 1 (List.map dB q)]) _ (simL.refl _) (true) (by with_reducible rfl) _ _ _ (@Go.Proofs.Ytekbfimlmdofbaa.Vq.clone_spec (q) (by omega)) (FnOk.of Try.func23 rfl rfl) (.s 3 (.chk (bndOk none (some (↑(putN M q b) : Int)) none (List.length b) && true) (by (simp <;> (omega))) (.s 1 (.chk (true && Nat.beq (List.length q * 1) (List.length (List.map dB q)) && true && true && true && true && Nat.ble ((List.length q + putN M q b) * 1) 140737488355328) (by (simp <;> (omega))) (.s 13 (.out [208] [208] (D.tup [D.agg [D.v (Value.int IntKind.i64 M), D.ref 0 0 0 (List.length q + putN M q b) 1], D.v (Value.int IntKind.i64 (↑(putN M q b) : Int)), D.v (Value.int IntKind.i64 0)]) [Blk.mk (List.map dB q ++ List.take (putN M q b * 1) (List.map dB b)) 5 true] R (ok _ _ (by with_reducible rfl) (by (simp; done)))))))))))))))))) (by kernel_rfl)
set_option maxRecDepth 100000 in
set_option maxHeartbeats 4000000 in
theorem take_bad (M : Int) (q : List UInt8) (n : Int) (hm : ¬ (0 ≤ M ∧ M ≤ 65536 ∧ (q.length : Int) ≤ M)) : SpecH false Try.prog 8 [qD M q.length (q.map dB), iD n] [] (.tup [.agg [iD 0, nilD], nilD, iD 8]) [] := by
  refine SpecH.run T_ok mixed Try.func8 rfl rfl rfl trivial 1000 64 (fun R ok => (.s 10 (.call 22 true [] (true) (by with_reducible rfl) ([D.agg [D.v (Value.int IntKind.i64 M), D.sl false (List.length q) 1 (List.map dB q)]]) _ (simL.refl _) (true) (by with_reducible rfl) _ _ _ (@Go.Proofs.Ytekbfimlmdofbaa.Vq.of_bad (M) (List.length q) (List.map dB q) (by omega)) (FnOk.of Try.func22 rfl rfl) (.s 31 (.out [] [] (D.tup [D.agg [D.v (Value.int IntKind.i64 0), D.v (Value.slice none 0 0)], D.v (Value.slice none 0 0), D.v (Value.int IntKind.i64 8)]) [] R (ok _ _ (by with_reducible rfl) (by with_reducible rfl))))))) (by kernel_rfl)
set_option maxRecDepth 100000 in
set_option maxHeartbeats 4000000 in
theorem take_neg (M : Int) (q : List UInt8) (n : Int) (hm : 0 ≤ M ∧ M ≤ 65536 ∧ (q.length : Int) ≤ M) (hn : n < 0) : SpecH false Try.prog 8 [qD M q.length (q.map dB), iD n] [] (.tup [.agg [iD 0, nilD], nilD, iD 2]) [] := by
  refine SpecH.run T_ok mixed Try.func8 rfl rfl rfl trivial 1000 64 (fun R ok => (.s 10 (.call 22 true [] (true) (by with_reducible rfl) ([D.agg [D.v (Value.int IntKind.i64 M), D.sl false (List.length q) 1 (List.map dB q)]]) _ (simL.refl _) (true) (by with_reducible rfl) _ _ _ (@Go.Proofs.Ytekbfimlmdofbaa.Vq.of_ok (M) (List.length q) (List.map dB q) (by omega)) (FnOk.of Try.func22 rfl rfl) (.s 20 (.t (decide (n < 0)) (by (refine decide_eq_true ?_; (omega))) (.s 12 (.out [] [] (D.tup [D.agg [D.v (Value.int IntKind.i64 0), D.v (Value.slice none 0 0)], D.v (Value.slice none 0 0), D.v (Value.int IntKind.i64 2)]) [] R (ok _ _ (by with_reducible rfl) (by with_reducible rfl))))))))) (by kernel_rfl)
set_option maxRecDepth 100000 in
set_option maxHeartbeats 4000000 in
theorem take_ok (M : Int) (q : List UInt8) (n : Int) (hm : 0 ≤ M ∧ M ≤ 65536 ∧ (q.length : Int) ≤ M) (hn : 0 ≤ n) : SpecH false Try.prog 8 [qD M q.length (q.map dB), iD n] [] (.tup [.agg [iD M, .ref 0 0 0 (q.drop (takeN q n)).length 1], .ref 1 1 0 (q.take (takeN q n)).length 1, iD 0]) [⟨(q.drop (takeN q n)).map dB, 5, true⟩, ⟨(q.take (takeN q n)).map dB, 5, true⟩] := by
  have e1 : minO .i64 false n (q.length : Int) = some (iD (takeN q n)) := minO_is (by unfold takeN; omega)
  have hp : takeN q n ≤ q.length := Nat.min_le_right _ _
  have ht : (q.take (takeN q n)).length = takeN q n := by rw [List.length_take]; omega
  have hd : (q.drop (takeN q n)).length = q.length - takeN q n := List.length_drop
  refine SpecH.run T_ok mixed Try.func8 rfl rfl rfl ⟨pl_bytes _, pl_bytes _, trivial⟩ 1000 64 (fun R ok => (.s 10 (.call 22 true [] (true) (by with_reducible rfl) ([D.agg [D.v (Value.int IntKind.i64 M), D.sl false (List.length q) 1 (List.map dB q)]]) _ (simL.refl _) (true) (by with_reducible rfl) _ _ _ (@Go.Proofs.Ytekbfimlmdofbaa.Vq.of_ok (M) (List.length q) (List.map dB q) (by omega)) (FnOk.of Try.func22 rfl rfl) (.s 20 (.f (decide (n < 0)) (by (refine decide_eq_false ?_; (omega))) (.s 13 (.opt (minO IntKind.i64 false n (↑(List.length q) : Int)) (iD (↑(takeN q n) : Int)) e1 (.s 9 (.chk (bndOk none (some (↑(takeN q n) : Int)) none (List.length q) && true) (by (simp <;> (omega))) (.s 1 (.call 23 false [] (true) (by with_reducible rfl) ([D.sl false (takeN q n) 1 (List.take (takeN q n * 1) (List.map dB q))]) _ (by exact (And.intro (D.sim.slw rfl (by (simp; done))) trivial)) (true) (by with_reducible rfl) _ _ _ (@Go.Proofs.Ytekbfimlmdofbaa.Vq.clone_at (takeN q n) (List.take (takeN q n) q) (by omega) (by omega)) (FnOk.of Try.func23 rfl rfl) (.s 9 (.chk (bndOk (some (↑(takeN q n) : Int)) none none (List.length q) && true) (by (simp <;> (omega))) (.s 1 (.call 23 false [] (true) (by with_reducible rfl) ([D.sl false (List.length q - takeN q n) 1 (List.drop (takeN q n * 1) (List.map dB q))]) _ (by exact (And.intro (D.sim.slw rfl (by (simp; done))) trivial)) (true) (by with_reducible rfl) _ _ _ (@Go.Proofs.Ytekbfimlmdofbaa.Vq.clone_at (List.length q - takeN q n) (List.drop (takeN q n) q) (by omega) (by omega)) (FnOk.of Try.func23 rfl rfl) (.s 13 (.out [288, 240] [288, 240] (D.tup [D.agg [D.v (Value.int IntKind.i64 M), D.ref 0 0 0 (List.length q - takeN q n) 1], D.ref 1 1 0 (takeN q n) 1, D.v (Value.int IntKind.i64 0)]) [Blk.mk (List.map dB (List.drop (takeN q n) q)) 5 true, Blk.mk (List.map dB (List.take (takeN q n) q)) 5 true] R (ok _ _ (by (simp <;> (omega))) (by with_reducible rfl))))))))))))))))))) (by kernel_rfl)
end Vq
end Go.Proofs.Ytekbfimlmdofbaa

/- Vp14: made by vx.py. -/
import Derived.Test.YtegjeagfcfhbeaaQVp13
namespace Go.Proofs.Ytegjeagfcfhbeaa
open Go.RowKit Go.Bw Go.Vx
namespace Vp
set_option linter.unusedVariables false
set_option linter.unusedSimpArgs false
/-- Where bytes are read from. -/
abbrev s0 (p : Nat) : Rs := ⟨p, 0⟩
/-- All that is told from a place on. -/
def allR (b : List UInt8) (most : Int) (p : Nat) : Rs × List UInt8 := tlR b most none (s0 p) []
/-- What Inflate answers: the bytes, the place, the error. -/
def infR (b : List UInt8) (at' most : Int) : List UInt8 × Nat × Nat :=
  if at' < 0 ∨ 8 * (b.length : Int) < at' then ([], 0, 2) else if most < 0 ∨ 131072 < most then ([], 0, 2)
  else if (allR b most at'.toNat).1.e ≠ 0 then ([], 0, (allR b most at'.toNat).1.e) else ((allR b most at'.toNat).2, (allR b most at'.toNat).1.p, 0)
def pfxR (b : List UInt8) (most : Int) : List UInt8 × Nat :=
  if most < 0 ∨ 131072 < most then ([], 2)
  else if (allR b most 0).1.e ≠ 0 ∧ (allR b most 0).1.e ≠ 10 then ([], (allR b most 0).1.e) else ((allR b most 0).2, 0)
section
variable {b : List UInt8} {x most : Int}
theorem inf_1 (h : x < 0 ∨ 8 * (b.length : Int) < x) : infR b x most = ([], 0, 2) := if_pos h
theorem inf_2 (h : ¬ (x < 0 ∨ 8 * (b.length : Int) < x)) (h2 : most < 0 ∨ 131072 < most) : infR b x most = ([], 0, 2) := (if_neg h).trans (if_pos h2)
theorem inf_3 (h : ¬ (x < 0 ∨ 8 * (b.length : Int) < x)) (h2 : ¬ (most < 0 ∨ 131072 < most)) (h3 : (allR b most x.toNat).1.e ≠ 0) : infR b x most = ([], 0, (allR b most x.toNat).1.e) := (if_neg h).trans ((if_neg h2).trans (if_pos h3))
theorem inf_4 (h : ¬ (x < 0 ∨ 8 * (b.length : Int) < x)) (h2 : ¬ (most < 0 ∨ 131072 < most)) (h3 : ¬ (allR b most x.toNat).1.e ≠ 0) : infR b x most = ((allR b most x.toNat).2, (allR b most x.toNat).1.p, 0) := (if_neg h).trans ((if_neg h2).trans (if_neg h3))
theorem pfx_1 (h : most < 0 ∨ 131072 < most) : pfxR b most = ([], 2) := if_pos h
theorem pfx_2 (h : ¬ (most < 0 ∨ 131072 < most)) (h2 : (allR b most 0).1.e ≠ 0 ∧ (allR b most 0).1.e ≠ 10) : pfxR b most = ([], (allR b most 0).1.e) := (if_neg h).trans (if_pos h2)
theorem pfx_3 (h : ¬ (most < 0 ∨ 131072 < most)) (h2 : ¬ ((allR b most 0).1.e ≠ 0 ∧ (allR b most 0).1.e ≠ 10)) : pfxR b most = ((allR b most 0).2, 0) := (if_neg h).trans (if_neg h2)
end
theorem tell_p (b : List UInt8) (n : Nat) (hn : n = b.length) (hN : n ≤ 131072) (p : Nat) (hp : p ≤ 8 * n) (pi : Int) (hpi : pi = p) (most : Int) (hm : 0 ≤ most ∧ most ≤ 1000000) (R : Rs × List UInt8) (hR : allR b most p = R) : SpecH true Try.prog 38 [.ptr 0 0 0, iD most] [⟨[.sl false n 1 (b.map dB), iD pi, iD 0], 70, false⟩] (.ref 1 1 0 R.2.length 1) [⟨[.sl false n 1 (b.map dB), nD R.1.p, nD R.1.e], 70, false⟩, ⟨R.2.map dB, 5, true⟩] := by
  subst hpi hR
  exact tell_t b n hn (by omega) (s0 p) (fun _ => hp) rfl most hm
set_option maxRecDepth 100000 in
set_option maxHeartbeats 4000000 in
theorem inf_b (b : List UInt8) (n : Nat) (hn : n = b.length) (hN : n ≤ 131072) (x most : Int) (h : (x < 0 ∨ 8 * (n : Int) < x) ∨ most < 0 ∨ 131072 < most) : SpecH false Try.prog 18 [.sl false n 1 (b.map dB), iD x, iD most] [] (.tup [nilD, iD 0, iD 2]) [] := by
  refine SpecH.run T_ok mixed Try.func18 rfl rfl rfl trivial rfl 1000 64 (fun R ok => (.s 13 (.f (decide (131072 < (↑n : Int))) (by (refine decide_eq_false ?_; (omega))) (.s 5 (.br (decide (x < 0))
  (fun p0 => have p0f := of_decide_eq_true p0; (.s 43 (.out [] [] (D.tup [D.v (Value.slice none 0 0), D.v (Value.int IntKind.i64 0), D.v (Value.int IntKind.i64 2)]) [] R (ok _ _ (by with_reducible rfl) (by with_reducible rfl)))))
  (fun p0 => have p0f := of_decide_eq_false p0; (.s 7 (.opt (wrapO IntKind.i64 (8 * (↑n : Int))) (D.v (Value.int IntKind.i64 (8 * (↑n : Int)))) (Go.Vx.wrapO_i64 (by omega)) (.s 4 (.br (decide (8 * (↑n : Int) < x))
    (fun p1 => have p1f := of_decide_eq_true p1; (.s 33 (.out [] [] (D.tup [D.v (Value.slice none 0 0), D.v (Value.int IntKind.i64 0), D.v (Value.int IntKind.i64 2)]) [] R (ok _ _ (by with_reducible rfl) (by with_reducible rfl)))))
    (fun p1 => have p1f := of_decide_eq_false p1; (.s 27 (.br (decide (most < 0))
      (fun p2 => have p2f := of_decide_eq_true p2; (.s 15 (.out [] [] (D.tup [D.v (Value.slice none 0 0), D.v (Value.int IntKind.i64 0), D.v (Value.int IntKind.i64 2)]) [] R (ok _ _ (by with_reducible rfl) (by with_reducible rfl)))))
      (fun p2 => have p2f := of_decide_eq_false p2; (.s 6 (.t (decide (131072 < most)) (by (refine decide_eq_true ?_; (omega))) (.s 9 (.out [] [] (D.tup [D.v (Value.slice none 0 0), D.v (Value.int IntKind.i64 0), D.v (Value.int IntKind.i64 2)]) [] R (ok _ _ (by with_reducible rfl) (by with_reducible rfl)))))))))))))))))))) (by kernel_rfl)
set_option maxRecDepth 100000 in
set_option maxHeartbeats 4000000 in
theorem inf_e (b : List UInt8) (n : Nat) (hn : n = b.length) (hN : n ≤ 131072) (x most : Int) (h1 : 0 ≤ x ∧ x ≤ 8 * (n : Int)) (h2 : 0 ≤ most ∧ most ≤ 131072) (tr : Rs × List UInt8) (hR : allR b most x.toNat = tr) (h : tr.1.e ≠ 0) : SpecH false Try.prog 18 [.sl false n 1 (b.map dB), iD x, iD most] [] (.tup [nilD, iD 0, nD tr.1.e]) [] := by
  refine SpecH.run T_ok mixed Try.func18 rfl rfl rfl trivial rfl 1000 64 (fun R ok => (.s 13 (.f (decide (131072 < (↑n : Int))) (by (refine decide_eq_false ?_; (omega))) (.s 5 (.f (decide (x < 0)) (by (refine decide_eq_false ?_; (omega))) (.s 7 (.opt (wrapO IntKind.i64 (8 * (↑n : Int))) (D.v (Value.int IntKind.i64 (8 * (↑n : Int)))) (Go.Vx.wrapO_i64 (by omega)) (.s 4 (.f (decide (8 * (↑n : Int) < x)) (by (refine decide_eq_false ?_; (omega))) (.s 27 (.f (decide (most < 0)) (by (refine decide_eq_false ?_; (omega))) (.s 6 (.f (decide (131072 < most)) (by (refine decide_eq_false ?_; (omega))) (.s 7 (.call 38 true [184] (true) (by with_reducible rfl) ([D.ptr 0 0 0, D.v (Value.int IntKind.i64 most)]) _ (simL.refl _) (true) (by with_reducible rfl) _ _ _ (CallOk.fn (FnOk.of Try.func38 rfl rfl) (@Go.Proofs.Ytegjeagfcfhbeaa.Vp.tell_p (b) (n) (by omega) (by omega) (Int.toNat x) (by omega) (x) (by omega) (most) (by omega) (tr) (by assumption))) (.s 11 (.t ((↑(Rs.e (Prod.fst tr)) : Int) != 0) (by (simp <;> (omega))) (.s 12 (.out [] [] (D.tup [D.v (Value.slice none 0 0), D.v (Value.int IntKind.i64 0), D.v (Value.int IntKind.i64 (↑(Rs.e (Prod.fst tr)) : Int))]) [] R (ok _ _ (by with_reducible rfl) (by with_reducible rfl))))))))))))))))))))) (by kernel_rfl)
set_option maxRecDepth 100000 in
set_option maxHeartbeats 4000000 in
theorem inf_o (b : List UInt8) (n : Nat) (hn : n = b.length) (hN : n ≤ 131072) (x most : Int) (h1 : 0 ≤ x ∧ x ≤ 8 * (n : Int)) (h2 : 0 ≤ most ∧ most ≤ 131072) (tr : Rs × List UInt8) (hR : allR b most x.toNat = tr) (h : tr.1.e = 0) : SpecH false Try.prog 18 [.sl false n 1 (b.map dB), iD x, iD most] [] (.tup [.ref 0 0 0 tr.2.length 1, nD tr.1.p, iD 0]) [⟨(tr.2).map dB, 5, true⟩] := by
  refine SpecH.run T_ok mixed Try.func18 rfl rfl rfl ⟨pl_bytes _, trivial⟩ rfl 1000 64 (fun R ok => (.s 13 (.f (decide (131072 < (↑n : Int))) (by (refine decide_eq_false ?_; (omega))) (.s 5 (.f (decide (x < 0)) (by (refine decide_eq_false ?_; (omega))) (.s 7 (.opt (wrapO IntKind.i64 (8 * (↑n : Int))) (D.v (Value.int IntKind.i64 (8 * (↑n : Int)))) (Go.Vx.wrapO_i64 (by omega)) (.s 4 (.f (decide (8 * (↑n : Int) < x)) (by (refine decide_eq_false ?_; (omega))) (.s 27 (.f (decide (most < 0)) (by (refine decide_eq_false ?_; (omega))) (.s 6 (.f (decide (131072 < most)) (by (refine decide_eq_false ?_; (omega))) (.s 7 (.call 38 true [184] (true) (by with_reducible rfl) ([D.ptr 0 0 0, D.v (Value.int IntKind.i64 most)]) _ (simL.refl _) (true) (by with_reducible rfl) _ _ _ (CallOk.fn (FnOk.of Try.func38 rfl rfl) (@Go.Proofs.Ytegjeagfcfhbeaa.Vp.tell_p (b) (n) (by omega) (by omega) (Int.toNat x) (by omega) (x) (by omega) (most) (by omega) (tr) (by assumption))) (.s 11 (.f ((↑(Rs.e (Prod.fst tr)) : Int) != 0) (by (simp <;> (omega))) (.s 13 (.out [384] [384] (D.tup [D.ref 0 0 0 (List.length (Prod.snd tr)) 1, D.v (Value.int IntKind.i64 (↑(Rs.p (Prod.fst tr)) : Int)), D.v (Value.int IntKind.i64 0)]) [Blk.mk (List.map dB (Prod.snd tr)) 5 true] R (ok _ _ (by with_reducible rfl) (by with_reducible rfl))))))))))))))))))))) (by kernel_rfl)
set_option maxRecDepth 100000 in
set_option maxHeartbeats 4000000 in
theorem pfx_b (b : List UInt8) (n : Nat) (hn : n = b.length) (hN : n ≤ 131072) (most : Int) (h : most < 0 ∨ 131072 < most) : SpecH false Try.prog 20 [.sl false n 1 (b.map dB), iD most] [] (.tup [nilD, iD 2]) [] := by
  refine SpecH.run T_ok mixed Try.func20 rfl rfl rfl trivial rfl 1000 64 (fun R ok => (.s 11 (.f (decide (131072 < (↑n : Int))) (by (refine decide_eq_false ?_; (omega))) (.s 13 (.opt (wrapO IntKind.i64 (8 * (↑n : Int))) (D.v (Value.int IntKind.i64 (8 * (↑n : Int)))) (Go.Vx.wrapO_i64 (by omega)) (.s 32 (.br (decide (most < 0))
  (fun p0 => have p0f := of_decide_eq_true p0; (.s 14 (.out [] [] (D.tup [D.v (Value.slice none 0 0), D.v (Value.int IntKind.i64 2)]) [] R (ok _ _ (by with_reducible rfl) (by with_reducible rfl)))))
  (fun p0 => have p0f := of_decide_eq_false p0; (.s 6 (.t (decide (131072 < most)) (by (refine decide_eq_true ?_; (omega))) (.s 8 (.out [] [] (D.tup [D.v (Value.slice none 0 0), D.v (Value.int IntKind.i64 2)]) [] R (ok _ _ (by with_reducible rfl) (by with_reducible rfl)))))))))))))) (by kernel_rfl)
set_option maxRecDepth 100000 in
set_option maxHeartbeats 4000000 in
theorem pfx_e (b : List UInt8) (n : Nat) (hn : n = b.length) (hN : n ≤ 131072) (most : Int) (h2 : 0 ≤ most ∧ most ≤ 131072) (tr : Rs × List UInt8) (hR : allR b most 0 = tr) (h : tr.1.e ≠ 0 ∧ tr.1.e ≠ 10) : SpecH false Try.prog 20 [.sl false n 1 (b.map dB), iD most] [] (.tup [nilD, nD tr.1.e]) [] := by
  refine SpecH.run T_ok mixed Try.func20 rfl rfl rfl trivial rfl 1000 64 (fun R ok => (.s 11 (.f (decide (131072 < (↑n : Int))) (by (refine decide_eq_false ?_; (omega))) (.s 13 (.opt (wrapO IntKind.i64 (8 * (↑n : Int))) (D.v (Value.int IntKind.i64 (8 * (↑n : Int)))) (Go.Vx.wrapO_i64 (by omega)) (.s 32 (.f (decide (most < 0)) (by (refine decide_eq_false ?_; (omega))) (.s 6 (.f (decide (131072 < most)) (by (refine decide_eq_false ?_; (omega))) (.s 7 (.call 38 true [168] (true) (by with_reducible rfl) ([D.ptr 0 0 0, D.v (Value.int IntKind.i64 most)]) _ (simL.refl _) (true) (by with_reducible rfl) _ _ _ (CallOk.fn (FnOk.of Try.func38 rfl rfl) (@Go.Proofs.Ytegjeagfcfhbeaa.Vp.tell_p (b) (n) (by omega) (by omega) (0) (by omega) (0) (by omega) (most) (by omega) (tr) (by assumption))) (.s 13 (.t ((↑(Rs.e (Prod.fst tr)) : Int) != 0) (by (simp <;> (omega))) (.s 14 (.t ((↑(Rs.e (Prod.fst tr)) : Int) != 10) (by (simp <;> (omega))) (.s 11 (.out [] [] (D.tup [D.v (Value.slice none 0 0), D.v (Value.int IntKind.i64 (↑(Rs.e (Prod.fst tr)) : Int))]) [] R (ok _ _ (by with_reducible rfl) (by with_reducible rfl))))))))))))))))))) (by kernel_rfl)
set_option maxRecDepth 100000 in
set_option maxHeartbeats 4000000 in
theorem pfx_o (b : List UInt8) (n : Nat) (hn : n = b.length) (hN : n ≤ 131072) (most : Int) (h2 : 0 ≤ most ∧ most ≤ 131072) (tr : Rs × List UInt8) (hR : allR b most 0 = tr) (h : ¬ (tr.1.e ≠ 0 ∧ tr.1.e ≠ 10)) : SpecH false Try.prog 20 [.sl false n 1 (b.map dB), iD most] [] (.tup [.ref 0 0 0 tr.2.length 1, iD 0]) [⟨(tr.2).map dB, 5, true⟩] := by
  refine SpecH.run T_ok mixed Try.func20 rfl rfl rfl ⟨pl_bytes _, trivial⟩ rfl 1000 64 (fun R ok => (.s 11 (.f (decide (131072 < (↑n : Int))) (by (refine decide_eq_false ?_; (omega))) (.s 13 (.opt (wrapO IntKind.i64 (8 * (↑n : Int))) (D.v (Value.int IntKind.i64 (8 * (↑n : Int)))) (Go.Vx.wrapO_i64 (by omega)) (.s 32 (.f (decide (most < 0)) (by (refine decide_eq_false ?_; (omega))) (.s 6 (.f (decide (131072 < most)) (by (refine decide_eq_false ?_; (omega))) (.s 7 (.call 38 true [168] (true) (by with_reducible rfl) ([D.ptr 0 0 0, D.v (Value.int IntKind.i64 most)]) _ (simL.refl _) (true) (by with_reducible rfl) _ _ _ (CallOk.fn (FnOk.of Try.func38 rfl rfl) (@Go.Proofs.Ytegjeagfcfhbeaa.Vp.tell_p (b) (n) (by omega) (by omega) (0) (by omega) (0) (by omega) (most) (by omega) (tr) (by assumption))) (.s 13 (.br ((↑(Rs.e (Prod.fst tr)) : Int) != 0)
  (fun p0 => have p0f := of_bne_t p0; (.s 14 (.f ((↑(Rs.e (Prod.fst tr)) : Int) != 10) (by (simp <;> (omega))) (.s 3 (.out [360] [360] (D.tup [D.ref 0 0 0 (List.length (Prod.snd tr)) 1, D.v (Value.int IntKind.i64 0)]) [Blk.mk (List.map dB (Prod.snd tr)) 5 true] R (ok _ _ (by with_reducible rfl) (by with_reducible rfl)))))))
  (fun p0 => have p0f := of_bne_f p0; (.s 13 (.out [360] [360] (D.tup [D.ref 0 0 0 (List.length (Prod.snd tr)) 1, D.v (Value.int IntKind.i64 0)]) [Blk.mk (List.map dB (Prod.snd tr)) 5 true] R (ok _ _ (by with_reducible rfl) (by with_reducible rfl)))))))))))))))))) (by kernel_rfl)
theorem Inf_t (b : List UInt8) (n : Nat) (hn : n = b.length) (hN : n ≤ 131072) (x most : Int) (r : List UInt8 × Nat × Nat) (hr : infR b x most = r) : SpecH false Try.prog 18 [.sl false n 1 (b.map dB), iD x, iD most] [] (.tup [.ref 0 0 0 r.1.length 1, nD r.2.1, nD r.2.2]) [⟨(r.1).map dB, 5, true⟩] := by
  subst hr
  by_cases h : (x < 0 ∨ 8 * (n : Int) < x) ∨ most < 0 ∨ 131072 < most
  · have h1 := inf_b b n hn hN x most h
    have e : infR b x most = ([], 0, 2) := by
      rcases h with h | h
      · exact inf_1 (by omega)
      · by_cases q : x < 0 ∨ 8 * (b.length : Int) < x
        · exact inf_1 q
        · exact inf_2 q h
    rw [e]
    exact SpecH.nilA h1 _ (simN.tup ⟨simN.nil 0 1, simN.refl 0 _, simN.refl 0 _, trivial⟩)
  · by_cases q : (allR b most x.toNat).1.e = 0
    · have h1 := inf_o b n hn hN x most (by omega) (by omega) _ rfl q
      rw [inf_4 (by omega) (by omega) (by omega)]
      exact h1
    · have h1 := inf_e b n hn hN x most (by omega) (by omega) _ rfl q
      rw [inf_3 (by omega) (by omega) q]
      exact SpecH.nilA h1 _ (simN.tup ⟨simN.nil 0 1, simN.refl 0 _, simN.refl 0 _, trivial⟩)
theorem Pfx_t (b : List UInt8) (n : Nat) (hn : n = b.length) (hN : n ≤ 131072) (most : Int) (r : List UInt8 × Nat) (hr : pfxR b most = r) : SpecH false Try.prog 20 [.sl false n 1 (b.map dB), iD most] [] (.tup [.ref 0 0 0 r.1.length 1, nD r.2]) [⟨(r.1).map dB, 5, true⟩] := by
  subst hr
  by_cases h : most < 0 ∨ 131072 < most
  · have h1 := pfx_b b n hn hN most h
    rw [pfx_1 h]
    exact SpecH.nilA h1 _ (simN.tup ⟨simN.nil 0 1, simN.refl 0 _, trivial⟩)
  · by_cases q : (allR b most 0).1.e ≠ 0 ∧ (allR b most 0).1.e ≠ 10
    · have h1 := pfx_e b n hn hN most (by omega) _ rfl q
      rw [pfx_2 h q]
      exact SpecH.nilA h1 _ (simN.tup ⟨simN.nil 0 1, simN.refl 0 _, trivial⟩)
    · have h1 := pfx_o b n hn hN most (by omega) _ rfl q
      rw [pfx_3 h q]
      exact h1
end Vp
end Go.Proofs.Ytegjeagfcfhbeaa

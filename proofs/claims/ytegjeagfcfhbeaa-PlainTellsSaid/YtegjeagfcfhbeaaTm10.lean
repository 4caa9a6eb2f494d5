/- Part 10. -/
import Derived.Test.YtegjeagfcfhbeaaTm9
import Derived.Test.YtegjeagfcfhbeaaTm8
namespace Go.Proofs.Ytegjeagfcfhbeaa
open Go.RowKit Go.Bw Go.Vx
namespace Vp
set_option linter.unusedVariables false
set_option linter.unusedSimpArgs false
set_option maxRecDepth 100000
set_option maxHeartbeats 4000000
theorem zg0 {p : Prop} (h : p := by (refine decide_eq_false ?_; (omega))) : p := h
abbrev s0 (p : Nat) : Rs := ⟨p, 0⟩
def allR (b : List UInt8) (most : Int) (p : Nat) : Rs × List UInt8 := tlR b most none (s0 p) []
def infR (b : List UInt8) (at' most : Int) : List UInt8 × Nat × Nat :=
  if at' < 0 ∨ 8 * (b.length : Int) < at' then ([], 0, 2) else if most < 0 ∨ 131072 < most then ([], 0, 2)
  else if (allR b most at'.toNat).1.e ≠ 0 then ([], 0, (allR b most at'.toNat).1.e) else ((allR b most at'.toNat).2, (allR b most at'.toNat).1.p, 0)
def pfxR (b : List UInt8) (most : Int) : List UInt8 × Nat :=
  if most < 0 ∨ 131072 < most then ([], 2)
  else if (allR b most 0).1.e ≠ 0 ∧ (allR b most 0).1.e ≠ 10 then ([], (allR b most 0).1.e) else ((allR b most 0).2, 0)
section
variable {b : List UInt8} {x most : Int}
theorem inf_1 (h : x < 0 ∨ 8 * (b.length : Int) < x) : infR b x most = ([], 0, 2) := if_pos h
theorem inf_2 (h : ¬ (x < 0 ∨ 8 * (b.length : Int) < x)) (h2 : most < 0 ∨ 131072 < most) : infR b x most = ([], 0, 2) := (if_neg h).trans (if_pos h2)
theorem inf_3 (h : ¬ (x < 0 ∨ 8 * (b.length : Int) < x)) (h2 : ¬ (most < 0 ∨ 131072 < most)) (h3 : (allR b most x.toNat).1.e ≠ 0) : infR b x most = ([], 0, (allR b most x.toNat).1.e) := (if_neg h).trans ((if_neg h2).trans (if_pos h3))
theorem inf_4 (h : ¬ (x < 0 ∨ 8 * (b.length : Int) < x)) (h2 : ¬ (most < 0 ∨ 131072 < most)) (h3 : ¬ (allR b most x.toNat).1.e ≠ 0) : infR b x most = ((allR b most x.toNat).2, (allR b most x.toNat).1.p, 0) := (if_neg h).trans ((if_neg h2).trans (if_neg h3))
theorem pfx_1 (h : most < 0 ∨ 131072 < most) : pfxR b most = ([], 2) := if_pos h
theorem pfx_2 (h : ¬ (most < 0 ∨ 131072 < most)) (h2 : (allR b most 0).1.e ≠ 0 ∧ (allR b most 0).1.e ≠ 10) : pfxR b most = ([], (allR b most 0).1.e) := (if_neg h).trans (if_pos h2)
theorem pfx_3 (h : ¬ (most < 0 ∨ 131072 < most)) (h2 : ¬ ((allR b most 0).1.e ≠ 0 ∧ (allR b most 0).1.e ≠ 10)) : pfxR b most = ((allR b most 0).2, 0) := (if_neg h).trans (if_neg h2)
end
theorem tell_p (b : List UInt8) (n : Nat) (hn : n = b.length) (hN : n ≤ 131072) (p : Nat) (hp : p ≤ 8 * n) (pi : Int) (hpi : pi = p) (most : Int) (hm : 0 ≤ most ∧ most ≤ 1000000) (R : Rs × List UInt8) (hR : allR b most p = R) : SpecH true Try.prog 38 [.ptr 0 0 0, iD most] [⟨[.sl false n 1 (b.map dB), iD pi, iD 0], 70, false⟩] (.ref 1 1 0 R.2.length 1) [⟨[.sl false n 1 (b.map dB), nD R.1.p, nD R.1.e], 70, false⟩, ⟨R.2.map dB, 5, true⟩] := by
  subst hpi hR
  exact tell_t b n hn (by omega) (s0 p) (fun _ => hp) rfl most hm
theorem inf_b (b : List UInt8) (n : Nat) (hn : n = b.length) (hN : n ≤ 131072) (x most : Int) (h : (x < 0 ∨ 8 * (n : Int) < x) ∨ most < 0 ∨ 131072 < most) : SpecH false Try.prog 18 [.sl false n 1 (b.map dB), iD x, iD most] [] (.tup [nilD, iD 0, iD 2]) [] := by
  refine SpecH.run T_ok mixed Try.func18 rfl rfl rfl trivial rfl 1000 64 (fun R ok => (.s 13 (.f (decide (131072 < (↑n : Int))) zg0 (.s 5 (.br (decide (x < 0)) (fun p0 => have p0f := odt p0; (.s 43 (.out [] [] (D.tup [nilD, iD 0, iD 2]) [] R (ok _ _ wr wr)))) (fun p0 => have p0f := odf p0; (.s 7 (.ow (8 * (↑n : Int)) (.s 4 (.br (decide (8 * (↑n : Int) < x)) (fun p1 => have p1f := odt p1; (.s 33 (.out [] [] (D.tup [nilD, iD 0, iD 2]) [] R (ok _ _ wr wr)))) (fun p1 => have p1f := odf p1; (.s 27 (.br (decide (most < 0)) (fun p2 => have p2f := odt p2; (.s 15 (.out [] [] (D.tup [nilD, iD 0, iD 2]) [] R (ok _ _ wr wr)))) (fun p2 => have p2f := odf p2; (.s 6 (.t (decide (131072 < most)) (by (refine decide_eq_true ?_; (omega))) (.s 9 (.out [] [] (D.tup [nilD, iD 0, iD 2]) [] R (ok _ _ wr wr))))))))))))))))))) (by kernel_rfl)
theorem inf_e (b : List UInt8) (n : Nat) (hn : n = b.length) (hN : n ≤ 131072) (x most : Int) (h1 : 0 ≤ x ∧ x ≤ 8 * (n : Int)) (h2 : 0 ≤ most ∧ most ≤ 131072) (tr : Rs × List UInt8) (hR : allR b most x.toNat = tr) (h : tr.1.e ≠ 0) : SpecH false Try.prog 18 [.sl false n 1 (b.map dB), iD x, iD most] [] (.tup [nilD, iD 0, nD tr.1.e]) [] := by
  refine SpecH.run T_ok mixed Try.func18 rfl rfl rfl trivial rfl 1000 64 (fun R ok => (.s 13 (.f (decide (131072 < (↑n : Int))) zg0 (.s 5 (.f (decide (x < 0)) zg0 (.s 7 (.ow (8 * (↑n : Int)) (.s 4 (.f (decide (8 * (↑n : Int) < x)) zg0 (.s 27 (.f (decide (most < 0)) zg0 (.s 6 (.f (decide (131072 < most)) zg0 (.s 7 (.cl 38 true [184] (.fn q38 (@tell_p (b) (n) om om (Int.toNat x) om (x) om (most) om (tr) asm)) (.s 11 (.t ((↑(Rs.e (Prod.fst tr)) : Int) != 0) (by (simp <;> (omega))) (.s 12 (.out [] [] (D.tup [nilD, iD 0, nD (Rs.e (Prod.fst tr))]) [] R (ok _ _ wr wr)))))))))))))))))))) (by kernel_rfl)
theorem inf_o (b : List UInt8) (n : Nat) (hn : n = b.length) (hN : n ≤ 131072) (x most : Int) (h1 : 0 ≤ x ∧ x ≤ 8 * (n : Int)) (h2 : 0 ≤ most ∧ most ≤ 131072) (tr : Rs × List UInt8) (hR : allR b most x.toNat = tr) (h : tr.1.e = 0) : SpecH false Try.prog 18 [.sl false n 1 (b.map dB), iD x, iD most] [] (.tup [.ref 0 0 0 tr.2.length 1, nD tr.1.p, iD 0]) [⟨(tr.2).map dB, 5, true⟩] := by
  refine SpecH.run T_ok mixed Try.func18 rfl rfl rfl ⟨pl_bytes _, trivial⟩ rfl 1000 64 (fun R ok => (.s 13 (.f (decide (131072 < (↑n : Int))) zg0 (.s 5 (.f (decide (x < 0)) zg0 (.s 7 (.ow (8 * (↑n : Int)) (.s 4 (.f (decide (8 * (↑n : Int) < x)) zg0 (.s 27 (.f (decide (most < 0)) zg0 (.s 6 (.f (decide (131072 < most)) zg0 (.s 7 (.cl 38 true [184] (.fn q38 (@tell_p (b) (n) om om (Int.toNat x) om (x) om (most) om (tr) asm)) (.s 11 (.f ((↑(Rs.e (Prod.fst tr)) : Int) != 0) (by (simp <;> (omega))) (.s 13 (.out [384] [384] (D.tup [D.ref 0 0 0 (List.length (Prod.snd tr)) 1, nD (Rs.p (Prod.fst tr)), iD 0]) [Blk.mk (List.map dB (Prod.snd tr)) 5 true] R (ok _ _ wr wr)))))))))))))))))))) (by kernel_rfl)
theorem pfx_b (b : List UInt8) (n : Nat) (hn : n = b.length) (hN : n ≤ 131072) (most : Int) (h : most < 0 ∨ 131072 < most) : SpecH false Try.prog 20 [.sl false n 1 (b.map dB), iD most] [] (.tup [nilD, iD 2]) [] := by
  refine SpecH.run T_ok mixed Try.func20 rfl rfl rfl trivial rfl 1000 64 (fun R ok => (.s 11 (.f (decide (131072 < (↑n : Int))) zg0 (.s 13 (.ow (8 * (↑n : Int)) (.s 32 (.br (decide (most < 0)) (fun p0 => have p0f := odt p0; (.s 14 (.out [] [] (D.tup [nilD, iD 2]) [] R (ok _ _ wr wr)))) (fun p0 => have p0f := odf p0; (.s 6 (.t (decide (131072 < most)) (by (refine decide_eq_true ?_; (omega))) (.s 8 (.out [] [] (D.tup [nilD, iD 2]) [] R (ok _ _ wr wr))))))))))))) (by kernel_rfl)
theorem pfx_e (b : List UInt8) (n : Nat) (hn : n = b.length) (hN : n ≤ 131072) (most : Int) (h2 : 0 ≤ most ∧ most ≤ 131072) (tr : Rs × List UInt8) (hR : allR b most 0 = tr) (h : tr.1.e ≠ 0 ∧ tr.1.e ≠ 10) : SpecH false Try.prog 20 [.sl false n 1 (b.map dB), iD most] [] (.tup [nilD, nD tr.1.e]) [] := by
  refine SpecH.run T_ok mixed Try.func20 rfl rfl rfl trivial rfl 1000 64 (fun R ok => (.s 11 (.f (decide (131072 < (↑n : Int))) zg0 (.s 13 (.ow (8 * (↑n : Int)) (.s 32 (.f (decide (most < 0)) zg0 (.s 6 (.f (decide (131072 < most)) zg0 (.s 7 (.cl 38 true [168] (.fn q38 (@tell_p (b) (n) om om (0) om (0) om (most) om (tr) asm)) (.s 13 (.t ((↑(Rs.e (Prod.fst tr)) : Int) != 0) (by (simp <;> (omega))) (.s 14 (.t ((↑(Rs.e (Prod.fst tr)) : Int) != 10) (by (simp <;> (omega))) (.s 11 (.out [] [] (D.tup [nilD, nD (Rs.e (Prod.fst tr))]) [] R (ok _ _ wr wr)))))))))))))))))) (by kernel_rfl)
theorem pfx_o (b : List UInt8) (n : Nat) (hn : n = b.length) (hN : n ≤ 131072) (most : Int) (h2 : 0 ≤ most ∧ most ≤ 131072) (tr : Rs × List UInt8) (hR : allR b most 0 = tr) (h : ¬ (tr.1.e ≠ 0 ∧ tr.1.e ≠ 10)) : SpecH false Try.prog 20 [.sl false n 1 (b.map dB), iD most] [] (.tup [.ref 0 0 0 tr.2.length 1, iD 0]) [⟨(tr.2).map dB, 5, true⟩] := by
  refine SpecH.run T_ok mixed Try.func20 rfl rfl rfl ⟨pl_bytes _, trivial⟩ rfl 1000 64 (fun R ok => (.s 11 (.f (decide (131072 < (↑n : Int))) zg0 (.s 13 (.ow (8 * (↑n : Int)) (.s 32 (.f (decide (most < 0)) zg0 (.s 6 (.f (decide (131072 < most)) zg0 (.s 7 (.cl 38 true [168] (.fn q38 (@tell_p (b) (n) om om (0) om (0) om (most) om (tr) asm)) (.s 13 (.br ((↑(Rs.e (Prod.fst tr)) : Int) != 0) (fun p0 => have p0f := of_bne_t p0; (.s 14 (.f ((↑(Rs.e (Prod.fst tr)) : Int) != 10) (by (simp <;> (omega))) (.s 3 (.out [360] [360] (D.tup [D.ref 0 0 0 (List.length (Prod.snd tr)) 1, iD 0]) [Blk.mk (List.map dB (Prod.snd tr)) 5 true] R (ok _ _ wr wr)))))) (fun p0 => have p0f := of_bne_f p0; (.s 13 (.out [360] [360] (D.tup [D.ref 0 0 0 (List.length (Prod.snd tr)) 1, iD 0]) [Blk.mk (List.map dB (Prod.snd tr)) 5 true] R (ok _ _ wr wr))))))))))))))))) (by kernel_rfl)
theorem Inf_t (b : List UInt8) (n : Nat) (hn : n = b.length) (hN : n ≤ 131072) (x most : Int) (r : List UInt8 × Nat × Nat) (hr : infR b x most = r) : SpecH false Try.prog 18 [.sl false n 1 (b.map dB), iD x, iD most] [] (.tup [.ref 0 0 0 r.1.length 1, nD r.2.1, nD r.2.2]) [⟨(r.1).map dB, 5, true⟩] := by
  subst hr
  by_cases h : (x < 0 ∨ 8 * (n : Int) < x) ∨ most < 0 ∨ 131072 < most
  · have h1 := inf_b b n hn hN x most h
    have e : infR b x most = ([], 0, 2) := by
      rcases h with h | h
      · exact inf_1 (by omega)
      · by_cases q : x < 0 ∨ 8 * (b.length : Int) < x
        · exact inf_1 q
        · exact inf_2 q h
    rw [e]
    exact SpecH.nilA h1 _ (simN.tup ⟨simN.nil 0 1, simN.refl 0 _, simN.refl 0 _, trivial⟩)
  · by_cases q : (allR b most x.toNat).1.e = 0
    · have h1 := inf_o b n hn hN x most (by omega) (by omega) _ rfl q
      rw [inf_4 (by omega) (by omega) (by omega)]
      exact h1
    · have h1 := inf_e b n hn hN x most (by omega) (by omega) _ rfl q
      rw [inf_3 (by omega) (by omega) q]
      exact SpecH.nilA h1 _ (simN.tup ⟨simN.nil 0 1, simN.refl 0 _, simN.refl 0 _, trivial⟩)
theorem Pfx_t (b : List UInt8) (n : Nat) (hn : n = b.length) (hN : n ≤ 131072) (most : Int) (r : List UInt8 × Nat) (hr : pfxR b most = r) : SpecH false Try.prog 20 [.sl false n 1 (b.map dB), iD most] [] (.tup [.ref 0 0 0 r.1.length 1, nD r.2]) [⟨(r.1).map dB, 5, true⟩] := by
  subst hr
  by_cases h : most < 0 ∨ 131072 < most
  · have h1 := pfx_b b n hn hN most h
    rw [pfx_1 h]
    exact SpecH.nilA h1 _ (simN.tup ⟨simN.nil 0 1, simN.refl 0 _, trivial⟩)
  · by_cases q : (allR b most 0).1.e ≠ 0 ∧ (allR b most 0).1.e ≠ 10
    · have h1 := pfx_e b n hn hN most (by omega) _ rfl q
      rw [pfx_2 h q]
      exact SpecH.nilA h1 _ (simN.tup ⟨simN.nil 0 1, simN.refl 0 _, trivial⟩)
    · have h1 := pfx_o b n hn hN most (by omega) _ rfl q
      rw [pfx_3 h q]
      exact h1
end Vp
end Go.Proofs.Ytegjeagfcfhbeaa
namespace Go.Proofs.Ytegjeagfcfhbeaa
open Go.RowKit Go.Bw Go.Vx
namespace Vp
set_option linter.unusedVariables false
set_option linter.unusedSimpArgs false
set_option maxRecDepth 100000
set_option maxHeartbeats 4000000
end Vp
end Go.Proofs.Ytegjeagfcfhbeaa
namespace Go.Proofs.Ytegjeagfcfhbeaa
open Go.RowKit Go.Bw Go.Vx
namespace Vp
set_option linter.unusedVariables false
set_option linter.unusedSimpArgs false
set_option maxRecDepth 100000
set_option maxHeartbeats 4000000
structure Pre (c b : List UInt8) : Prop where
  l : c.length ≤ b.length
  g : ∀ i, i < c.length → c.getD i default = b.getD i default
theorem Pre.take (b : List UInt8) (n : Nat) : Pre (b.take n) b := by
  refine ⟨by rw [List.length_take]; omega, fun i h => ?_⟩
  rw [List.length_take] at h
  rw [List.getD_eq_getElem?_getD, List.getD_eq_getElem?_getD, List.getElem?_take_of_lt (by omega)]
section
variable {c b : List UInt8} (P : Pre c b)
include P
theorem Pre.num (p : Nat) : ∀ m, p + m ≤ 8 * c.length → numB c p m = numB b p m
  | 0, _ => rfl
  | m + 1, h => by
    rw [numB, numB, Pre.num p m (by omega)]
    unfold bitB
    rw [P.g ((p + m) / 8) (by omega)]
theorem Pre.tk (p m : Nat) : tkE c p m = 10 ∨ (tkE c p m = tkE b p m ∧ tkV c p m = tkV b p m) := by
  by_cases h : 8 * c.length < p + m
  · exact .inl (tkE_0 h)
  · have := P.l
    right
    rw [tkE_1 h, tkE_1 (by omega), tkV_1 h, tkV_1 (by omega)]
    exact ⟨rfl, P.num p m (by omega)⟩
theorem Pre.take_ (m : Nat) (s : Rs) : (tkS c m s).e = 10 ∨ (tkS c m s = tkS b m s ∧ tkN c m s = tkN b m s) := by
  by_cases h : s.e = 0
  · rw [tkS_0 h, tkS_0 h, tkN_0 h, tkN_0 h]
    rcases P.tk s.p m with q | ⟨q1, q2⟩
    · exact .inl q
    · exact .inr ⟨by rw [q1], q2⟩
  · rw [tkS_x h, tkS_x h, tkN_x h, tkN_x h]; exact .inr ⟨rfl, rfl⟩
theorem Pre.nxF (l : List UInt8) : ∀ (k a d p : Nat), (nxF c l k a d p).2.2 = 10 ∨ nxF c l k a d p = nxF b l k a d p
  | 0, _, _, _ => .inr rfl
  | k + 1, a, d, p => by
    rw [Vp.nxF, Vp.nxF]
    split
    · exact .inr rfl
    · rcases P.tk p 1 with q | ⟨q1, q2⟩
      · rw [if_pos (by omega)]; exact .inl rfl
      · rw [q1, q2]
        split
        · exact .inl rfl
        · split
          · exact .inr rfl
          · exact Pre.nxF l k _ _ _
theorem Pre.sy (l : List UInt8) (s : Rs) : (syS c l s).e = 10 ∨ (syS c l s = syS b l s ∧ syN c l s = syN b l s) := by
  by_cases h : s.e = 0
  · rw [syS_0 h, syS_0 h, syN_0 h, syN_0 h, nxR_eq, nxR_eq]
    rcases P.nxF l 16 0 0 s.p with q | q
    · exact .inl q
    · rw [q]; exact .inr ⟨rfl, rfl⟩
  · rw [syS_x h, syS_x h, syN_x h, syN_x h]; exact .inr ⟨rfl, rfl⟩
theorem Pre.nb (far : Bool) (y : Nat) (s : Rs) : (nbS c far y s).e = 10 ∨ (nbS c far y s = nbS b far y s ∧ nbN c far y s = nbN b far y s) := by
  by_cases h : s.e = 0
  · have hT : (nbT c far y s).e = 10 ∨ (nbT c far y s = nbT b far y s ∧ nbX c far y s = nbX b far y s) := P.take_ _ _
    rcases hT with q | ⟨q1, q2⟩
    · rw [(nbS_1 h (by omega)).1]; exact .inl q
    · right
      by_cases h1 : (nbT c far y s).e = 0
      · rw [(nbS_2 h h1).1, (nbS_2 h h1).2, (nbS_2 h (by rw [← q1]; exact h1)).1, (nbS_2 h (by rw [← q1]; exact h1)).2, q1, q2]; exact ⟨rfl, rfl⟩
      · rw [(nbS_1 h h1).1, (nbS_1 h h1).2, (nbS_1 h (by rw [← q1]; exact h1)).1, (nbS_1 h (by rw [← q1]; exact h1)).2, q1]; exact ⟨rfl, rfl⟩
  · rw [(nbS_x h).1, (nbS_x h).1, (nbS_x h).2, (nbS_x h).2]; exact .inr ⟨rfl, rfl⟩
theorem Pre.st (kd le : Nat) (l1 l2 : List UInt8) (s : Rs) : (stR c kd le l1 l2 s).1.e = 10 ∨ stR c kd le l1 l2 s = stR b kd le l1 l2 s := by
  by_cases h0 : kd = 0
  · by_cases h1 : 0 < le
    · rw [st_a h0 h1, st_a h0 h1]
      rcases P.take_ 8 s with q | ⟨q1, q2⟩
      · exact .inl q
      · rw [q1, q2]; exact .inr rfl
    · rw [st_b h0 h1, st_b h0 h1]; exact .inr rfl
  · rcases P.sy l1 s with q | ⟨q1, q2⟩
    · rw [st_c h0 (by omega)]; exact .inl q
    · by_cases h1 : (syS c l1 s).e = 0
      · have h2 : (syS b l1 s).e = 0 := by rw [← q1]; exact h1
        rcases Nat.lt_trichotomy (syN c l1 s) 256 with h3 | h3 | h3
        · rw [st_d h0 h1 h3, st_d h0 h2 (by rw [← q2]; exact h3), q1, q2]; exact .inr rfl
        · rw [st_e h0 h1 h3, st_e h0 h2 (by rw [← q2]; exact h3), q1]; exact .inr rfl
        · rw [st_f h0 h1 h3, st_f h0 h2 (by rw [← q2]; exact h3)]
          have e1 : (st2 c l1 s).e = 10 ∨ (st2 c l1 s = st2 b l1 s ∧ nbN c false (syN c l1 s) (syS c l1 s) = nbN b false (syN b l1 s) (syS b l1 s)) := by
            show (nbS c false (syN c l1 s) (syS c l1 s)).e = 10 ∨ (nbS c false (syN c l1 s) (syS c l1 s) = nbS b false (syN b l1 s) (syS b l1 s) ∧ _)
            rw [← q1, ← q2]; exact P.nb _ _ _
          rcases e1 with e1 | ⟨e1, e2⟩
          · left
            show (nbS c true _ (syS c l2 (st2 c l1 s))).e = 10
            rw [syS_x (by omega), (nbS_x (by omega)).1]; exact e1
          · rcases P.sy l2 (st2 c l1 s) with e3 | ⟨e3, e4⟩
            · left
              show (nbS c true _ (syS c l2 (st2 c l1 s))).e = 10
              rw [(nbS_x (by omega)).1]; exact e3
            · rcases P.nb true (syN c l2 (st2 c l1 s)) (syS c l2 (st2 c l1 s)) with e5 | ⟨e5, e6⟩
              · exact .inl e5
              · right
                rw [e5, e6, e3, e4, e1, e2]
      · rw [st_c h0 h1, st_c h0 (by rw [← q1]; exact h1), q1]; exact .inr rfl
theorem Pre.rw (s : Rs) : ∀ i, (rwS c s i).e = 10 ∨ (rwS c s i = rwS b s i ∧ rwL c s i = rwL b s i)
  | 0 => .inr ⟨rfl, rfl⟩
  | i + 1 => by
    rw [rwS, rwS, rwL, rwL]
    rcases Pre.rw s i with q | ⟨q1, q2⟩
    · left; rw [tkS_x (by omega)]; exact q
    · rcases P.take_ 3 (rwS c s i) with e | ⟨e1, e2⟩
      · exact .inl e
      · right; rw [e1, e2, q1, q2]; exact ⟨rfl, rfl⟩
theorem Pre.lnC (l : List UInt8) (N : Nat) (s : Rs) (many k : Nat) : (lnC c l N s many k).e = 10 ∨ (lnC c l N s many k = lnC b l N s many k ∧ lnX c l s = lnX b l s) := by
  unfold Vp.lnC lnX
  rcases P.sy l s with q | ⟨q1, q2⟩
  · left; rw [tkS_x (by omega), fl_x (by omega)]; exact q
  · rcases P.take_ (rb (syN c l s)) (syS c l s) with e | ⟨e1, e2⟩
    · left; rw [fl_x (by omega)]; exact e
    · right; rw [e2, e1, q1, q2]; exact ⟨rfl, rfl⟩
theorem Pre.lnF (l : List UInt8) (N : Nat) : ∀ (k : Nat) (s : Rs) (many : Nat) (r : List Rn), (lnF c l N k s many r).1.e = 10 ∨ lnF c l N k s many r = lnF b l N k s many r
  | 0, _, _, _ => .inr rfl
  | k + 1, s, many, r => by
    rw [Vp.lnF, Vp.lnF]
    split
    · exact .inr rfl
    · rcases P.lnC l N s many r.length with q | ⟨q1, q2⟩
      · left; rw [lnF_end (.inr (by omega))]; exact q
      · rw [q1, q2]; exact Pre.lnF l N k _ _ _
theorem Pre.ln (l : List UInt8) (N : Nat) (s : Rs) : (lnS c l N s).e = 10 ∨ (lnS c l N s = lnS b l N s ∧ lnO c l N s = lnO b l N s) := by
  unfold lnS lnO
  rw [lnR_eq, lnR_eq]
  rcases P.lnF l N N s 0 [] with q | q
  · left; rw [fl_x (by omega)]; exact q
  · rw [q]; exact .inr ⟨rfl, rfl⟩
end
def dyG (b : List UInt8) (g f : Nat) (s5 : Rs) (W : List UInt8) : Rs × List UInt8 × List UInt8 :=
  let t := okL W 7
  let s6 := fl s5 (((canE W 7 : Nat) : Int) == 0) 132
  let s7 := fl s6 (decide ((1 : Int) < (((symsL t).length : Nat) : Int))) 132
  let N := g + 257 + (f + 1)
  let o := lnO b t N s7
  let s8 := lnS b t N s7
  if s8.e ≠ 0 then (s8, [], []) else
  let L1 := (o.drop 0).take (g + 257)
  let L2 := (o.drop (g + 257)).take (N - (g + 257))
  let s9 := fl s8 (decide ((0 : Int) < (((o.getD 256 default).toNat : Nat) : Int))) 132
  let s10 := fl s9 (((canE L1 15 : Nat) : Int) == 0) 132
  let s11 := fl s10 (((canE L1 15 : Nat) : Int) == 0) 132
  let s12 := fl s11 (((canE L2 15 : Nat) : Int) == 0) 132
  (s12, okL L1 15, okL L2 15)
def dyS4 (b : List UInt8) (s : Rs) : Rs := fl (tkS b 4 (tkS b 5 (tkS b 5 s))) (decide (tkN b 5 s + 257 ≤ 286) && decide (tkN b 5 (tkS b 5 s) + 1 ≤ 30)) 132
theorem dyR_g (b : List UInt8) (s : Rs) : dyR b s = dyG b (tkN b 5 s) (tkN b 5 (tkS b 5 s)) (rwS b (dyS4 b s) (tkN b 4 (tkS b 5 (tkS b 5 s)) + 4)) (rwL b (dyS4 b s) (tkN b 4 (tkS b 5 (tkS b 5 s)) + 4)) := rfl
theorem lnS_x {b l : List UInt8} {N : Nat} {s : Rs} (h : s.e ≠ 0) : lnS b l N s = s := by
  unfold lnS
  have : (lnR b l N s).1 = s := by rw [lnR_eq, lnF_end (.inr h)]
  rw [this, fl_x h]
theorem rwS_x {b : List UInt8} {s : Rs} (h : s.e ≠ 0) : ∀ i, rwS b s i = s
  | 0 => rfl
  | i + 1 => by rw [rwS, rwS_x h i, tkS_x h]
theorem dyG_x {b : List UInt8} {g f : Nat} {s : Rs} {W : List UInt8} (h : s.e ≠ 0) : dyG b g f s W = (s, [], []) := by
  unfold dyG
  dsimp only
  have e : ∀ (c d : Bool) (t : List UInt8) (N : Nat), lnS b t N (fl (fl s c 132) d 132) = s := fun c d t N => by rw [fl_x h, fl_x h, lnS_x h]
  rw [e, if_pos h]
section
variable {c b : List UInt8} (P : Pre c b)
include P
theorem Pre.dyG (g f : Nat) (s : Rs) (W : List UInt8) : (dyG c g f s W).1.e = 10 ∨ dyG c g f s W = dyG b g f s W := by
  unfold Vp.dyG
  dsimp only
  generalize fl (fl s _ 132) _ 132 = s7
  generalize okL W 7 = t
  generalize g + 257 + (f + 1) = N
  rcases P.ln t N s7 with q | ⟨q1, q2⟩
  · left; rw [if_pos (by omega)]; exact q
  · rw [q1, q2]; exact .inr rfl
theorem Pre.dy (s : Rs) : (dyR c s).1.e = 10 ∨ dyR c s = dyR b s := by
  rw [dyR_g, dyR_g]
  have a1 := P.take_ 5 s
  rcases a1 with q | ⟨p1, p2⟩
  · left
    have e : dyS4 c s = tkS c 5 s := by unfold dyS4; rw [tkS_x (s := tkS c 5 s) (by omega), tkS_x (s := tkS c 5 s) (by omega), fl_x (by omega)]
    rw [e, rwS_x (by omega), dyG_x (by omega)]; exact q
  · rw [p2, p1]
    have a2 := P.take_ 5 (tkS b 5 s)
    rcases a2 with q | ⟨p3, p4⟩
    · left
      have e : dyS4 c s = tkS c 5 (tkS b 5 s) := by unfold dyS4; rw [p1, tkS_x (s := tkS c 5 (tkS b 5 s)) (by omega), fl_x (by omega)]
      rw [e, rwS_x (by omega), dyG_x (by omega)]; exact q
    · rw [p4, p3]
      have a3 := P.take_ 4 (tkS b 5 (tkS b 5 s))
      rcases a3 with q | ⟨p5, p6⟩
      · left
        have e : dyS4 c s = tkS c 4 (tkS b 5 (tkS b 5 s)) := by unfold dyS4; rw [p1, p3, fl_x (by omega)]
        rw [e, rwS_x (by omega), dyG_x (by omega)]; exact q
      · rw [p6]
        have e : dyS4 c s = dyS4 b s := by unfold dyS4; rw [p1, p2, p3, p4, p5]
        rw [e]
        rcases P.rw (dyS4 b s) (tkN b 4 (tkS b 5 (tkS b 5 s)) + 4) with q | ⟨q1, q2⟩
        · left; rw [dyG_x (by omega)]; exact q
        · rw [q1, q2]; exact P.dyG _ _ _ _
theorem Pre.hd (s : Rs) : (hdR c s).s.e = 10 ∨ hdR c s = hdR b s := by
  rw [hdR_eq, hdR_eq]
  unfold hdD
  dsimp only
  rcases P.take_ 1 s with q | ⟨p1, p2⟩
  · left
    have e : ∀ d : Bool, fl (tkS c 2 (tkS c 1 s)) d 130 = tkS c 1 s := fun d => by rw [tkS_x (by omega), fl_x (by omega)]
    rw [e, if_pos (by omega)]; exact q
  · rw [p1, p2]
    rcases P.take_ 2 (tkS b 1 s) with q | ⟨p3, p4⟩
    · left
      have e : ∀ d : Bool, fl (tkS c 2 (tkS b 1 s)) d 130 = tkS c 2 (tkS b 1 s) := fun d => by rw [fl_x (by omega)]
      rw [e, if_pos (by omega)]; exact q
    · rw [p3, p4]
      generalize fl (tkS b 2 (tkS b 1 s)) (decide (((tkN b 2 (tkS b 1 s) : Nat) : Int) ≤ 2)) 130 = s3
      split
      · exact .inr rfl
      · split
        · rcases P.take_ 16 ⟨(s3.p + 7) / 8 * 8, 0⟩ with q | ⟨p5, p6⟩
          · left
            show (fl (tkS c 16 (tkS c 16 _)) _ 131).e = 10
            rw [tkS_x (s := tkS c 16 _) (by omega), fl_x (by omega)]; exact q
          · rw [p5, p6]
            rcases P.take_ 16 (tkS b 16 ⟨(s3.p + 7) / 8 * 8, 0⟩) with q | ⟨p7, p8⟩
            · left
              show (fl (tkS c 16 (tkS b 16 _)) _ 131).e = 10
              rw [fl_x (by omega)]; exact q
            · rw [p7, p8]; exact .inr rfl
        · split
          · exact .inr rfl
          · rcases P.dy s3 with q | q
            · exact .inl q
            · rw [q]; exact .inr rfl
end
theorem cpF_pre (d : Nat) (o : List UInt8) : ∀ k, o <+: cpF d k o
  | 0 => List.prefix_refl o
  | k + 1 => by rw [cpF]; exact (cpF_pre d o k).trans (List.prefix_append _ _)
theorem plT_pre (lit d long : Nat) (o : List UInt8) : o <+: plT lit d long o := by
  unfold plT; split
  · exact List.prefix_append _ _
  · exact cpF_pre d o _
theorem tl_pre (b : List UInt8) (most : Int) : ∀ (k : Nat) (m : Option Kb) (s : Rs) (o : List UInt8), o <+: (tlF b most k m s o).2
  | 0, _, _, _ => List.prefix_refl _
  | k + 1, none, s, o => by rw [tlF]; exact tl_pre b most k _ _ _
  | k + 1, some K, s, o => by
    rw [tlF]
    split
    · split
      · exact List.prefix_refl _
      · exact tl_pre b most k _ _ _
    · split
      · exact List.prefix_refl _
      · exact (plT_pre _ _ _ o).trans (tl_pre b most k _ _ _)
theorem Pre.tl {c b : List UInt8} (P : Pre c b) (most : Int) : ∀ (k : Nat) (m : Option Kb) (s : Rs) (o : List UInt8), ((tlF c most k m s o).1.e = 10 ∧ (tlF c most k m s o).2 <+: (tlF b most k m s o).2) ∨ tlF c most k m s o = tlF b most k m s o
  | 0, _, _, _ => .inr rfl
  | k + 1, none, s, o => by
    rcases P.hd s with q | q
    · left
      have e : tlF c most (k + 1) none s o = ((hdR c s).s, o) := by rw [tlF, tl_err _ _ _ _ (by omega)]
      rw [e]
      exact ⟨q, tl_pre b most (k + 1) none s o⟩
    · rw [tlF, tlF]
      unfold kbH
      rw [q]
      exact Pre.tl P most k _ _ _
  | k + 1, some K, s, o => by
    rcases P.st K.kd K.le K.l1 K.l2 s with q | q
    · left
      have e : tlF c most (k + 1) (some K) s o = ((stK c K s).1, o) := by
        have q0 : (stK c K s).1.e ≠ 0 := by show (stR c K.kd K.le K.l1 K.l2 s).1.e ≠ 0; omega
        rw [tlF, if_pos (.inl q0), if_pos (.inl q0)]
      rw [e]
      exact ⟨q, tl_pre b most (k + 1) (some K) s o⟩
    · have q : stK c K s = stK b K s := q
      rw [tlF, tlF, q]
      split
      · split
        · exact .inr rfl
        · exact Pre.tl P most k _ _ _
      · split
        · exact .inr rfl
        · exact Pre.tl P most k _ _ _
theorem Pre.all {c b : List UInt8} (P : Pre c b) (most : Int) : ((allR c most 0).1.e = 10 ∧ (allR c most 0).2 <+: (allR b most 0).2) ∨ allR c most 0 = allR b most 0 := by
  unfold allR
  rw [tlR_eq, tlR_eq]
  have h1 := P.l
  have e : tlF c most (mu c none (s0 0)) none (s0 0) [] = tlF c most (mu b none (s0 0)) none (s0 0) [] := by
    refine tl_fuel _ _ _ _ _ (fun _ => Nat.zero_le _) (Nat.le_refl _) ?_
    rw [mu_none rfl, mu_none rfl]
    show 2 * (8 * c.length + 1 - 0) ≤ 2 * (8 * b.length + 1 - 0)
    omega
  rw [e]
  exact P.tl most _ _ _ _
structure BegK (x y : List UInt8 × Nat) (z : List UInt8 × Nat × Nat) : Prop where
  a : x.2 = 0 → y.2 = 0 ∧ y.1.length ≤ x.1.length ∧ x.1.take y.1.length = y.1
  b : z.2.2 ≠ 0 → (z.2.2 = 10 ↔ y.2 = 0)
  c : z.2.2 = 0 → y.2 = 0 ∧ x.2 = 0 ∧ z.1 = y.1 ∧ z.1 = x.1
end Vp
end Go.Proofs.Ytegjeagfcfhbeaa
namespace Go.Proofs.Ytegjeagfcfhbeaa
open Go.RowKit Go.Bw Go.Vx
namespace Vp
set_option linter.unusedVariables false
set_option linter.unusedSimpArgs false
set_option maxRecDepth 100000
set_option maxHeartbeats 4000000
theorem zhx0 {p : Prop} (h : p := by ( rw [show i = h from by omega])) : p := h
theorem zhx1 {p : Prop} (h : p := by exact (And.intro (D.sim.refl _) (And.intro (D.sim.of_eq (by (refine iv_eq ?_; (omega)))) (And.intro (D.sim.refl _) trivial)))) : p := h
theorem zhx2 {p : Prop} (h : p := by (exact Nat.le_trans (Nat.add_le_add hp (Nat.mul_le_mul_left 3 (Nat.le_trans hi hh))) om)) : p := h
theorem zhx3 {p : Prop} (h : p := by (simp only [Bool.true_and, List.length_map, rwL_len]; refine Nat.ble_eq_true_of_le ?_; have h9 := ord_lt i; omega)) : p := h
theorem zhx4 {p : Prop} (h : p := by ( have q := tkV_lt b (p + 3 * i) 3; refine blk_eq (sh_b hS (by simp only [Nat.mul_one, Nat.zero_add]) om))) : p := h
theorem zhx5 {p : Prop} (h : p := by exact (And.intro (D.sim.slw rfl (cond_t (by (simp [hl]; done)) |>.trans rfl)) (And.intro (D.sim.refl _) trivial))) : p := h
theorem zhx6 {p : Prop} (h : p := by exact (And.intro (D.sim.slw rfl (cond_t (by (simp [hl]; done)) |>.trans rfl)) trivial)) : p := h
theorem tkE_10 {b : List UInt8} {p m : Nat} (h : tkE b p m ≠ 0) : tkE b p m = 10 := by
  rcases Nat.lt_or_ge (8 * b.length) (p + m) with q | q
  · exact tkE_0 q
  · exact absurd (tkE_1 (by omega)) h
theorem rwS_st {b : List UInt8} {s : Rs} {i : Nat} (h : (rwS b s i).e ≠ 0) : ∀ k, rwS b s (i + k) = rwS b s i
  | 0 => rfl
  | k + 1 => by rw [← Nat.add_assoc, rwS, rwS_st h k, tkS_x h]
def shR (b : List UInt8) (p h : Nat) : List UInt8 × Nat × Nat := lk b (if (rwS b (rs0 p) h).e ≠ 0 then ([], 0, 10) else if canE (rwL b (rs0 p) h) 7 ≠ 0 ∨ kraft (rwL b (rs0 p) h) ≠ 32768 then ([], 0, 132) else (rwL b (rs0 p) h, p + 3 * h, 0))
section
variable {b : List UInt8} {p h i : Nat} {r : List UInt8 × Nat × Nat} (hr : shR b p h = r)
include hr
theorem sh_1 (h1 : (rwS b (rs0 p) h).e ≠ 0) : r = ([], 0, 10) := by rw [← hr]; exact (lk_eq _ _).trans (if_pos h1)
theorem sh_2 (h1 : (rwS b (rs0 p) h).e = 0) (h2 : canE (rwL b (rs0 p) h) 7 ≠ 0 ∨ kraft (rwL b (rs0 p) h) ≠ 32768) : r = ([], 0, 132) := by rw [← hr]; exact (lk_eq _ _).trans ((if_neg (by omega)).trans (if_pos h2))
theorem sh_3 (h1 : (rwS b (rs0 p) h).e = 0) (h2 : canE (rwL b (rs0 p) h) 7 = 0) (h3 : kraft (rwL b (rs0 p) h) = 32768) : r = (rwL b (rs0 p) h, p + 3 * h, 0) := by rw [← hr]; exact (lk_eq _ _).trans ((if_neg (by omega)).trans (if_neg (by omega)))
theorem sh_e (hi : i < h) (hS : rwS b (rs0 p) i = rs0 (p + 3 * i)) (he : tkE b (p + 3 * i) 3 ≠ 0) : r = ([], 0, tkE b (p + 3 * i) 3) := by
  have e1 : rwS b (rs0 p) (i + 1) = ⟨p + 3 * i + 3, tkE b (p + 3 * i) 3⟩ := by rw [rwS, hS, tkS_0 rfl]
  have e2 := rwS_st (b := b) (s := rs0 p) (i := i + 1) (by rw [e1]; exact he) (h - (i + 1))
  rw [show i + 1 + (h - (i + 1)) = h from by omega, e1] at e2
  rw [tkE_10 he]
  exact sh_1 hr (by rw [e2]; exact he)
end
theorem sh_s {b : List UInt8} {p i : Nat} (hS : rwS b (rs0 p) i = rs0 (p + 3 * i)) (he : tkE b (p + 3 * i) 3 = 0) : rwS b (rs0 p) (i + 1) = rs0 (p + 3 * (i + 1)) := by
  rw [rwS, hS, tkS_0 rfl, he]
  show (⟨p + 3 * i + 3, 0⟩ : Rs) = ⟨p + 3 * (i + 1), 0⟩
  rw [show p + 3 * i + 3 = p + 3 * (i + 1) from by omega]
theorem sh_b {b : List UInt8} {p i o : Nat} {x : Int} (hS : rwS b (rs0 p) i = rs0 (p + 3 * i)) (ho : o = ordN i) (hx : x = ((tkV b (p + 3 * i) 3 : Nat) : Int)) : setSeg ((rwL b (rs0 p) i).map dB) o [D.v (.int .u8 x)] = (rwL b (rs0 p) (i + 1)).map dB := by
  refine rw_set ho ?_
  have h := tkV_lt b (p + 3 * i) 3
  have e : tkN b 3 (rs0 (p + 3 * i)) = tkV b (p + 3 * i) 3 := tkN_0 rfl
  rw [hS, e, hx]
  unfold dB
  rw [UInt8.toNat_ofNat', Nat.mod_eq_of_lt (by omega)]
structure ShF (W : List UInt8) (r : List UInt8 × Nat × Nat) (p h : Nat) : Prop where
  a : canE W 7 ≠ 0 → r = ([], 0, 132)
  b : canE W 7 = 0 → overB W 15 = false
  c : canE W 7 = 0 → kraft W ≠ 32768 → r = ([], 0, 132)
  d : canE W 7 = 0 → kraft W = 32768 → r = (W, p + 3 * h, 0)
theorem shF {b : List UInt8} {p h i : Nat} {r : List UInt8 × Nat × Nat} (hr : shR b p h = r) (hi : i = h) (hS : rwS b (rs0 p) i = rs0 (p + 3 * i)) : ShF (rwL b (rs0 p) h) r p h := by
  subst hi
  have h0 : (rwS b (rs0 p) i).e = 0 := by rw [hS]
  refine ⟨?_, ?_, ?_, ?_⟩
  · exact fun q => sh_2 hr h0 (.inl q)
  · exact fun q => over_up (canE_0 q).2.1 (by decide)
  · exact fun q q2 => sh_2 hr h0 (.inr q2)
  · exact fun q q2 => sh_3 hr h0 q q2
theorem rSh_o (b : List UInt8) (n : Nat) (hn : n = b.length) (hN : n ≤ 1000000) (p : Nat) (hp : p ≤ 8 * n) (h : Nat) (hh : h ≤ 19) (r : List UInt8 × Nat × Nat) (hr : shR b p h = r) (h0 : r.2.2 = 0) : SpecH false Try.prog 85 [.sl false n 1 (b.map dB), nD p, nD h] [] (.tup [.ref 0 0 0 19 1, nD r.2.1, iD 0]) [⟨r.1.map dB, 5, true⟩] := by
  refine SpecH.run T_ok mixed Try.func85 rfl rfl rfl ⟨pl_bytes _, trivial⟩ rfl 1000 64 (fun R ok => (.s 24 (Hn.inl T_ok mixed false 53 0 (loopAt Try.prog 85 0) (fun (x : (i : Nat) ×' (hi : i ≤ h) ×' (hS : rwS b (rs0 p) i = rs0 (p + 3 * i)) ×' Unit) => match x with | ⟨i, hi, hS, _⟩ => CutS.mk [(0, D.sl false n 1 (List.map dB b)), (1, nD p), (2, nD h), (9, D.ref 0 0 0 19 1), (10, D.ptr 8 8 0), (11, nD i)] [⟨0, 0, 24, 24, .b ⟨(rwL b (rs0 p) i).map dB, 5, true⟩⟩, ⟨8, 8, 80, 80, .b ⟨[iD 16, iD 17, iD 18, iD 0, iD 8, iD 7, iD 9, iD 6, iD 10, iD 5, iD 11, iD 4, iD 12, iD 3, iD 13, iD 2, iD 14, iD 1, iD 15], 142, false⟩⟩] 16) (fun (x : (i : Nat) ×' (hi : i ≤ h) ×' (hS : rwS b (rs0 p) i = rs0 (p + 3 * i)) ×' Unit) => match x with | ⟨i, hi, hS, _⟩ => h - i) [⟨(W : List UInt8) ×' (hl : W.length = 19) ×' (hF : ShF W r p h) ×' Unit, .exit 0, fun x => match x with | ⟨W, hl, hF, _⟩ => CutS.mk [(0, D.sl false n 1 (List.map dB b)), (1, nD p), (2, nD h), (9, D.ref 0 0 0 19 1), (10, D.ptr 8 8 0), (11, nD h)] [⟨0, 0, 24, 24, .b ⟨W.map dB, 5, true⟩⟩, ⟨8, 8, 80, 80, .b ⟨[iD 16, iD 17, iD 18, iD 0, iD 8, iD 7, iD 9, iD 6, iD 10, iD 5, iD 11, iD 4, iD 12, iD 3, iD 13, iD 2, iD 14, iD 1, iD 15], 142, false⟩⟩] 16⟩] 1000 64 (fun | ⟨i, hi, hS, _⟩, Q, next1, last1 => (.s 4 (.br (decide ((↑i : Int) < (↑h : Int))) (fun p0 => have p0f := odt p0; (.s 5 (.ow (3 * (↑i : Int)) (.s 2 (.ow ((↑p : Int) + 3 * (↑i : Int)) (.s 1 (.call 51 false [] (true) wr ([D.sl false n 1 (List.map dB b), iD ((↑p : Int) + 3 * (↑i : Int)), iD 3]) _ zhx1 (true) wr _ _ _ (CallOk.fn (FnOk.of Try.func51 rfl rfl) (@rTake (b) (n) om om (p + 3 * i) (3) (by (simp; done)) zhx2)) (.s 10 (.br ((↑(tkE b (p + 3 * i) 3) : Int) != 0) (fun p1 => have p1f := of_bne_t p1; (.abs (by ( have q := sh_e hr om hS om; rw [q] at h0; exact absurd (show tkE b (p + 3 * i) 3 = 0 from h0) om)))) (fun p1 => have p1f := of_bne_f p1; (.s 3 (.chk (true && decide ((↑i : Int) < (↑19 : Int))) (by (refine decide_eq_true ?_; (omega))) (.s 3 (.opt ((List.map nD ordL)[0 + i * 1]?) (nD (ordN i)) (@ord_z i om) (.s 2 (.opt (wrapO .u8 (↑(tkV b (p + 3 * i) 3) : Int)) (D.v (Value.int .u8 ((↑(tkV b (p + 3 * i) 3) : Int) % 256))) (wrapO_eq _ _) (.s 1 (.chk (true && decide ((↑(ordN i) : Int) < (↑19 : Int))) (by (refine decide_eq_true ?_;  have h9 := ord_lt i; omega)) (.s 1 (.chk (true && Nat.ble (0 + ordN i * 1 + 1) (List.length (List.map dB (rwL b (Rs.mk p 0) i)))) zhx3 (.lst (setSeg (List.map dB (rwL b (Rs.mk p 0) i)) (0 + ordN i * 1) [D.v (Value.int .u8 ((↑(tkV b (p + 3 * i) 3) : Int) % 256))]) (setSeg (List.map dB (rwL b (Rs.mk p 0) i)) (ordN i) [D.v (Value.int .u8 ((↑(tkV b (p + 3 * i) 3) : Int) % 256))]) (by (simp; done)) (.s 3 (.ow ((↑i : Int) + 1) (.s 1 (.val 11 (iD ((↑i : Int) + 1)) (nD (i + 1)) (by (refine iv_eq ?_; (omega))) (.blk 0 0 (Blk.mk (setSeg (List.map dB (rwL b (Rs.mk p 0) i)) (ordN i) [D.v (Value.int .u8 ((↑(tkV b (p + 3 * i) 3) : Int) % 256))]) 5 true) (Blk.mk (List.map dB (rwL b (Rs.mk p 0) (i + 1))) 5 true) zhx4 (Hn.next next1 ⟨(i + 1), om, (by ( exact sh_s hS om)), ⟨⟩⟩ (by show h - (i + 1) < h - i; clear next1 last1; omega) [(0, 0), (8, 8)] ro))))))))))))))))))))))))))) (fun p0 => have p0f := odf p0; (.val 11 (nD i) (nD h) zhx0 (.blk 0 0 (Blk.mk (List.map dB (rwL b (Rs.mk p 0) i)) 5 true) (Blk.mk (List.map dB (rwL b (Rs.mk p 0) h)) 5 true) zhx0 (Hn.last last1 0 (⟨(rwL b (rs0 p) h), (by (exact rwL_len _ _ _)), (by ( exact shF hr om hS)), ⟨⟩⟩ : (W : List UInt8) ×' (hl : W.length = 19) ×' (hF : ShF W r p h) ×' Unit) rfl [(0, 0), (8, 8)] ro))))))) (fun | ⟨i, hi, hS, _⟩ => by kernel_rfl) ⟨(0), om, (by exact rfl), ⟨⟩⟩ [(24, 24), (80, 80)] ro (hs1 (fun | ⟨W, hl, hF, _⟩ => (.s 2 (.call 87 false [] (true && (true && Nat.ble 19 (List.length (List.map dB W)) && true && closedL (bif true && Nat.beq 19 (List.length (List.map dB W)) then List.map dB W else List.take 19 (List.drop 0 (List.map dB W)))) && true) (by (simp [hl]; done)) ([D.sl true 19 1 (bif true && Nat.beq 19 (List.length (List.map dB W)) then List.map dB W else List.take 19 (List.drop 0 (List.map dB W))), iD 7]) _ zhx5 (true) wr _ _ _ (CallOk.fn (FnOk.of Try.func87 rfl rfl) (@rCan (W) (19) om om (7) (by (simp [hl]; done)))) (.s 4 (.br ((↑(canE W 7) : Int) != 0) (fun p2 => have p2f := of_bne_t p2; (.abs (by ( have q := hF.a om; rw [q] at h0; exact absurd h0 (by decide))))) (fun p2 => have p2f := of_bne_f p2; (.s 2 (.call 117 false [] (true && (true && Nat.ble 19 (List.length (List.map dB W)) && true && closedL (bif true && Nat.beq 19 (List.length (List.map dB W)) then List.map dB W else List.take 19 (List.drop 0 (List.map dB W)))) && true) (by (simp [hl]; done)) ([D.sl true 19 1 (bif true && Nat.beq 19 (List.length (List.map dB W)) then List.map dB W else List.take 19 (List.drop 0 (List.map dB W)))]) _ zhx6 (true) wr _ _ _ (CallOk.fn (FnOk.of Try.func117 rfl rfl) (@rWhole (W) (19) om om (by ( exact hF.b om)) om)) (.s 3 (.br (!(↑(kraft W) : Int) == 32768) (fun p3 => have p3f := of_beq_f (not_t p3); (.abs (by ( have q := hF.c om om; rw [q] at h0; exact absurd h0 (by decide))))) (fun p3 => have p3f := eq_of_beq (not_f p3); (.s 5 (.ow (3 * (↑h : Int)) (.s 2 (.ow ((↑p : Int) + 3 * (↑h : Int)) (.s 3 (.out [0] [0] (D.tup [D.ref 0 0 0 19 1, iD ((↑p : Int) + 3 * (↑h : Int)), iD 0]) [Blk.mk (List.map dB W) 5 true] R (ok _ _ (by ( have q := hF.d om om; rw [q]; first | done | rfl)) (by ( have q := hF.d om om; rw [q]; first | done | rfl)))))))))))))))))))))))) (by kernel_rfl)
theorem rSh_e (b : List UInt8) (n : Nat) (hn : n = b.length) (hN : n ≤ 1000000) (p : Nat) (hp : p ≤ 8 * n) (h : Nat) (hh : h ≤ 19) (r : List UInt8 × Nat × Nat) (hr : shR b p h = r) (h0 : r.2.2 ≠ 0) : SpecH false Try.prog 85 [.sl false n 1 (b.map dB), nD p, nD h] [] (.tup [nilD, iD 0, nD r.2.2]) [] := by
  refine SpecH.run T_ok mixed Try.func85 rfl rfl rfl trivial rfl 1000 64 (fun R ok => (.s 24 (Hn.inl T_ok mixed false 53 0 (loopAt Try.prog 85 0) (fun (x : (i : Nat) ×' (hi : i ≤ h) ×' (hS : rwS b (rs0 p) i = rs0 (p + 3 * i)) ×' Unit) => match x with | ⟨i, hi, hS, _⟩ => CutS.mk [(0, D.sl false n 1 (List.map dB b)), (1, nD p), (2, nD h), (9, D.ref 0 0 0 19 1), (10, D.ptr 8 8 0), (11, nD i)] [⟨0, 0, 24, 24, .b ⟨(rwL b (rs0 p) i).map dB, 5, true⟩⟩, ⟨8, 8, 80, 80, .b ⟨[iD 16, iD 17, iD 18, iD 0, iD 8, iD 7, iD 9, iD 6, iD 10, iD 5, iD 11, iD 4, iD 12, iD 3, iD 13, iD 2, iD 14, iD 1, iD 15], 142, false⟩⟩] 16) (fun (x : (i : Nat) ×' (hi : i ≤ h) ×' (hS : rwS b (rs0 p) i = rs0 (p + 3 * i)) ×' Unit) => match x with | ⟨i, hi, hS, _⟩ => h - i) [⟨(W : List UInt8) ×' (hl : W.length = 19) ×' (hF : ShF W r p h) ×' Unit, .exit 0, fun x => match x with | ⟨W, hl, hF, _⟩ => CutS.mk [(0, D.sl false n 1 (List.map dB b)), (1, nD p), (2, nD h), (9, D.ref 0 0 0 19 1), (10, D.ptr 8 8 0), (11, nD h)] [⟨0, 0, 24, 24, .b ⟨W.map dB, 5, true⟩⟩, ⟨8, 8, 80, 80, .b ⟨[iD 16, iD 17, iD 18, iD 0, iD 8, iD 7, iD 9, iD 6, iD 10, iD 5, iD 11, iD 4, iD 12, iD 3, iD 13, iD 2, iD 14, iD 1, iD 15], 142, false⟩⟩] 16⟩, ⟨Unit, .ret, fun x => match x with | () => CutS.mk [(6, nilD), (7, iD 0), (8, nD r.2.2)] [⟨8, 8, 80, 80, .b ⟨[iD 16, iD 17, iD 18, iD 0, iD 8, iD 7, iD 9, iD 6, iD 10, iD 5, iD 11, iD 4, iD 12, iD 3, iD 13, iD 2, iD 14, iD 1, iD 15], 142, false⟩⟩] 16⟩] 1000 64 (fun | ⟨i, hi, hS, _⟩, Q, next1, last1 => (.s 4 (.br (decide ((↑i : Int) < (↑h : Int))) (fun p0 => have p0f := odt p0; (.s 5 (.ow (3 * (↑i : Int)) (.s 2 (.ow ((↑p : Int) + 3 * (↑i : Int)) (.s 1 (.call 51 false [] (true) wr ([D.sl false n 1 (List.map dB b), iD ((↑p : Int) + 3 * (↑i : Int)), iD 3]) _ zhx1 (true) wr _ _ _ (CallOk.fn (FnOk.of Try.func51 rfl rfl) (@rTake (b) (n) om om (p + 3 * i) (3) (by (simp; done)) zhx2)) (.s 10 (.br ((↑(tkE b (p + 3 * i) 3) : Int) != 0) (fun p1 => have p1f := of_bne_t p1; (.s 4 (.val 8 (nD (tkE b (p + 3 * i) 3)) (nD (Prod.snd (Prod.snd r))) (by ( rw [sh_e hr om hS om]; first | done | rfl)) (Hn.last last1 1 (() : Unit) rfl [(8, 8)] ro)))) (fun p1 => have p1f := of_bne_f p1; (.s 3 (.chk (true && decide ((↑i : Int) < (↑19 : Int))) (by (refine decide_eq_true ?_; (omega))) (.s 3 (.opt ((List.map nD ordL)[0 + i * 1]?) (nD (ordN i)) (@ord_z i om) (.s 2 (.opt (wrapO .u8 (↑(tkV b (p + 3 * i) 3) : Int)) (D.v (Value.int .u8 ((↑(tkV b (p + 3 * i) 3) : Int) % 256))) (wrapO_eq _ _) (.s 1 (.chk (true && decide ((↑(ordN i) : Int) < (↑19 : Int))) (by (refine decide_eq_true ?_;  have h9 := ord_lt i; omega)) (.s 1 (.chk (true && Nat.ble (0 + ordN i * 1 + 1) (List.length (List.map dB (rwL b (Rs.mk p 0) i)))) zhx3 (.lst (setSeg (List.map dB (rwL b (Rs.mk p 0) i)) (0 + ordN i * 1) [D.v (Value.int .u8 ((↑(tkV b (p + 3 * i) 3) : Int) % 256))]) (setSeg (List.map dB (rwL b (Rs.mk p 0) i)) (ordN i) [D.v (Value.int .u8 ((↑(tkV b (p + 3 * i) 3) : Int) % 256))]) (by (simp; done)) (.s 3 (.ow ((↑i : Int) + 1) (.s 1 (.val 11 (iD ((↑i : Int) + 1)) (nD (i + 1)) (by (refine iv_eq ?_; (omega))) (.blk 0 0 (Blk.mk (setSeg (List.map dB (rwL b (Rs.mk p 0) i)) (ordN i) [D.v (Value.int .u8 ((↑(tkV b (p + 3 * i) 3) : Int) % 256))]) 5 true) (Blk.mk (List.map dB (rwL b (Rs.mk p 0) (i + 1))) 5 true) zhx4 (Hn.next next1 ⟨(i + 1), om, (by ( exact sh_s hS om)), ⟨⟩⟩ (by show h - (i + 1) < h - i; clear next1 last1; omega) [(0, 0), (8, 8)] ro))))))))))))))))))))))))))) (fun p0 => have p0f := odf p0; (.val 11 (nD i) (nD h) zhx0 (.blk 0 0 (Blk.mk (List.map dB (rwL b (Rs.mk p 0) i)) 5 true) (Blk.mk (List.map dB (rwL b (Rs.mk p 0) h)) 5 true) zhx0 (Hn.last last1 0 (⟨(rwL b (rs0 p) h), (by (exact rwL_len _ _ _)), (by ( exact shF hr om hS)), ⟨⟩⟩ : (W : List UInt8) ×' (hl : W.length = 19) ×' (hF : ShF W r p h) ×' Unit) rfl [(0, 0), (8, 8)] ro))))))) (fun | ⟨i, hi, hS, _⟩ => by kernel_rfl) ⟨(0), om, (by exact rfl), ⟨⟩⟩ [(24, 24), (80, 80)] ro (hs2 (fun | ⟨W, hl, hF, _⟩ => (.s 2 (.call 87 false [] (true && (true && Nat.ble 19 (List.length (List.map dB W)) && true && closedL (bif true && Nat.beq 19 (List.length (List.map dB W)) then List.map dB W else List.take 19 (List.drop 0 (List.map dB W)))) && true) (by (simp [hl]; done)) ([D.sl true 19 1 (bif true && Nat.beq 19 (List.length (List.map dB W)) then List.map dB W else List.take 19 (List.drop 0 (List.map dB W))), iD 7]) _ zhx5 (true) wr _ _ _ (CallOk.fn (FnOk.of Try.func87 rfl rfl) (@rCan (W) (19) om om (7) (by (simp [hl]; done)))) (.s 4 (.br ((↑(canE W 7) : Int) != 0) (fun p2 => have p2f := of_bne_t p2; (.s 9 (.out [] [] (D.tup [nilD, iD 0, iD 132]) [] R (ok _ _ (by ( have q := hF.a om; rw [q]; first | done | rfl)) wr)))) (fun p2 => have p2f := of_bne_f p2; (.s 2 (.call 117 false [] (true && (true && Nat.ble 19 (List.length (List.map dB W)) && true && closedL (bif true && Nat.beq 19 (List.length (List.map dB W)) then List.map dB W else List.take 19 (List.drop 0 (List.map dB W)))) && true) (by (simp [hl]; done)) ([D.sl true 19 1 (bif true && Nat.beq 19 (List.length (List.map dB W)) then List.map dB W else List.take 19 (List.drop 0 (List.map dB W)))]) _ zhx6 (true) wr _ _ _ (CallOk.fn (FnOk.of Try.func117 rfl rfl) (@rWhole (W) (19) om om (by ( exact hF.b om)) om)) (.s 3 (.br (!(↑(kraft W) : Int) == 32768) (fun p3 => have p3f := of_beq_f (not_t p3); (.s 3 (.out [] [] (D.tup [nilD, iD 0, iD 132]) [] R (ok _ _ (by ( have q := hF.c om om; rw [q]; first | done | rfl)) wr)))) (fun p3 => have p3f := eq_of_beq (not_f p3); (.abs (by ( have q := hF.d om om; rw [q] at h0; exact absurd rfl h0)))))))))))))) (fun | () => (.out [] [] (D.tup [nilD, iD 0, nD (Prod.snd (Prod.snd r))]) [] R (ok _ _ wr wr))))))) (by kernel_rfl)
theorem sh_len {b : List UInt8} {p h : Nat} {r : List UInt8 × Nat × Nat} (hr : shR b p h = r) : (r.2.2 = 0 → r.1.length = 19) ∧ (r.2.2 ≠ 0 → r = ([], 0, r.2.2)) := by
  by_cases h1 : (rwS b (rs0 p) h).e = 0
  · by_cases h2 : canE (rwL b (rs0 p) h) 7 ≠ 0 ∨ kraft (rwL b (rs0 p) h) ≠ 32768
    · rw [sh_2 hr h1 h2]; exact ⟨fun q => absurd q (by decide), fun _ => rfl⟩
    · rw [sh_3 hr h1 (by omega) (by omega)]; exact ⟨fun _ => rwL_len _ _ _, fun q => absurd rfl q⟩
  · rw [sh_1 hr h1]; exact ⟨fun q => absurd q (by decide), fun _ => rfl⟩
theorem rSh_t (b : List UInt8) (n : Nat) (hn : n = b.length) (hN : n ≤ 1000000) (p : Nat) (hp : p ≤ 8 * n) (h : Nat) (hh : h ≤ 19) (r : List UInt8 × Nat × Nat) (hr : shR b p h = r) : SpecH false Try.prog 85 [.sl false n 1 (b.map dB), nD p, nD h] [] (.tup [.ref 0 0 0 r.1.length 1, nD r.2.1, nD r.2.2]) [⟨r.1.map dB, 5, true⟩] := by
  by_cases h0 : r.2.2 = 0
  · have h1 := rSh_o b n hn hN p hp h hh r hr h0
    rw [h0, (sh_len hr).1 h0]; exact h1
  · have h1 := rSh_e b n hn hN p hp h hh r hr h0
    rw [(sh_len hr).2 h0]
    exact SpecH.nilA h1 _ (simN.tup ⟨simN.nil 0 1, simN.refl 0 _, simN.refl 0 _, trivial⟩)
end Vp
end Go.Proofs.Ytegjeagfcfhbeaa
namespace Go.Proofs.Ytegjeagfcfhbeaa
open Go.RowKit Go.Bw Go.Vx
namespace Vp
set_option linter.unusedVariables false
set_option linter.unusedSimpArgs false
set_option maxRecDepth 100000
set_option maxHeartbeats 4000000
theorem num_add (b : List UInt8) (p a : Nat) : ∀ c, numB b p (a + c) = numB b p a + 2 ^ a * numB b (p + a) c
  | 0 => by rw [numB, Nat.mul_zero]; rfl
  | c + 1 => by
    rw [← Nat.add_assoc, numB, numB, num_add b p a c, Nat.pow_add, Nat.mul_add, Nat.mul_assoc, Nat.add_assoc, Nat.add_assoc]
theorem tk_add {b : List UInt8} {p a c : Nat} (h : tkE b p (a + c) = 0) : tkE b p a = 0 ∧ tkE b (p + a) c = 0 ∧ tkV b p (a + c) = tkV b p a + 2 ^ a * tkV b (p + a) c := by
  have h1 := tkE_le h
  refine ⟨tkE_1 (by omega), tkE_1 (by omega), ?_⟩
  rw [tkV_1 (by omega), tkV_1 (by omega), tkV_1 (by omega), num_add]
theorem ts_add {b : List UInt8} {p a c : Nat} (h : tkE b p (a + c) = 0) : tkS b a (rs0 p) = rs0 (p + a) ∧ tkS b c (rs0 (p + a)) = rs0 (p + a + c) := by
  have h1 := tk_add h
  rw [tkS_0 rfl, tkS_0 rfl, h1.1, h1.2.1]; exact ⟨rfl, rfl⟩
theorem ts_bad {b : List UInt8} {p a c : Nat} (h : tkE b p (a + c) ≠ 0) : (tkS b c (tkS b a (rs0 p))).e = 10 := by
  have h1 : 8 * b.length < p + (a + c) := by
    rcases Nat.lt_or_ge (8 * b.length) (p + (a + c)) with q | q
    · exact q
    · exact absurd (tkE_1 (by omega)) h
  by_cases h2 : tkE b p a = 0
  · rw [tkS_0 (s := rs0 p) rfl, h2]
    have : tkS b c ⟨p + a, 0⟩ = ⟨p + a + c, tkE b (p + a) c⟩ := tkS_0 rfl
    rw [this]; exact tkE_0 (by omega)
  · have e : tkS b a (rs0 p) = ⟨p + a, tkE b p a⟩ := tkS_0 rfl
    rw [e, tkS_x (s := ⟨p + a, tkE b p a⟩) h2]; exact tkE_10 h2
theorem dy_num {b : List UInt8} {p : Nat} (h : tkE b p 14 = 0) : tkN b 5 (rs0 p) = tkV b p 14 % 32 ∧ tkS b 5 (rs0 p) = rs0 (p + 5) ∧ tkN b 5 (rs0 (p + 5)) = tkV b p 14 / 32 % 32 ∧ tkS b 5 (rs0 (p + 5)) = rs0 (p + 10) ∧ tkN b 4 (rs0 (p + 10)) = tkV b p 14 / 1024 ∧ tkS b 4 (rs0 (p + 10)) = rs0 (p + 14) := by
  have a1 := tk_add (b := b) (p := p) (a := 5) (c := 9) h
  have a2 := tk_add (b := b) (p := p + 5) (a := 5) (c := 4) a1.2.1
  have b1 := ts_add (b := b) (p := p) (a := 5) (c := 9) h
  have b2 := ts_add (b := b) (p := p + 5) (a := 5) (c := 4) a1.2.1
  have e1 : tkN b 5 (rs0 p) = tkV b p 5 := tkN_0 rfl
  have e2 : tkN b 5 (rs0 (p + 5)) = tkV b (p + 5) 5 := tkN_0 rfl
  have e3 : tkN b 4 (rs0 (p + 10)) = tkV b (p + 10) 4 := tkN_0 rfl
  have l1 := tkV_lt b p 5
  have l2 := tkV_lt b (p + 5) 5
  have v1 : tkV b p 14 = tkV b p 5 + 2 ^ 5 * tkV b (p + 5) 9 := a1.2.2
  have v2 : tkV b (p + 5) 9 = tkV b (p + 5) 5 + 2 ^ 5 * tkV b (p + 10) 4 := a2.2.2
  have p1 : (2 : Nat) ^ 5 = 32 := rfl
  rw [e1, e2, e3]
  exact ⟨by omega, b1.1, by omega, b2.1, by omega, b2.2⟩
theorem fl_132 {s : Rs} {c : Bool} (h : s.e = 0) (hc : c = false) : (fl s c 132).e = 132 := by rw [hc, fl_f h]
def lvU (l : List UInt8) (k : Nat) : Nat → Nat
  | 0 => 0
  | a + 1 => lvU l k a + (if a = 0 then 0 else (posT l a k).length)
theorem lvU_at (l : List UInt8) : ∀ a, lvU l l.length a = (symsT l a).length
  | 0 => rfl
  | a + 1 => by
    rw [lvU, symsT, lvU_at l a, List.length_append]
    by_cases h : a = 0
    · rw [if_pos h, if_pos h]; rfl
    · rw [if_neg h, if_neg h]
theorem lvU_zero (l : List UInt8) : ∀ a, lvU l 0 a = 0
  | 0 => rfl
  | a + 1 => by
    have : posT l a 0 = [] := rfl
    rw [lvU, lvU_zero l a, this]; split <;> rfl
theorem lvU_succ (l : List UInt8) (k : Nat) : ∀ a, lvU l (k + 1) a = lvU l k a + (if (l.getD k default).toNat ≠ 0 ∧ (l.getD k default).toNat < a then 1 else 0)
  | 0 => by rw [lvU, lvU, if_neg (fun q => Nat.not_lt_zero _ q.2)]
  | a + 1 => by
    rw [lvU, lvU, lvU_succ l k a, posT_succ]
    generalize (l.getD k default).toNat = x
    by_cases h0 : a = 0
    · rw [if_pos h0, if_pos h0, if_neg (fun q => by omega), if_neg (fun q => by omega)]
    · rw [if_neg h0, if_neg h0]
      by_cases h : x = a
      · subst h
        rw [if_pos rfl, if_neg (fun q => by omega), if_pos ⟨h0, by omega⟩, List.length_append, List.length_singleton]; omega
      · rw [if_neg h, List.append_nil]
        by_cases h2 : x ≠ 0 ∧ x < a
        · rw [if_pos h2, if_pos (by omega)]; omega
        · rw [if_neg h2, if_neg (by omega)]; omega
theorem used_syms {l : List UInt8} (ho : overB l 15 = false) : (symsL l).length = usedN l := by
  have key : ∀ k, k ≤ l.length → lvU l k 16 = usedN (l.take k) := by
    intro k
    induction k with
    | zero => intro _; exact lvU_zero l 16
    | succ k ih =>
      intro hk
      have hx := over_le ho (i := k) (by omega)
      rw [lvU_succ, ih (by omega), usedN_snoc (by omega)]
      by_cases q : (l.getD k default).toNat = 0
      · rw [if_neg (fun z => z.1 q), if_pos q]
      · rw [if_pos ⟨q, by omega⟩, if_neg q]
  have h := key l.length (Nat.le_refl _)
  rw [List.take_length, lvU_at, ← symsL_eq] at h; exact h
theorem whole_iff {l : List UInt8} {m : Nat} (h : canE l m = 0) (hm : m ≤ 15) : kraft l = 32768 ↔ 1 < (symsL l).length := by
  have ho := over_up (canE_0 h).2.1 hm
  rw [used_syms ho]
  have hk : kraft l = 32768 ∨ usedN l = 0 ∨ usedN l = 1 ∧ kraft l = 16384 := by
    rw [canE_eq] at h; unfold canD at h
    split at h
    · cases h
    · split at h
      · cases h
      · split at h
        · cases h
        · split at h
          · assumption
          · cases h
  constructor
  · intro q
    rcases Nat.lt_or_ge 1 (usedN l) with z | z
    · exact z
    · exfalso
      rcases Nat.eq_zero_or_pos (usedN l) with z0 | z0
      · have := (kr_zero z0).1; omega
      · have z1 : usedN l = 1 := by omega
        have hex : ∃ i, i < l.length ∧ (l.getD i default).toNat ≠ 0 := by
          apply Classical.byContradiction
          intro hno
          have : ∀ k, k ≤ l.length → usedN (l.take k) = 0 := by
            intro k
            induction k with
            | zero => intro _; rfl
            | succ k ih =>
              intro hk
              rw [usedN_snoc (by omega), ih (by omega), if_pos]
              apply Classical.byContradiction
              exact fun q => hno ⟨k, by omega, q⟩
          have := this l.length (Nat.le_refl _)
          rw [List.take_length] at this; omega
        obtain ⟨i, h1, h2⟩ := hex
        have h3 := kr_one z1 h1 h2
        have : 2 ^ (15 - (l.getD i default).toNat) ≤ 2 ^ 14 := Nat.pow_le_pow_right (by decide) (by omega)
        omega
  · intro q
    rcases hk with hk | hk | hk
    · exact hk
    · omega
    · omega
structure DyE (b : List UInt8) (p g f h : Nat) (s l : List UInt8 × Nat × Nat) (e : Nat) : Prop where
  f1 : tkE b p 14 ≠ 0 → e = tkE b p 14
  f2 : tkE b p 14 = 0 → (29 < g ∨ 29 < f) → e = 132
  f3 : tkE b p 14 = 0 → g ≤ 29 → f ≤ 29 → s.2.2 ≠ 0 → e = s.2.2
  f4 : tkE b p 14 = 0 → g ≤ 29 → f ≤ 29 → s.2.2 = 0 → l.2.2 ≠ 0 → e = l.2.2
  f5 : tkE b p 14 = 0 → g ≤ 29 → f ≤ 29 → s.2.2 = 0 → l.2.2 = 0 → ((l.1.getD 256 default).toNat = 0 ∨ canE (l.1.take (g + 257)) 15 ≠ 0 ∨ canE (l.1.drop (g + 257)) 15 ≠ 0) → e = 132
  f6 : tkE b p 14 = 0 → g ≤ 29 → f ≤ 29 → s.2.2 = 0 → l.2.2 = 0 → (l.1.getD 256 default).toNat ≠ 0 → canE (l.1.take (g + 257)) 15 = 0 → canE (l.1.drop (g + 257)) 15 = 0 → e = 0
  s1 : tkE b p 14 = 0 → s.2.2 = 0 → s.1.length = 19 ∧ canE s.1 15 = 0 ∧ s.2.1 ≤ 8 * b.length
  l1 : tkE b p 14 = 0 → s.2.2 = 0 → l.2.2 = 0 → l.1.length = g + 257 + (f + 1) ∧ l.2.1 ≤ 8 * b.length
  gf : g < 32 ∧ f < 32 ∧ h < 16
structure DyO (r : Rs × List UInt8 × List UInt8) (g : Nat) (l : List UInt8 × Nat × Nat) (e : Nat) : Prop where
  h1 : r.1.e = e
  h2 : e = 0 → r = (rs0 l.2.1, l.1.take (g + 257), l.1.drop (g + 257))
theorem dyG_bad {b : List UInt8} {g f q : Nat} {W : List UInt8} (h : canE W 7 ≠ 0 ∨ kraft W ≠ 32768) : (dyG b g f (rs0 q) W).1.e = 132 := by
  unfold dyG
  dsimp only
  have e7 : (fl (fl (rs0 q) (((canE W 7 : Nat) : Int) == 0) 132) (decide ((1 : Int) < (((symsL (okL W 7)).length : Nat) : Int))) 132).e = 132 := by
    by_cases h1 : canE W 7 = 0
    · rw [h1, show fl (rs0 q) ((((0 : Nat)) : Int) == 0) 132 = rs0 q from fl_t, okL_y h1]
      have h2 : ¬ 1 < (symsL W).length := fun z => h.elim (fun y => y h1) (fun y => y ((whole_iff h1 (by decide)).2 z))
      exact fl_132 rfl (decide_eq_false (by omega))
    · rw [show (((canE W 7 : Nat) : Int) == 0) = false from by simp; omega, fl_f rfl, fl_x (show (132 : Nat) ≠ 0 by decide)]
  generalize fl (fl (rs0 q) (((canE W 7 : Nat) : Int) == 0) 132) (decide ((1 : Int) < (((symsL (okL W 7)).length : Nat) : Int))) 132 = s7 at *
  have hx : s7.e ≠ 0 := by omega
  rw [lnS_x hx, if_pos hx]; exact e7
theorem fl_s {s : Rs} {x : Nat} (h : s.e ≠ 0) : ∀ c : Bool, (fl s c x) = s := fun c => fl_x h
theorem dyG_at {b : List UInt8} {g f q : Nat} {W : List UInt8} (hl : W.length = 19) (h1 : canE W 7 = 0) (h2 : kraft W = 32768) {l : List UInt8 × Nat × Nat} (hL : dlR b W (g + 257 + (f + 1)) q = l) :
    (l.2.2 ≠ 0 → (dyG b g f (rs0 q) W).1.e = l.2.2) ∧
    (l.2.2 = 0 → ((l.1.getD 256 default).toNat = 0 ∨ canE (l.1.take (g + 257)) 15 ≠ 0 ∨ canE (l.1.drop (g + 257)) 15 ≠ 0) → (dyG b g f (rs0 q) W).1.e = 132) ∧
    (l.2.2 = 0 → (l.1.getD 256 default).toNat ≠ 0 → canE (l.1.take (g + 257)) 15 = 0 → canE (l.1.drop (g + 257)) 15 = 0 → dyG b g f (rs0 q) W = (rs0 l.2.1, l.1.take (g + 257), l.1.drop (g + 257))) ∧
    (l.2.2 = 0 → l.1.length = g + 257 + (f + 1) ∧ (lnS b W (g + 257 + (f + 1)) (rs0 q)).e = 0 ∧ l.2.1 = (lnS b W (g + 257 + (f + 1)) (rs0 q)).p) := by
  have h3 : 1 < (symsL W).length := (whole_iff h1 (by decide)).1 h2
  have e7 : fl (fl (rs0 q) (((canE W 7 : Nat) : Int) == 0) 132) (decide ((1 : Int) < (((symsL (okL W 7)).length : Nat) : Int))) 132 = rs0 q := by
    rw [h1, show fl (rs0 q) ((((0 : Nat)) : Int) == 0) 132 = rs0 q from fl_t, okL_y h1, decide_eq_true (by omega), fl_t]
  have hd := dl_lnR b W (by omega) (g + 257 + (f + 1)) q
  rw [hL] at hd
  unfold dyG
  dsimp only
  rw [e7, okL_y h1]
  by_cases c : (lnS b W (g + 257 + (f + 1)) (rs0 q)).e = 0
  · have hd := hd.1 c
    have hlen := lnO_len c
    subst hd
    rw [if_neg (by omega)]
    generalize hs8 : lnS b W (g + 257 + (f + 1)) (rs0 q) = s8 at *
    generalize hoo : lnO b W (g + 257 + (f + 1)) (rs0 q) = o at *
    have ed : (o.drop (g + 257)).take (g + 257 + (f + 1) - (g + 257)) = o.drop (g + 257) := List.take_of_length_le (by rw [List.length_drop]; omega)
    rw [ed, List.drop_zero]
    have hs : s8 = rs0 s8.p := by
      cases s8; simp only at c; subst c; rfl
    refine ⟨fun z => absurd rfl z, fun _ z => ?_, fun _ z1 z2 z3 => ?_, fun _ => ⟨hlen, c, rfl⟩⟩
    · show (fl (fl (fl (fl s8 _ 132) _ 132) _ 132) _ 132).e = 132
      by_cases y1 : (o.getD 256 default).toNat = 0
      · have e9 : (fl s8 (decide ((0 : Int) < (((o.getD 256 default).toNat : Nat) : Int))) 132).e = 132 := fl_132 c (decide_eq_false (by omega))
        rw [fl_s (s := fl s8 _ 132) (by omega), fl_s (s := fl s8 _ 132) (by omega), fl_s (s := fl s8 _ 132) (by omega)]; exact e9
      · have e9 : fl s8 (decide ((0 : Int) < (((o.getD 256 default).toNat : Nat) : Int))) 132 = s8 := by rw [decide_eq_true (by omega), fl_t]
        rw [e9]
        by_cases y2 : canE (o.take (g + 257)) 15 = 0
        · have e10 : ∀ s : Rs, fl s (((canE (o.take (g + 257)) 15 : Nat) : Int) == 0) 132 = s := fun s => by rw [y2]; exact fl_t
          rw [e10, e10]
          exact fl_132 c (by
            have : canE (o.drop (g + 257)) 15 ≠ 0 := by
              rcases z with z | z | z
              · exact absurd z y1
              · exact absurd y2 z
              · exact z
            simp; omega)
        · have e10 : (fl s8 (((canE (o.take (g + 257)) 15 : Nat) : Int) == 0) 132).e = 132 := fl_132 c (by simp; omega)
          rw [fl_s (s := fl s8 _ 132) (by omega), fl_s (s := fl s8 _ 132) (by omega)]; exact e10
    · show (fl (fl (fl (fl s8 _ 132) _ 132) _ 132) _ 132, okL (o.take (g + 257)) 15, okL (o.drop (g + 257)) 15) = _
      rw [okL_y z2, okL_y z3, decide_eq_true (show (0 : Int) < (((o.getD 256 default).toNat : Nat) : Int) by have z1 : (o.getD 256 default).toNat ≠ 0 := z1; omega), fl_t, z2, z3]
      have e10 : ∀ s : Rs, fl s ((((0 : Nat)) : Int) == 0) 132 = s := fun s => fl_t
      rw [e10, e10, e10]
      exact congrArg (fun z => (z, o.take (g + 257), o.drop (g + 257))) hs
  · have hd := hd.2 c
    subst hd
    rw [if_pos c]
    exact ⟨fun _ => rfl, fun z => absurd z c, fun z => absurd z c, fun z => absurd z c⟩
theorem sh_ok {b : List UInt8} {p h : Nat} (hp : p ≤ 8 * b.length) : (shR b p h).2.2 = 0 → (rwS b (rs0 p) h).e = 0 ∧ canE (rwL b (rs0 p) h) 7 = 0 ∧ kraft (rwL b (rs0 p) h) = 32768 ∧ shR b p h = (rwL b (rs0 p) h, p + 3 * h, 0) := fun q => by
  by_cases h1 : (rwS b (rs0 p) h).e = 0
  · by_cases h2 : canE (rwL b (rs0 p) h) 7 ≠ 0 ∨ kraft (rwL b (rs0 p) h) ≠ 32768
    · rw [sh_2 rfl h1 h2] at q; cases q
    · exact ⟨h1, by omega, by omega, sh_3 rfl h1 (by omega) (by omega)⟩
  · rw [sh_1 rfl h1] at q; cases q
theorem rw_ok {b : List UInt8} {p : Nat} : ∀ i, (rwS b (rs0 p) i).e = 0 → rwS b (rs0 p) i = rs0 (p + 3 * i)
  | 0, _ => rfl
  | i + 1, h => by
    have h0 : (rwS b (rs0 p) i).e = 0 := by
      rcases Classical.em ((rwS b (rs0 p) i).e = 0) with q | q
      · exact q
      · rw [rwS_st q 1] at h; exact h
    have hS := rw_ok i h0
    refine sh_s hS ?_
    rw [rwS, hS, tkS_0 (s := rs0 (p + 3 * i)) rfl] at h
    exact h
theorem sh_132 {b : List UInt8} {p h : Nat} (q : (shR b p h).2.2 ≠ 0) : ((rwS b (rs0 p) h).e ≠ 0 ∧ (shR b p h).2.2 = (rwS b (rs0 p) h).e) ∨ ((rwS b (rs0 p) h).e = 0 ∧ (shR b p h).2.2 = 132 ∧ (canE (rwL b (rs0 p) h) 7 ≠ 0 ∨ kraft (rwL b (rs0 p) h) ≠ 32768)) := by
  by_cases h1 : (rwS b (rs0 p) h).e = 0
  · right
    by_cases h2 : canE (rwL b (rs0 p) h) 7 ≠ 0 ∨ kraft (rwL b (rs0 p) h) ≠ 32768
    · exact ⟨h1, by rw [sh_2 rfl h1 h2], h2⟩
    · rw [sh_3 rfl h1 (by omega) (by omega)] at q; exact absurd rfl q
  · left
    refine ⟨h1, ?_⟩
    rw [sh_1 rfl h1]
    have : ∀ i, (rwS b (rs0 p) i).e = 0 ∨ (rwS b (rs0 p) i).e = 10 := by
      intro i
      induction i with
      | zero => exact .inl rfl
      | succ i ih =>
        rcases ih with ih | ih
        · rw [rwS, rw_ok i ih, tkS_0 (s := rs0 (p + 3 * i)) rfl]
          show tkE b (p + 3 * i) 3 = 0 ∨ tkE b (p + 3 * i) 3 = 10
          rcases Classical.em (tkE b (p + 3 * i) 3 = 0) with z | z
          · exact .inl z
          · exact .inr (tkE_10 z)
        · rw [rwS, tkS_x (by omega)]; exact .inr ih
    rcases this h with z | z
    · exact absurd z h1
    · exact z.symm
theorem dy_st (b : List UInt8) (p : Nat) : ∃ e, DyE b p (tkV b p 14 % 32) (tkV b p 14 / 32 % 32) (tkV b p 14 / 1024) (shR b (p + 14) (tkV b p 14 / 1024 + 4)) (dlR b (shR b (p + 14) (tkV b p 14 / 1024 + 4)).1 (tkV b p 14 % 32 + 257 + (tkV b p 14 / 32 % 32 + 1)) (shR b (p + 14) (tkV b p 14 / 1024 + 4)).2.1) e ∧
    DyO (dyR b (rs0 p)) (tkV b p 14 % 32) (dlR b (shR b (p + 14) (tkV b p 14 / 1024 + 4)).1 (tkV b p 14 % 32 + 257 + (tkV b p 14 / 32 % 32 + 1)) (shR b (p + 14) (tkV b p 14 / 1024 + 4)).2.1) e := by
  have hv := tkV_lt b p 14
  have hgf : tkV b p 14 % 32 < 32 ∧ tkV b p 14 / 32 % 32 < 32 ∧ tkV b p 14 / 1024 < 16 := by
    have : (2 : Nat) ^ 14 = 16384 := rfl
    omega
  have hw : ∀ i, (rwL b (rs0 (p + 14)) i).length = 19 := fun i => rwL_len b _ i
  rw [dyR_g]
  by_cases t : tkE b p 14 = 0
  · obtain ⟨n1, n2, n3, n4, n5, n6⟩ := dy_num t
    have hp14 := tkE_le t
    have e4' : dyS4 b (rs0 p) = fl (rs0 (p + 14)) (decide (tkV b p 14 % 32 + 257 ≤ 286) && decide (tkV b p 14 / 32 % 32 + 1 ≤ 30)) 132 := by unfold dyS4; rw [n2, n1, n3, n4, n6]
    rw [n2, n1, n3, n4, n5, e4']
    generalize tkV b p 14 % 32 = g at *
    generalize tkV b p 14 / 32 % 32 = f at *
    generalize tkV b p 14 / 1024 = h at *
    have ho : (shR b (p + 14) (h + 4)).2.2 = 0 → (shR b (p + 14) (h + 4)).1.length = 19 ∧ canE (shR b (p + 14) (h + 4)).1 15 = 0 ∧ (shR b (p + 14) (h + 4)).2.1 ≤ 8 * b.length ∧ shR b (p + 14) (h + 4) = (rwL b (rs0 (p + 14)) (h + 4), p + 14 + 3 * (h + 4), 0) ∧ canE (rwL b (rs0 (p + 14)) (h + 4)) 7 = 0 ∧ kraft (rwL b (rs0 (p + 14)) (h + 4)) = 32768 := fun q => by
      obtain ⟨y1, y2, y3, y4⟩ := sh_ok (b := b) (p := p + 14) (h := h + 4) (by omega) q
      have yr := Rok.rw (b := b) (s := rs0 (p + 14)) (fun _ => by show p + 14 ≤ _; omega) (h + 4) y1
      rw [rw_ok _ y1] at yr
      rw [y4]
      refine ⟨hw _, ?_, yr, rfl, y2, y3⟩
      have := okL_15 (rwL b (rs0 (p + 14)) (h + 4)) (m := 7) (by decide)
      rwa [okL_y y2] at this
    have hl : (shR b (p + 14) (h + 4)).2.2 = 0 → (dlR b (shR b (p + 14) (h + 4)).1 (g + 257 + (f + 1)) (shR b (p + 14) (h + 4)).2.1).2.2 = 0 → (dlR b (shR b (p + 14) (h + 4)).1 (g + 257 + (f + 1)) (shR b (p + 14) (h + 4)).2.1).1.length = g + 257 + (f + 1) ∧ (dlR b (shR b (p + 14) (h + 4)).1 (g + 257 + (f + 1)) (shR b (p + 14) (h + 4)).2.1).2.1 ≤ 8 * b.length := fun q q2 => by
      obtain ⟨y1, _, y3, y4, y5, y6⟩ := ho q
      rw [y4] at q2 y3 ⊢
      have z := (dyG_at (b := b) (g := g) (f := f) (q := p + 14 + 3 * (h + 4)) (hw (h + 4)) y5 y6 rfl).2.2.2 q2
      refine ⟨z.1, ?_⟩
      rw [z.2.2]
      exact lnS_ok rfl (fun _ => y3) z.2.1
    by_cases c : 29 < g ∨ 29 < f
    · have hc : (decide (g + 257 ≤ 286) && decide (f + 1 ≤ 30)) = false := by
        rw [Bool.and_eq_false_iff, decide_eq_false_iff_not, decide_eq_false_iff_not]; omega
      rw [hc, fl_f rfl, rwS_x (show (132 : Nat) ≠ 0 by decide), dyG_x (show (132 : Nat) ≠ 0 by decide)]
      exact ⟨132, ⟨fun z => absurd t z, fun _ _ => rfl, fun _ z1 z2 => absurd c (by omega), fun _ z1 z2 => absurd c (by omega), fun _ z1 z2 => absurd c (by omega), fun _ z1 z2 => absurd c (by omega), fun _ z => ⟨(ho z).1, (ho z).2.1, (ho z).2.2.1⟩, fun _ => hl, hgf⟩, ⟨rfl, fun z => absurd z (by decide)⟩⟩
    · have hc : (decide (g + 257 ≤ 286) && decide (f + 1 ≤ 30)) = true := by
        rw [Bool.and_eq_true, decide_eq_true_eq, decide_eq_true_eq]; omega
      rw [hc, fl_t]
      by_cases cs : (shR b (p + 14) (h + 4)).2.2 = 0
      · obtain ⟨y1, y2, y3, y4, y5, y6⟩ := ho cs
        have hr := rw_ok (b := b) (p := p + 14) (h + 4) (sh_ok (b := b) (p := p + 14) (h := h + 4) (by omega) cs).1
        rw [hr]
        have z := dyG_at (b := b) (g := g) (f := f) (q := p + 14 + 3 * (h + 4)) (hw (h + 4)) y5 y6 rfl
        refine ⟨_, ⟨fun z => absurd t z, fun _ z => absurd z c, fun _ _ _ z => absurd cs z, fun _ _ _ _ => ?_, fun _ _ _ _ => ?_, fun _ _ _ _ q1 q2 q3 q4 => ?_, fun _ _ => ⟨y1, y2, y3⟩, fun _ => hl, hgf⟩, ⟨rfl, fun q => ?_⟩⟩
        · rw [y4]; exact z.1
        · rw [y4]; exact z.2.1
        · rw [y4] at q1 q2 q3 q4
          rw [z.2.2.1 q1 q2 q3 q4]
        · rw [y4]
          refine Classical.byContradiction fun hno => ?_
          by_cases q1 : (dlR b (rwL b (rs0 (p + 14)) (h + 4)) (g + 257 + (f + 1)) (p + 14 + 3 * (h + 4))).2.2 = 0
          · by_cases q2 : ((dlR b (rwL b (rs0 (p + 14)) (h + 4)) (g + 257 + (f + 1)) (p + 14 + 3 * (h + 4))).1.getD 256 default).toNat = 0 ∨ canE ((dlR b (rwL b (rs0 (p + 14)) (h + 4)) (g + 257 + (f + 1)) (p + 14 + 3 * (h + 4))).1.take (g + 257)) 15 ≠ 0 ∨ canE ((dlR b (rwL b (rs0 (p + 14)) (h + 4)) (g + 257 + (f + 1)) (p + 14 + 3 * (h + 4))).1.drop (g + 257)) 15 ≠ 0
            · have := z.2.1 q1 q2; omega
            · exact hno (z.2.2.1 q1 (by omega) (by omega) (by omega))
          · have := z.1 q1; omega
      · rcases sh_132 cs with ⟨z1, z2⟩ | ⟨z1, z2, z3⟩
        · rw [dyG_x z1]
          exact ⟨_, ⟨fun z => absurd t z, fun _ z => absurd z c, fun _ _ _ _ => z2.symm, fun _ _ _ z => absurd z cs, fun _ _ _ z => absurd z cs, fun _ _ _ z => absurd z cs, fun _ z => absurd z cs, fun _ z => absurd z cs, hgf⟩, ⟨rfl, fun z => absurd z z1⟩⟩
        · rw [rw_ok _ z1]
          have := dyG_bad (b := b) (g := g) (f := f) (q := p + 14 + 3 * (h + 4)) z3
          exact ⟨132, ⟨fun z => absurd t z, fun _ z => absurd z c, fun _ _ _ _ => z2.symm, fun _ _ _ z => absurd z cs, fun _ _ _ z => absurd z cs, fun _ _ _ z => absurd z cs, fun _ z => absurd z cs, fun _ z => absurd z cs, hgf⟩, ⟨this, fun z => absurd z (by decide)⟩⟩
  · have h3 : (tkS b 4 (tkS b 5 (tkS b 5 (rs0 p)))).e = 10 := by
      by_cases t1 : tkE b p 5 = 0
      · have e1 : tkS b 5 (rs0 p) = rs0 (p + 5) := by rw [tkS_0 rfl, t1]
        rw [e1]
        refine ts_bad (a := 5) (c := 4) ?_
        rcases Nat.lt_or_ge (8 * b.length) (p + 14) with q | q
        · rw [tkE_0 (by omega)]; decide
        · exact absurd (tkE_1 (by omega)) t
      · have e1 : tkS b 5 (rs0 p) = ⟨p + 5, tkE b p 5⟩ := tkS_0 rfl
        rw [e1, tkS_x (s := ⟨p + 5, tkE b p 5⟩) t1, tkS_x (s := ⟨p + 5, tkE b p 5⟩) t1]; exact tkE_10 t1
    have e4 : dyS4 b (rs0 p) = tkS b 4 (tkS b 5 (tkS b 5 (rs0 p))) := by unfold dyS4; rw [fl_x (by omega)]
    rw [e4, rwS_x (by omega), dyG_x (by omega)]
    exact ⟨10, ⟨fun z => (tkE_10 z).symm, fun z => absurd z t, fun z => absurd z t, fun z => absurd z t, fun z => absurd z t, fun z => absurd z t, fun z => absurd z t, fun z => absurd z t, hgf⟩, ⟨h3, fun z => absurd z (by decide)⟩⟩

end Vp
end Go.Proofs.Ytegjeagfcfhbeaa
namespace Go.Proofs.Ytegjeagfcfhbeaa
open Go.RowKit Go.Bw Go.Vx
namespace Vp
set_option linter.unusedVariables false
set_option linter.unusedSimpArgs false
set_option maxRecDepth 100000
set_option maxHeartbeats 4000000
theorem zu0 {p : Prop} (h : p := by (simp;  have q1 := hX.d1 om om; have q2 := hX.d2 om om om; omega)) : p := h
theorem zu1 {p : Prop} (h : p := by ( have q := hX.d1 om om; omega)) : p := h
theorem zu2 {p : Prop} (h : p := by ( have q := hX.d1 om om; have q2 := hX.d2 om om om; omega)) : p := h
theorem zu3 {p : Prop} (h : p := by ( rw [hX.x5 om om om om om om] <;> rfl)) : p := h
theorem zu4 {p : Prop} (h : p := by ( have q := hX.x5 om om om om om om; omega)) : p := h
theorem zu5 {p : Prop} (h : p := by exact (And.intro (D.sim.slw rfl (cond_t (by (simp; done)) |>.trans rfl)) (And.intro (D.sim.refl _) (And.intro (D.sim.refl _) (And.intro (D.sim.refl _) trivial))))) : p := h
theorem zu6 {p : Prop} (h : p := by exact (And.intro (D.sim.slw rfl ((seg_bytes (Prod.fst l) (0) (Int.toNat ((↑v : Int) % 32 + 257) * 1)).trans (by (simp; done)))) (And.intro (D.sim.refl _) trivial))) : p := h
theorem zu7 {p : Prop} (h : p := by exact (And.intro (D.sim.slw rfl (cond_f wr |>.trans (by (simp; done)))) (And.intro (D.sim.refl _) trivial))) : p := h
theorem rTkV_14 (b : List UInt8) (n : Nat) (hn : n = b.length) (hN : n ≤ 1000000) (p : Nat) (hp : p ≤ 8 * n) (v : Nat) (hv : tkV b p 14 = v) : SpecH false Try.prog 51 [.sl false n 1 (b.map dB), nD p, iD 14] [] (.tup [u32D v, nD (tkE b p 14)]) [] := by
  subst hv; exact rTake b n hn hN p 14 (by decide) (by omega)
theorem rShV (b : List UInt8) (n : Nat) (hn : n = b.length) (hN : n ≤ 1000000) (p h : Nat) (r : List UInt8 × Nat × Nat) (hr : shR b p h = r) (pi hi : Int) (hpi : pi = p) (hhi : hi = h) (hp : p ≤ 8 * n) (hh : h ≤ 19) : SpecH false Try.prog 85 [.sl false n 1 (b.map dB), iD pi, iD hi] [] (.tup [.ref 0 0 0 r.1.length 1, nD r.2.1, nD r.2.2]) [⟨r.1.map dB, 5, true⟩] := by
  subst hpi hhi; exact rSh_t b n hn hN p hp h hh r hr
theorem rLenV (b : List UInt8) (n : Nat) (hn : n = b.length) (hN : n ≤ 1000000) (l : List UInt8) (k : Nat) (hk : k = l.length) (p N : Nat) (r : List UInt8 × Nat × Nat) (hr : dlR b l N p = r) (Ni : Int) (hNi : Ni = N) (hl : k ≤ 19) (hT : canE l 15 = 0) (hp : p ≤ 8 * n) (hNN : N ≤ 320) : SpecH false Try.prog 86 [.sl false k 1 (l.map dB), .sl false n 1 (b.map dB), nD p, iD Ni] [] (.tup [.ref 0 0 0 r.1.length 1, nD r.2.1, nD r.2.2]) [⟨r.1.map dB, 5, true⟩] := by
  subst hNi; exact rLen_t b n hn hN l k hk hl hT p hp N hNN r hr
structure DyX (b : List UInt8) (n p g f v : Nat) (s l : List UInt8 × Nat × Nat) (e : Nat) : Prop where
  x1 : tkE b p 14 ≠ 0 → e = tkE b p 14
  x2 : tkE b p 14 = 0 → (29 < g ∨ 29 < f) → e = 132
  x3 : tkE b p 14 = 0 → g ≤ 29 → f ≤ 29 → s.2.2 ≠ 0 → e = s.2.2
  x4 : tkE b p 14 = 0 → g ≤ 29 → f ≤ 29 → s.2.2 = 0 → l.2.2 ≠ 0 → e = l.2.2
  x5 : tkE b p 14 = 0 → g ≤ 29 → f ≤ 29 → s.2.2 = 0 → l.2.2 = 0 → ((l.1.getD 256 default).toNat = 0 ∨ canE (List.take ((v : Int) % 32 + 257).toNat l.1) 15 ≠ 0 ∨ canE (List.take (l.1.length - ((v : Int) % 32 + 257).toNat) (List.drop ((v : Int) % 32 + 257).toNat l.1)) 15 ≠ 0) → e = 132
  x6 : tkE b p 14 = 0 → g ≤ 29 → f ≤ 29 → s.2.2 = 0 → l.2.2 = 0 → ¬ ((l.1.getD 256 default).toNat = 0 ∨ canE (List.take ((v : Int) % 32 + 257).toNat l.1) 15 ≠ 0 ∨ canE (List.take (l.1.length - ((v : Int) % 32 + 257).toNat) (List.drop ((v : Int) % 32 + 257).toNat l.1)) 15 ≠ 0) → e = 0
  p2 : tkE b p 14 = 0 → p + 14 ≤ 8 * n
  d1 : tkE b p 14 = 0 → s.2.2 = 0 → s.1.length = 19 ∧ canE s.1 15 = 0 ∧ s.2.1 ≤ 8 * n
  d2 : tkE b p 14 = 0 → s.2.2 = 0 → l.2.2 = 0 → l.1.length = g + 257 + (f + 1) ∧ l.2.1 ≤ 8 * n
theorem dyX {b : List UInt8} {n p g f h v : Nat} {s l : List UInt8 × Nat × Nat} {e : Nat} (hn : n = b.length) (hg : g = v % 32) (hD : DyE b p g f h s l e) : DyX b n p g f v s l e := by
  have hG : ((v : Int) % 32 + 257).toNat = g + 257 := by omega
  have hT : List.take (l.1.length - (g + 257)) (List.drop (g + 257) l.1) = List.drop (g + 257) l.1 := List.take_of_length_le (by rw [List.length_drop]; exact Nat.le_refl _)
  refine ⟨hD.f1, hD.f2, hD.f3, hD.f4, ?_, ?_, fun q => ?_, ?_, ?_⟩
  · rw [hG, hT]; exact hD.f5
  · rw [hG, hT]; exact fun a c d x y z => hD.f6 a c d x y (fun q => z (.inl q)) (Classical.byContradiction fun q => z (.inr (.inl q))) (Classical.byContradiction fun q => z (.inr (.inr q)))
  · have := tkE_le q; omega
  · rw [hn]; exact hD.s1
  · rw [hn]; exact hD.l1
theorem rDy_e (b : List UInt8) (n : Nat) (hn : n = b.length) (hN : n ≤ 1000000) (p : Nat) (hp : p ≤ 8 * n) (kd : Nat) (la : Bool) (hkd : kd ≤ 3) (v : Nat) (hv : tkV b p 14 = v) (hv2 : v < 16384) (g f h : Nat) (hg : g = v % 32) (hf : f = v / 32 % 32) (hh : h = v / 1024) (s : List UInt8 × Nat × Nat) (hs : shR b (p + 14) (h + 4) = s) (l : List UInt8 × Nat × Nat) (hl : dlR b s.1 (g + 257 + (f + 1)) s.2.1 = l) (e : Nat) (hD : DyE b p g f h s l e) (he : e ≠ 0) : SpecH false Try.prog 52 [.agg [u8D kd, bD la, iD 0, nilD, nilD], .sl false n 1 (b.map dB), nD p] [] (.tup [.agg [u8D 0, bD false, iD 0, nilD, nilD], iD 0, nD e]) [] := by
  have hgf := hD.gf
  have hX := dyX hn hg hD
  have hG : ((v : Int) % 32 + 257).toNat = g + 257 := by omega
  refine SpecH.run T_ok mixed Try.func52 rfl rfl rfl trivial rfl 1000 64 (fun R ok => (.s 9 (.cl 51 false [] (.fn q51 (@rTkV_14 (b) (n) om om (p) om (v) asm)) (.s 10 (.br ((↑(tkE b p 14) : Int) != 0) (fun p0 => have p0f := of_bne_t p0; (.s 11 (.out [] [] (D.tup [D.agg [D.v (Value.int .u8 0), D.v (.bool false), iD 0, nilD, nilD], iD 0, nD (tkE b p 14)]) [] R (ok _ _ (by ( rw [hX.x1 om] <;> rfl)) wr)))) (fun p0 => have p0f := of_bne_f p0; (.s 3 (.opt (bitO IntKind.u32 (Int.tmod (↑v : Int) 32)) (D.v (Value.int .u32 ((↑v : Int) % 32))) (bitO_of (@bx_rem  ((↑v : Int)) (32) om)) (.s 1 (.ow ((↑v : Int) % 32) (.s 2 (.ow ((↑v : Int) % 32 + 257) (.s 3 (.opt (bitO IntKind.u32 (IntKind.wrap IntKind.u32 (Int.tdiv (↑v : Int) 32))) (D.v (Value.int .u32 ((↑v : Int) / 32))) (bitO_of (@bx_quo_u32  ((↑v : Int)) (32) om om)) (.s 2 (.opt (bitO IntKind.u32 (Int.tmod ((↑v : Int) / 32) 32)) (D.v (Value.int .u32 ((↑v : Int) / 32 % 32))) (bitO_of (@bx_rem  ((↑v : Int) / 32) (32) om)) (.s 1 (.ow ((↑v : Int) / 32 % 32) (.s 2 (.ow ((↑v : Int) / 32 % 32 + 1) (.s 3 (.opt (bitO IntKind.u32 (IntKind.wrap IntKind.u32 (Int.tdiv (↑v : Int) 1024))) (D.v (Value.int .u32 ((↑v : Int) / 1024))) (bitO_of (@bx_quo_u32  ((↑v : Int)) (1024) om om)) (.s 1 (.ow ((↑v : Int) / 1024) (.s 2 (.ow ((↑v : Int) / 1024 + 4) (.s 8 (.br (decide (286 < (↑v : Int) % 32 + 257)) (fun p1 => have p1f := odt p1; (.s 14 (.out [] [] (D.tup [D.agg [D.v (Value.int .u8 0), D.v (.bool false), iD 0, nilD, nilD], iD 0, iD 132]) [] R (ok _ _ (by ( rw [hX.x2 om om] <;> rfl)) wr)))) (fun p1 => have p1f := odf p1; (.s 4 (.br (decide (30 < (↑v : Int) / 32 % 32 + 1)) (fun p2 => have p2f := odt p2; (.s 10 (.out [] [] (D.tup [D.agg [D.v (Value.int .u8 0), D.v (.bool false), iD 0, nilD, nilD], iD 0, iD 132]) [] R (ok _ _ (by ( rw [hX.x2 om om] <;> rfl)) wr)))) (fun p2 => have p2f := odf p2; (.s 4 (.ow ((↑p : Int) + 14) (.s 2 (.cl 85 false [] (.fn q85 (@rShV (b) (n) om om (p + 14) (h + 4) (s) asm ((↑p : Int) + 14) ((↑v : Int) / 1024 + 4) om om (by ( exact hX.p2 om)) om)) (.s 13 (.br ((↑(Prod.snd (Prod.snd s)) : Int) != 0) (fun p3 => have p3f := of_bne_t p3; (.s 11 (.out [] [] (D.tup [D.agg [D.v (Value.int .u8 0), D.v (.bool false), iD 0, nilD, nilD], iD 0, nD (Prod.snd (Prod.snd s))]) [] R (ok _ _ (by ( rw [hX.x3 om om om om] <;> rfl)) wr)))) (fun p3 => have p3f := of_bne_f p3; (.s 7 (.ow ((↑v : Int) % 32 + 257 + ((↑v : Int) / 32 % 32 + 1)) (.s 1 (.call 86 false [] (true && (true && Nat.ble (0 + List.length (Prod.fst s) * 1) (List.length (List.map dB (Prod.fst s))) && true && closedL (bif true && Nat.beq (List.length (Prod.fst s) * 1) (List.length (List.map dB (Prod.fst s))) then List.map dB (Prod.fst s) else List.take (List.length (Prod.fst s) * 1) (List.drop 0 (List.map dB (Prod.fst s))))) && true) (by (simp; done)) ([D.sl (Nat.ble 1 (List.length (Prod.fst s))) (List.length (Prod.fst s)) 1 (bif true && Nat.beq (List.length (Prod.fst s) * 1) (List.length (List.map dB (Prod.fst s))) then List.map dB (Prod.fst s) else List.take (List.length (Prod.fst s) * 1) (List.drop 0 (List.map dB (Prod.fst s)))), D.sl false n 1 (List.map dB b), nD (Prod.fst (Prod.snd s)), iD ((↑v : Int) % 32 + 257 + ((↑v : Int) / 32 % 32 + 1))]) _ zu5 (true) wr _ _ _ (CallOk.fn (FnOk.of Try.func86 rfl rfl) (@rLenV (b) (n) om om (Prod.fst s) (List.length (Prod.fst s)) om (Prod.fst (Prod.snd s)) (g + 257 + (f + 1)) (l) asm ((↑v : Int) % 32 + 257 + ((↑v : Int) / 32 % 32 + 1)) om zu1 (by ( exact (hX.d1 om om).2.1)) zu1 om)) (.s 13 (.br ((↑(Prod.snd (Prod.snd l)) : Int) != 0) (fun p4 => have p4f := of_bne_t p4; (.s 11 (.out [] [] (D.tup [D.agg [D.v (Value.int .u8 0), D.v (.bool false), iD 0, nilD, nilD], iD 0, nD (Prod.snd (Prod.snd l))]) [] R (ok _ _ (by ( rw [hX.x4 om om om om om] <;> rfl)) wr)))) (fun p4 => have p4f := of_bne_f p4; (.s 3 (.chk (bndOk none (some ((↑v : Int) % 32 + 257)) none (List.length (Prod.fst l)) && true) zu0 (.s 9 (.chk (bndOk (some ((↑v : Int) % 32 + 257)) none none (List.length (Prod.fst l)) && true) zu0 (.s 13 (.chk (true && decide (256 < (↑(Int.toNat ((↑v : Int) % 32 + 257)) : Int))) (by ( refine decide_eq_true ?_; have q2 := hX.d2 om om om; omega)) (.s 2 (.opt ((List.map dB (Prod.fst l))[256]?) (dB (List.getD (Prod.fst l) 256 default)) (map_get _ _ zu2) (.s 4 (.br ((↑(UInt8.toNat (List.getD (Prod.fst l) 256 default)) : Int) == 0) (fun p5 => have p5f := eq_of_beq p5; (.s 28 (.out [] [] (D.tup [D.agg [D.v (Value.int .u8 0), D.v (.bool false), iD 0, nilD, nilD], iD 0, iD 132]) [] R (ok _ _ zu3 wr)))) (fun p5 => have p5f := of_beq_f p5; (.s 8 (.call 87 false [] (true && (true && Nat.ble (0 + Int.toNat ((↑v : Int) % 32 + 257) * 1) (List.length (List.map dB (Prod.fst l))) && true && closedL (bif true && Nat.beq (Int.toNat ((↑v : Int) % 32 + 257) * 1) (List.length (List.map dB (Prod.fst l))) then List.map dB (Prod.fst l) else List.take (Int.toNat ((↑v : Int) % 32 + 257) * 1) (List.drop 0 (List.map dB (Prod.fst l))))) && true) zu0 ([D.sl true (Int.toNat ((↑v : Int) % 32 + 257)) 1 (bif true && Nat.beq (Int.toNat ((↑v : Int) % 32 + 257) * 1) (List.length (List.map dB (Prod.fst l))) then List.map dB (Prod.fst l) else List.take (Int.toNat ((↑v : Int) % 32 + 257) * 1) (List.drop 0 (List.map dB (Prod.fst l)))), iD 15]) _ zu6 (true) wr _ _ _ (CallOk.fn (FnOk.of Try.func87 rfl rfl) (@rCan (List.take (Int.toNat ((↑v : Int) % 32 + 257)) (Prod.fst l)) (Int.toNat ((↑v : Int) % 32 + 257)) zu0 om (15) (by (simp; done)))) (.s 6 (.br ((↑(canE (List.take (Int.toNat ((↑v : Int) % 32 + 257)) (Prod.fst l)) 15) : Int) != 0) (fun p6 => have p6f := of_bne_t p6; (.s 18 (.out [] [] (D.tup [D.agg [D.v (Value.int .u8 0), D.v (.bool false), iD 0, nilD, nilD], iD 0, iD 132]) [] R (ok _ _ zu3 wr)))) (fun p6 => have p6f := of_bne_f p6; (.s 8 (.call 87 false [] (true && (true && Nat.ble (0 + Int.toNat ((↑v : Int) % 32 + 257) * 1 + (List.length (Prod.fst l) - Int.toNat ((↑v : Int) % 32 + 257)) * 1) (List.length (List.map dB (Prod.fst l))) && true && closedL (bif false then List.map dB (Prod.fst l) else List.take ((List.length (Prod.fst l) - Int.toNat ((↑v : Int) % 32 + 257)) * 1) (List.drop (0 + Int.toNat ((↑v : Int) % 32 + 257) * 1) (List.map dB (Prod.fst l))))) && true) zu0 ([D.sl (Nat.ble 1 (List.length (Prod.fst l) - Int.toNat ((↑v : Int) % 32 + 257))) (List.length (Prod.fst l) - Int.toNat ((↑v : Int) % 32 + 257)) 1 (bif false then List.map dB (Prod.fst l) else List.take ((List.length (Prod.fst l) - Int.toNat ((↑v : Int) % 32 + 257)) * 1) (List.drop (0 + Int.toNat ((↑v : Int) % 32 + 257) * 1) (List.map dB (Prod.fst l)))), iD 15]) _ zu7 (true) wr _ _ _ (CallOk.fn (FnOk.of Try.func87 rfl rfl) (@rCan (List.take (List.length (Prod.fst l) - Int.toNat ((↑v : Int) % 32 + 257)) (List.drop (Int.toNat ((↑v : Int) % 32 + 257)) (Prod.fst l))) (List.length (Prod.fst l) - Int.toNat ((↑v : Int) % 32 + 257)) (by (simp; done)) zu2 (15) (by (simp; done)))) (.s 4 (.br ((↑(canE (List.take (List.length (Prod.fst l) - Int.toNat ((↑v : Int) % 32 + 257)) (List.drop (Int.toNat ((↑v : Int) % 32 + 257)) (Prod.fst l))) 15) : Int) != 0) (fun p7 => have p7f := of_bne_t p7; (.s 10 (.out [] [] (D.tup [D.agg [D.v (Value.int .u8 0), D.v (.bool false), iD 0, nilD, nilD], iD 0, iD 132]) [] R (ok _ _ zu3 wr)))) (fun p7 => have p7f := of_bne_f p7; (.abs (by ( exact he (hX.x6 om om om om om om))))))))))))))))))))))))))))))))))))))))))))))))))))))))))))))))))))))) (by kernel_rfl)
theorem rDy_o (b : List UInt8) (n : Nat) (hn : n = b.length) (hN : n ≤ 1000000) (p : Nat) (hp : p ≤ 8 * n) (kd : Nat) (la : Bool) (hkd : kd ≤ 3) (v : Nat) (hv : tkV b p 14 = v) (hv2 : v < 16384) (g f h : Nat) (hg : g = v % 32) (hf : f = v / 32 % 32) (hh : h = v / 1024) (s : List UInt8 × Nat × Nat) (hs : shR b (p + 14) (h + 4) = s) (l : List UInt8 × Nat × Nat) (hl : dlR b s.1 (g + 257 + (f + 1)) s.2.1 = l) (e : Nat) (hD : DyE b p g f h s l e) (he : e = 0) : SpecH false Try.prog 52 [.agg [u8D kd, bD la, iD 0, nilD, nilD], .sl false n 1 (b.map dB), nD p] [] (.tup [.agg [u8D kd, bD la, iD 0, .ref 0 0 0 (g + 257) 1, .ref 0 0 (g + 257) (f + 1) 1], nD l.2.1, iD 0]) [⟨l.1.map dB, 5, true⟩] := by
  have hgf := hD.gf
  have hX := dyX hn hg hD
  have hG : ((v : Int) % 32 + 257).toNat = g + 257 := by omega
  refine SpecH.run T_ok mixed Try.func52 rfl rfl rfl ⟨pl_bytes _, trivial⟩ rfl 1000 64 (fun R ok => (.s 9 (.cl 51 false [] (.fn q51 (@rTkV_14 (b) (n) om om (p) om (v) asm)) (.s 10 (.br ((↑(tkE b p 14) : Int) != 0) (fun p0 => have p0f := of_bne_t p0; (.abs (by ( have q := hX.x1 om; omega)))) (fun p0 => have p0f := of_bne_f p0; (.s 3 (.opt (bitO IntKind.u32 (Int.tmod (↑v : Int) 32)) (D.v (Value.int .u32 ((↑v : Int) % 32))) (bitO_of (@bx_rem  ((↑v : Int)) (32) om)) (.s 1 (.ow ((↑v : Int) % 32) (.s 2 (.ow ((↑v : Int) % 32 + 257) (.s 3 (.opt (bitO IntKind.u32 (IntKind.wrap IntKind.u32 (Int.tdiv (↑v : Int) 32))) (D.v (Value.int .u32 ((↑v : Int) / 32))) (bitO_of (@bx_quo_u32  ((↑v : Int)) (32) om om)) (.s 2 (.opt (bitO IntKind.u32 (Int.tmod ((↑v : Int) / 32) 32)) (D.v (Value.int .u32 ((↑v : Int) / 32 % 32))) (bitO_of (@bx_rem  ((↑v : Int) / 32) (32) om)) (.s 1 (.ow ((↑v : Int) / 32 % 32) (.s 2 (.ow ((↑v : Int) / 32 % 32 + 1) (.s 3 (.opt (bitO IntKind.u32 (IntKind.wrap IntKind.u32 (Int.tdiv (↑v : Int) 1024))) (D.v (Value.int .u32 ((↑v : Int) / 1024))) (bitO_of (@bx_quo_u32  ((↑v : Int)) (1024) om om)) (.s 1 (.ow ((↑v : Int) / 1024) (.s 2 (.ow ((↑v : Int) / 1024 + 4) (.s 8 (.br (decide (286 < (↑v : Int) % 32 + 257)) (fun p1 => have p1f := odt p1; (.abs (by ( have q := hX.x2 om om; omega)))) (fun p1 => have p1f := odf p1; (.s 4 (.br (decide (30 < (↑v : Int) / 32 % 32 + 1)) (fun p2 => have p2f := odt p2; (.abs (by ( have q := hX.x2 om om; omega)))) (fun p2 => have p2f := odf p2; (.s 4 (.ow ((↑p : Int) + 14) (.s 2 (.cl 85 false [] (.fn q85 (@rShV (b) (n) om om (p + 14) (h + 4) (s) asm ((↑p : Int) + 14) ((↑v : Int) / 1024 + 4) om om (by ( exact hX.p2 om)) om)) (.s 13 (.br ((↑(Prod.snd (Prod.snd s)) : Int) != 0) (fun p3 => have p3f := of_bne_t p3; (.abs (by ( have q := hX.x3 om om om om; omega)))) (fun p3 => have p3f := of_bne_f p3; (.s 7 (.ow ((↑v : Int) % 32 + 257 + ((↑v : Int) / 32 % 32 + 1)) (.s 1 (.call 86 false [] (true && (true && Nat.ble (0 + List.length (Prod.fst s) * 1) (List.length (List.map dB (Prod.fst s))) && true && closedL (bif true && Nat.beq (List.length (Prod.fst s) * 1) (List.length (List.map dB (Prod.fst s))) then List.map dB (Prod.fst s) else List.take (List.length (Prod.fst s) * 1) (List.drop 0 (List.map dB (Prod.fst s))))) && true) (by (simp; done)) ([D.sl (Nat.ble 1 (List.length (Prod.fst s))) (List.length (Prod.fst s)) 1 (bif true && Nat.beq (List.length (Prod.fst s) * 1) (List.length (List.map dB (Prod.fst s))) then List.map dB (Prod.fst s) else List.take (List.length (Prod.fst s) * 1) (List.drop 0 (List.map dB (Prod.fst s)))), D.sl false n 1 (List.map dB b), nD (Prod.fst (Prod.snd s)), iD ((↑v : Int) % 32 + 257 + ((↑v : Int) / 32 % 32 + 1))]) _ zu5 (true) wr _ _ _ (CallOk.fn (FnOk.of Try.func86 rfl rfl) (@rLenV (b) (n) om om (Prod.fst s) (List.length (Prod.fst s)) om (Prod.fst (Prod.snd s)) (g + 257 + (f + 1)) (l) asm ((↑v : Int) % 32 + 257 + ((↑v : Int) / 32 % 32 + 1)) om zu1 (by ( exact (hX.d1 om om).2.1)) zu1 om)) (.s 13 (.br ((↑(Prod.snd (Prod.snd l)) : Int) != 0) (fun p4 => have p4f := of_bne_t p4; (.abs (by ( have q := hX.x4 om om om om om; omega)))) (fun p4 => have p4f := of_bne_f p4; (.s 3 (.chk (bndOk none (some ((↑v : Int) % 32 + 257)) none (List.length (Prod.fst l)) && true) zu0 (.s 9 (.chk (bndOk (some ((↑v : Int) % 32 + 257)) none none (List.length (Prod.fst l)) && true) zu0 (.s 13 (.chk (true && decide (256 < (↑(Int.toNat ((↑v : Int) % 32 + 257)) : Int))) (by ( refine decide_eq_true ?_; have q2 := hX.d2 om om om; omega)) (.s 2 (.opt ((List.map dB (Prod.fst l))[256]?) (dB (List.getD (Prod.fst l) 256 default)) (map_get _ _ zu2) (.s 4 (.br ((↑(UInt8.toNat (List.getD (Prod.fst l) 256 default)) : Int) == 0) (fun p5 => have p5f := eq_of_beq p5; (.abs zu4)) (fun p5 => have p5f := of_beq_f p5; (.s 8 (.call 87 false [] (true && (true && Nat.ble (0 + Int.toNat ((↑v : Int) % 32 + 257) * 1) (List.length (List.map dB (Prod.fst l))) && true && closedL (bif true && Nat.beq (Int.toNat ((↑v : Int) % 32 + 257) * 1) (List.length (List.map dB (Prod.fst l))) then List.map dB (Prod.fst l) else List.take (Int.toNat ((↑v : Int) % 32 + 257) * 1) (List.drop 0 (List.map dB (Prod.fst l))))) && true) zu0 ([D.sl true (Int.toNat ((↑v : Int) % 32 + 257)) 1 (bif true && Nat.beq (Int.toNat ((↑v : Int) % 32 + 257) * 1) (List.length (List.map dB (Prod.fst l))) then List.map dB (Prod.fst l) else List.take (Int.toNat ((↑v : Int) % 32 + 257) * 1) (List.drop 0 (List.map dB (Prod.fst l)))), iD 15]) _ zu6 (true) wr _ _ _ (CallOk.fn (FnOk.of Try.func87 rfl rfl) (@rCan (List.take (Int.toNat ((↑v : Int) % 32 + 257)) (Prod.fst l)) (Int.toNat ((↑v : Int) % 32 + 257)) zu0 om (15) (by (simp; done)))) (.s 6 (.br ((↑(canE (List.take (Int.toNat ((↑v : Int) % 32 + 257)) (Prod.fst l)) 15) : Int) != 0) (fun p6 => have p6f := of_bne_t p6; (.abs zu4)) (fun p6 => have p6f := of_bne_f p6; (.s 8 (.call 87 false [] (true && (true && Nat.ble (0 + Int.toNat ((↑v : Int) % 32 + 257) * 1 + (List.length (Prod.fst l) - Int.toNat ((↑v : Int) % 32 + 257)) * 1) (List.length (List.map dB (Prod.fst l))) && true && closedL (bif false then List.map dB (Prod.fst l) else List.take ((List.length (Prod.fst l) - Int.toNat ((↑v : Int) % 32 + 257)) * 1) (List.drop (0 + Int.toNat ((↑v : Int) % 32 + 257) * 1) (List.map dB (Prod.fst l))))) && true) zu0 ([D.sl (Nat.ble 1 (List.length (Prod.fst l) - Int.toNat ((↑v : Int) % 32 + 257))) (List.length (Prod.fst l) - Int.toNat ((↑v : Int) % 32 + 257)) 1 (bif false then List.map dB (Prod.fst l) else List.take ((List.length (Prod.fst l) - Int.toNat ((↑v : Int) % 32 + 257)) * 1) (List.drop (0 + Int.toNat ((↑v : Int) % 32 + 257) * 1) (List.map dB (Prod.fst l)))), iD 15]) _ zu7 (true) wr _ _ _ (CallOk.fn (FnOk.of Try.func87 rfl rfl) (@rCan (List.take (List.length (Prod.fst l) - Int.toNat ((↑v : Int) % 32 + 257)) (List.drop (Int.toNat ((↑v : Int) % 32 + 257)) (Prod.fst l))) (List.length (Prod.fst l) - Int.toNat ((↑v : Int) % 32 + 257)) (by (simp; done)) zu2 (15) (by (simp; done)))) (.s 4 (.br ((↑(canE (List.take (List.length (Prod.fst l) - Int.toNat ((↑v : Int) % 32 + 257)) (List.drop (Int.toNat ((↑v : Int) % 32 + 257)) (Prod.fst l))) 15) : Int) != 0) (fun p7 => have p7f := of_bne_t p7; (.abs zu4)) (fun p7 => have p7f := of_bne_f p7; (.s 13 (.out [448] [448] (D.tup [D.agg [D.v (Value.int .u8 (↑kd : Int)), D.v (.bool la), iD 0, D.ref 0 0 0 (Int.toNat ((↑v : Int) % 32 + 257)) 1, D.ref 0 0 (0 + Int.toNat ((↑v : Int) % 32 + 257) * 1) (List.length (Prod.fst l) - Int.toNat ((↑v : Int) % 32 + 257)) 1], nD (Prod.fst (Prod.snd l)), iD 0]) [Blk.mk (List.map dB (Prod.fst l)) 5 true] R (ok _ _ (by ( have q2 := hX.d2 om om om; rw [hG, show 0 + (g + 257) * 1 = g + 257 from by omega, show l.1.length - (g + 257) = f + 1 from by omega] <;> rfl)) wr)))))))))))))))))))))))))))))))))))))))))))))))))))))))))))))))))))))) (by kernel_rfl)
end Vp
end Go.Proofs.Ytegjeagfcfhbeaa
namespace Go.Proofs.Ytegjeagfcfhbeaa
open Go.RowKit Go.Bw Go.Vx
namespace Vp
set_option linter.unusedVariables false
set_option linter.unusedSimpArgs false
set_option maxRecDepth 100000
set_option maxHeartbeats 4000000
theorem rFars (F : List UInt8) (hF : F = farsB) : SpecH false Try.prog 54 [] [] (.ref 0 0 0 32 1) [⟨F.map dB, 5, true⟩] := by
  refine SpecH.run T_ok mixed Try.func54 rfl rfl rfl ⟨pl_bytes _, trivial⟩ rfl 8000 64 (fun R ok => (.s 524 (.out [8] [8] (D.ref 0 0 0 32 1) [Blk.mk [D.v (Value.int .u8 5), D.v (Value.int .u8 5), D.v (Value.int .u8 5), D.v (Value.int .u8 5), D.v (Value.int .u8 5), D.v (Value.int .u8 5), D.v (Value.int .u8 5), D.v (Value.int .u8 5), D.v (Value.int .u8 5), D.v (Value.int .u8 5), D.v (Value.int .u8 5), D.v (Value.int .u8 5), D.v (Value.int .u8 5), D.v (Value.int .u8 5), D.v (Value.int .u8 5), D.v (Value.int .u8 5), D.v (Value.int .u8 5), D.v (Value.int .u8 5), D.v (Value.int .u8 5), D.v (Value.int .u8 5), D.v (Value.int .u8 5), D.v (Value.int .u8 5), D.v (Value.int .u8 5), D.v (Value.int .u8 5), D.v (Value.int .u8 5), D.v (Value.int .u8 5), D.v (Value.int .u8 5), D.v (Value.int .u8 5), D.v (Value.int .u8 5), D.v (Value.int .u8 5), D.v (Value.int .u8 5), D.v (Value.int .u8 5)] 5 true] R (ok _ _ wr (by (subst hF; rfl)))))) (by kernel_rfl)
theorem rLongs (L : List UInt8) (hL : L = longsB) : SpecH false Try.prog 53 [] [] (.ref 0 0 0 288 1) [⟨L.map dB, 5, true⟩] := by
  refine SpecH.run T_ok mixed Try.func53 rfl rfl rfl ⟨pl_bytes _, trivial⟩ rfl 20000 64 (fun R ok => (.s 11508 (.out [8] [8] (D.ref 0 0 0 288 1) [Blk.mk [D.v (Value.int .u8 8), D.v (Value.int .u8 8), D.v (Value.int .u8 8), D.v (Value.int .u8 8), D.v (Value.int .u8 8), D.v (Value.int .u8 8), D.v (Value.int .u8 8), D.v (Value.int .u8 8), D.v (Value.int .u8 8), D.v (Value.int .u8 8), D.v (Value.int .u8 8), D.v (Value.int .u8 8), D.v (Value.int .u8 8), D.v (Value.int .u8 8), D.v (Value.int .u8 8), D.v (Value.int .u8 8), D.v (Value.int .u8 8), D.v (Value.int .u8 8), D.v (Value.int .u8 8), D.v (Value.int .u8 8), D.v (Value.int .u8 8), D.v (Value.int .u8 8), D.v (Value.int .u8 8), D.v (Value.int .u8 8), D.v (Value.int .u8 8), D.v (Value.int .u8 8), D.v (Value.int .u8 8), D.v (Value.int .u8 8), D.v (Value.int .u8 8), D.v (Value.int .u8 8), D.v (Value.int .u8 8), D.v (Value.int .u8 8), D.v (Value.int .u8 8), D.v (Value.int .u8 8), D.v (Value.int .u8 8), D.v (Value.int .u8 8), D.v (Value.int .u8 8), D.v (Value.int .u8 8), D.v (Value.int .u8 8), D.v (Value.int .u8 8), D.v (Value.int .u8 8), D.v (Value.int .u8 8), D.v (Value.int .u8 8), D.v (Value.int .u8 8), D.v (Value.int .u8 8), D.v (Value.int .u8 8), D.v (Value.int .u8 8), D.v (Value.int .u8 8), D.v (Value.int .u8 8), D.v (Value.int .u8 8), D.v (Value.int .u8 8), D.v (Value.int .u8 8), D.v (Value.int .u8 8), D.v (Value.int .u8 8), D.v (Value.int .u8 8), D.v (Value.int .u8 8), D.v (Value.int .u8 8), D.v (Value.int .u8 8), D.v (Value.int .u8 8), D.v (Value.int .u8 8), D.v (Value.int .u8 8), D.v (Value.int .u8 8), D.v (Value.int .u8 8), D.v (Value.int .u8 8), D.v (Value.int .u8 8), D.v (Value.int .u8 8), D.v (Value.int .u8 8), D.v (Value.int .u8 8), D.v (Value.int .u8 8), D.v (Value.int .u8 8), D.v (Value.int .u8 8), D.v (Value.int .u8 8), D.v (Value.int .u8 8), D.v (Value.int .u8 8), D.v (Value.int .u8 8), D.v (Value.int .u8 8), D.v (Value.int .u8 8), D.v (Value.int .u8 8), D.v (Value.int .u8 8), D.v (Value.int .u8 8), D.v (Value.int .u8 8), D.v (Value.int .u8 8), D.v (Value.int .u8 8), D.v (Value.int .u8 8), D.v (Value.int .u8 8), D.v (Value.int .u8 8), D.v (Value.int .u8 8), D.v (Value.int .u8 8), D.v (Value.int .u8 8), D.v (Value.int .u8 8), D.v (Value.int .u8 8), D.v (Value.int .u8 8), D.v (Value.int .u8 8), D.v (Value.int .u8 8), D.v (Value.int .u8 8), D.v (Value.int .u8 8), D.v (Value.int .u8 8), D.v (Value.int .u8 8), D.v (Value.int .u8 8), D.v (Value.int .u8 8), D.v (Value.int .u8 8), D.v (Value.int .u8 8), D.v (Value.int .u8 8), D.v (Value.int .u8 8), D.v (Value.int .u8 8), D.v (Value.int .u8 8), D.v (Value.int .u8 8), D.v (Value.int .u8 8), D.v (Value.int .u8 8), D.v (Value.int .u8 8), D.v (Value.int .u8 8), D.v (Value.int .u8 8), D.v (Value.int .u8 8), D.v (Value.int .u8 8), D.v (Value.int .u8 8), D.v (Value.int .u8 8), D.v (Value.int .u8 8), D.v (Value.int .u8 8), D.v (Value.int .u8 8), D.v (Value.int .u8 8), D.v (Value.int .u8 8), D.v (Value.int .u8 8), D.v (Value.int .u8 8), D.v (Value.int .u8 8), D.v (Value.int .u8 8), D.v (Value.int .u8 8), D.v (Value.int .u8 8), D.v (Value.int .u8 8), D.v (Value.int .u8 8), D.v (Value.int .u8 8), D.v (Value.int .u8 8), D.v (Value.int .u8 8), D.v (Value.int .u8 8), D.v (Value.int .u8 8), D.v (Value.int .u8 8), D.v (Value.int .u8 8), D.v (Value.int .u8 8), D.v (Value.int .u8 8), D.v (Value.int .u8 8), D.v (Value.int .u8 8), D.v (Value.int .u8 8), D.v (Value.int .u8 8), D.v (Value.int .u8 8), D.v (Value.int .u8 8), D.v (Value.int .u8 9), D.v (Value.int .u8 9), D.v (Value.int .u8 9), D.v (Value.int .u8 9), D.v (Value.int .u8 9), D.v (Value.int .u8 9), D.v (Value.int .u8 9), D.v (Value.int .u8 9), D.v (Value.int .u8 9), D.v (Value.int .u8 9), D.v (Value.int .u8 9), D.v (Value.int .u8 9), D.v (Value.int .u8 9), D.v (Value.int .u8 9), D.v (Value.int .u8 9), D.v (Value.int .u8 9), D.v (Value.int .u8 9), D.v (Value.int .u8 9), D.v (Value.int .u8 9), D.v (Value.int .u8 9), D.v (Value.int .u8 9), D.v (Value.int .u8 9), D.v (Value.int .u8 9), D.v (Value.int .u8 9), D.v (Value.int .u8 9), D.v (Value.int .u8 9), D.v (Value.int .u8 9), D.v (Value.int .u8 9), D.v (Value.int .u8 9), D.v (Value.int .u8 9), D.v (Value.int .u8 9), D.v (Value.int .u8 9), D.v (Value.int .u8 9), D.v (Value.int .u8 9), D.v (Value.int .u8 9), D.v (Value.int .u8 9), D.v (Value.int .u8 9), D.v (Value.int .u8 9), D.v (Value.int .u8 9), D.v (Value.int .u8 9), D.v (Value.int .u8 9), D.v (Value.int .u8 9), D.v (Value.int .u8 9), D.v (Value.int .u8 9), D.v (Value.int .u8 9), D.v (Value.int .u8 9), D.v (Value.int .u8 9), D.v (Value.int .u8 9), D.v (Value.int .u8 9), D.v (Value.int .u8 9), D.v (Value.int .u8 9), D.v (Value.int .u8 9), D.v (Value.int .u8 9), D.v (Value.int .u8 9), D.v (Value.int .u8 9), D.v (Value.int .u8 9), D.v (Value.int .u8 9), D.v (Value.int .u8 9), D.v (Value.int .u8 9), D.v (Value.int .u8 9), D.v (Value.int .u8 9), D.v (Value.int .u8 9), D.v (Value.int .u8 9), D.v (Value.int .u8 9), D.v (Value.int .u8 9), D.v (Value.int .u8 9), D.v (Value.int .u8 9), D.v (Value.int .u8 9), D.v (Value.int .u8 9), D.v (Value.int .u8 9), D.v (Value.int .u8 9), D.v (Value.int .u8 9), D.v (Value.int .u8 9), D.v (Value.int .u8 9), D.v (Value.int .u8 9), D.v (Value.int .u8 9), D.v (Value.int .u8 9), D.v (Value.int .u8 9), D.v (Value.int .u8 9), D.v (Value.int .u8 9), D.v (Value.int .u8 9), D.v (Value.int .u8 9), D.v (Value.int .u8 9), D.v (Value.int .u8 9), D.v (Value.int .u8 9), D.v (Value.int .u8 9), D.v (Value.int .u8 9), D.v (Value.int .u8 9), D.v (Value.int .u8 9), D.v (Value.int .u8 9), D.v (Value.int .u8 9), D.v (Value.int .u8 9), D.v (Value.int .u8 9), D.v (Value.int .u8 9), D.v (Value.int .u8 9), D.v (Value.int .u8 9), D.v (Value.int .u8 9), D.v (Value.int .u8 9), D.v (Value.int .u8 9), D.v (Value.int .u8 9), D.v (Value.int .u8 9), D.v (Value.int .u8 9), D.v (Value.int .u8 9), D.v (Value.int .u8 9), D.v (Value.int .u8 9), D.v (Value.int .u8 9), D.v (Value.int .u8 9), D.v (Value.int .u8 9), D.v (Value.int .u8 9), D.v (Value.int .u8 9), D.v (Value.int .u8 9), D.v (Value.int .u8 9), D.v (Value.int .u8 7), D.v (Value.int .u8 7), D.v (Value.int .u8 7), D.v (Value.int .u8 7), D.v (Value.int .u8 7), D.v (Value.int .u8 7), D.v (Value.int .u8 7), D.v (Value.int .u8 7), D.v (Value.int .u8 7), D.v (Value.int .u8 7), D.v (Value.int .u8 7), D.v (Value.int .u8 7), D.v (Value.int .u8 7), D.v (Value.int .u8 7), D.v (Value.int .u8 7), D.v (Value.int .u8 7), D.v (Value.int .u8 7), D.v (Value.int .u8 7), D.v (Value.int .u8 7), D.v (Value.int .u8 7), D.v (Value.int .u8 7), D.v (Value.int .u8 7), D.v (Value.int .u8 7), D.v (Value.int .u8 7), D.v (Value.int .u8 8), D.v (Value.int .u8 8), D.v (Value.int .u8 8), D.v (Value.int .u8 8), D.v (Value.int .u8 8), D.v (Value.int .u8 8), D.v (Value.int .u8 8), D.v (Value.int .u8 8)] 5 true] R (ok _ _ wr (by (subst hL; rfl)))))) (by kernel_rfl)
end Vp
end Go.Proofs.Ytegjeagfcfhbeaa
namespace Go.Proofs.Ytegjeagfcfhbeaa
open Go.RowKit Go.Bw Go.Vx
namespace Vp
set_option linter.unusedVariables false
set_option linter.unusedSimpArgs false
set_option maxRecDepth 100000
set_option maxHeartbeats 4000000
theorem zw0 {p : Prop} (h : p := by ( have q1 := hB.kd om; omega)) : p := h
theorem zw1 {p : Prop} (h : p := by (refine iv_eq ?_; (omega))) : p := h
theorem zw2 {p : Prop} (h : p := by exact (And.intro (D.sim.agg (And.intro (D.sim.of_eq (by (refine iv_eq ?_; (omega)))) (And.intro (D.sim.refl _) (And.intro (D.sim.refl _) (And.intro (D.sim.refl _) (And.intro (D.sim.refl _) trivial)))))) (And.intro (D.sim.refl _) (And.intro (D.sim.of_eq (by (refine iv_eq ?_; (omega)))) trivial)))) : p := h
structure BgE (b : List UInt8) (n p v q x : Nat) (H : Hd) : Prop where
  g1 : tkE b p 3 ≠ 0 → H.s.e = tkE b p 3
  g2 : tkE b p 3 = 0 → v / 2 = 3 → H.s.e = 130
  g3 : tkE b p 3 = 0 → v / 2 = 2 → H.s = (dyR b (rs0 (p + 3))).1 ∧ H.kd = 2 ∧ H.le = 0 ∧ H.l1 = (dyR b (rs0 (p + 3))).2.1 ∧ H.l2 = (dyR b (rs0 (p + 3))).2.2
  g4 : tkE b p 3 = 0 → v / 2 = 1 → H.s = rs0 (p + 3) ∧ H.kd = 1 ∧ H.le = 0 ∧ H.l1 = longsB ∧ H.l2 = farsB
  g5 : tkE b p 3 = 0 → v / 2 = 0 → tkE b q 32 ≠ 0 → H.s.e = tkE b q 32
  g6 : tkE b p 3 = 0 → v / 2 = 0 → tkE b q 32 = 0 → x % 65536 + x / 65536 ≠ 65535 → H.s.e = 131
  g7 : tkE b p 3 = 0 → v / 2 = 0 → tkE b q 32 = 0 → x % 65536 + x / 65536 = 65535 → H.s = rs0 (q + 32) ∧ H.kd = 0 ∧ H.le = x % 65536 ∧ H.l1 = [] ∧ H.l2 = []
  la : tkE b p 3 = 0 → H.la = (((v % 2 : Nat) : Int) == 1)
  p3 : tkE b p 3 = 0 → p + 3 ≤ 8 * n
  q3 : tkE b p 3 = 0 → q ≤ 8 * n
  kd : tkE b p 3 = 0 → H.kd = v / 2
theorem bg_st (b : List UInt8) (n : Nat) (hn : n = b.length) (p v q x : Nat) (hv : tkV b p 3 = v) (hq : q = (p + 3 + 7) / 8 * 8) (hx : tkV b q 32 = x) : BgE b n p v q x (hdR b (rs0 p)) := by
  rw [hdR_eq]
  unfold hdD
  dsimp only
  by_cases t : tkE b p 3 = 0
  · have a1 := tk_add (b := b) (p := p) (a := 1) (c := 2) t
    have b1 := ts_add (b := b) (p := p) (a := 1) (c := 2) t
    have e1 : tkN b 1 (rs0 p) = tkV b p 1 := tkN_0 rfl
    have e2 : tkN b 2 (rs0 (p + 1)) = tkV b (p + 1) 2 := tkN_0 rfl
    have l1 := tkV_lt b p 1
    have l2 := tkV_lt b (p + 1) 2
    have v1 : v = tkV b p 1 + 2 ^ 1 * tkV b (p + 1) 2 := by rw [← hv]; exact a1.2.2
    have p1 : (2 : Nat) ^ 1 = 2 := rfl
    have p2 : (2 : Nat) ^ 2 = 4 := rfl
    have hp := tkE_le t
    rw [b1.1, b1.2, e1, e2, show p + 1 + 2 = p + 3 from by omega]
    have ev : tkV b (p + 1) 2 = v / 2 := by omega
    have ea : tkV b p 1 = v % 2 := by omega
    rw [ev, ea]
    have hv8 : v / 2 < 4 := by omega
    by_cases c3 : v / 2 = 3
    · have e3 : fl (rs0 (p + 3)) (decide (((v / 2 : Nat) : Int) ≤ 2)) 130 = ⟨p + 3, 130⟩ := by rw [decide_eq_false (by omega), fl_f rfl]
      rw [e3, if_pos (show (130 : Nat) ≠ 0 by decide)]
      exact ⟨fun z => absurd t z, fun _ _ => rfl, fun _ z => by omega, fun _ z => by omega, fun _ z => by omega, fun _ z => by omega, fun _ z => by omega, fun _ => rfl, fun _ => by omega, fun _ => by omega, fun _ => rfl⟩
    · have e3 : fl (rs0 (p + 3)) (decide (((v / 2 : Nat) : Int) ≤ 2)) 130 = rs0 (p + 3) := by rw [decide_eq_true (by omega), fl_t]
      rw [e3, if_neg (show ¬ (0 : Nat) ≠ 0 by decide)]
      by_cases c0 : v / 2 = 0
      · rw [if_pos c0]
        have hq2 : (⟨((rs0 (p + 3)).p + 7) / 8 * 8, 0⟩ : Rs) = rs0 q := by rw [hq]
        rw [hq2]
        by_cases tq : tkE b q 32 = 0
        · have a2 := tk_add (b := b) (p := q) (a := 16) (c := 16) tq
          have b2 := ts_add (b := b) (p := q) (a := 16) (c := 16) tq
          have f1 : tkN b 16 (rs0 q) = tkV b q 16 := tkN_0 rfl
          have f2 : tkN b 16 (rs0 (q + 16)) = tkV b (q + 16) 16 := tkN_0 rfl
          have l3 := tkV_lt b q 16
          have l4 := tkV_lt b (q + 16) 16
          have v2 : x = tkV b q 16 + 2 ^ 16 * tkV b (q + 16) 16 := by rw [← hx]; exact a2.2.2
          have p16 : (2 : Nat) ^ 16 = 65536 := rfl
          rw [b2.1, b2.2, f1, f2]
          have ex : tkV b q 16 = x % 65536 := by omega
          have ey : tkV b (q + 16) 16 = x / 65536 := by omega
          rw [ex, ey]
          by_cases cs : x % 65536 + x / 65536 = 65535
          · have e6 : fl (rs0 (q + 16 + 16)) (((x % 65536 : Nat) : Int) + ((x / 65536 : Nat) : Int) == 65535) 131 = rs0 (q + 32) := by
              rw [show (((x % 65536 : Nat) : Int) + ((x / 65536 : Nat) : Int) == 65535) = true from by simp; omega, fl_t]
            rw [e6]
            exact ⟨fun z => absurd t z, fun _ z => absurd z c3, fun _ z => by omega, fun _ z => by omega, fun _ _ z => absurd tq z, fun _ _ _ z => absurd cs z, fun _ _ _ _ => ⟨rfl, c0, rfl, rfl, rfl⟩, fun _ => rfl, fun _ => by omega, fun _ => by omega, fun _ => rfl⟩
          · have e6 : fl (rs0 (q + 16 + 16)) (((x % 65536 : Nat) : Int) + ((x / 65536 : Nat) : Int) == 65535) 131 = ⟨q + 16 + 16, 131⟩ := by
              rw [show (((x % 65536 : Nat) : Int) + ((x / 65536 : Nat) : Int) == 65535) = false from by simp; omega, fl_f rfl]
            rw [e6]
            exact ⟨fun z => absurd t z, fun _ z => absurd z c3, fun _ z => by omega, fun _ z => by omega, fun _ _ z => absurd tq z, fun _ _ _ _ => rfl, fun _ _ _ z => absurd z cs, fun _ => rfl, fun _ => by omega, fun _ => by omega, fun _ => rfl⟩
        · have e6 := ts_bad (b := b) (p := q) (a := 16) (c := 16) tq
          have e7 : ∀ c : Bool, (fl (tkS b 16 (tkS b 16 (rs0 q))) c 131).e = 10 := fun c => by rw [fl_x (by omega)]; exact e6
          exact ⟨fun z => absurd t z, fun _ z => absurd z c3, fun _ z => by omega, fun _ z => by omega, fun _ _ _ => (e7 _).trans (tkE_10 tq).symm, fun _ _ z => absurd z tq, fun _ _ z => absurd z tq, fun _ => rfl, fun _ => by omega, fun _ => by omega, fun _ => rfl⟩
      · rw [if_neg c0]
        by_cases c1 : v / 2 = 1
        · rw [if_pos c1]
          exact ⟨fun z => absurd t z, fun _ z => absurd z c3, fun _ z => by omega, fun _ _ => ⟨rfl, c1, rfl, rfl, rfl⟩, fun _ z => absurd z c0, fun _ z => absurd z c0, fun _ z => absurd z c0, fun _ => rfl, fun _ => by omega, fun _ => by omega, fun _ => rfl⟩
        · rw [if_neg c1]
          exact ⟨fun z => absurd t z, fun _ z => absurd z c3, fun _ z => ⟨rfl, z, rfl, rfl, rfl⟩, fun _ z => absurd z c1, fun _ z => absurd z c0, fun _ z => absurd z c0, fun _ z => absurd z c0, fun _ => rfl, fun _ => by omega, fun _ => by omega, fun _ => rfl⟩
  · have e3 := ts_bad (b := b) (p := p) (a := 1) (c := 2) t
    have e4 : ∀ c : Bool, (fl (tkS b 2 (tkS b 1 (rs0 p))) c 130).e = 10 := fun c => by rw [fl_x (by omega)]; exact e3
    rw [if_pos (by rw [e4]; decide)]
    exact ⟨fun _ => (e4 _).trans (tkE_10 t).symm, fun z => absurd z t, fun z => absurd z t, fun z => absurd z t, fun z => absurd z t, fun z => absurd z t, fun z => absurd z t, fun z => absurd z t, fun z => absurd z t, fun z => absurd z t, fun z => absurd z t⟩

theorem rTkV_3 (b : List UInt8) (n : Nat) (hn : n = b.length) (hN : n ≤ 1000000) (p : Nat) (hp : p ≤ 8 * n) (v : Nat) (hv : tkV b p 3 = v) : SpecH false Try.prog 51 [.sl false n 1 (b.map dB), nD p, iD 3] [] (.tup [u32D v, nD (tkE b p 3)]) [] := by
  subst hv; exact rTake b n hn hN p 3 (by decide) (by omega)
theorem rTkV_32 (b : List UInt8) (n : Nat) (hn : n = b.length) (hN : n ≤ 1000000) (p : Nat) (x : Nat) (hx : tkV b p 32 = x) (hp : p ≤ 8 * n) : SpecH false Try.prog 51 [.sl false n 1 (b.map dB), nD p, iD 32] [] (.tup [u32D x, nD (tkE b p 32)]) [] := by
  subst hx; exact rTake b n hn hN p 32 (by decide) (by omega)
theorem rBg_e (b : List UInt8) (n : Nat) (hn : n = b.length) (hN : n ≤ 1000000) (p : Nat) (hp : p ≤ 8 * n) (v q x : Nat) (hv : tkV b p 3 = v) (hv2 : v < 8) (hx : tkV b q 32 = x) (hx2 : x < 4294967296) (hq : q = (p + 3 + 7) / 8 * 8) (H : Hd) (hB : BgE b n p v q x H) (y g f h : Nat) (hy : tkV b (p + 3) 14 = y) (hy2 : y < 16384) (hg : g = y % 32) (hf : f = y / 32 % 32) (hh : h = y / 1024) (s : List UInt8 × Nat × Nat) (hs : shR b (p + 3 + 14) (h + 4) = s) (l : List UInt8 × Nat × Nat) (hl : dlR b s.1 (g + 257 + (f + 1)) s.2.1 = l) (e : Nat) (hD : DyE b (p + 3) g f h s l e) (hO : DyO (dyR b (rs0 (p + 3))) g l e) (L F : List UInt8) (hL : L = longsB) (hF : F = farsB) (he : H.s.e ≠ 0) : SpecH false Try.prog 29 [.sl false n 1 (b.map dB), nD p] [] (.tup [.agg [u8D 0, bD false, iD 0, nilD, nilD], iD 0, nD H.s.e]) [] := by
  have hk3 : v / 2 ≤ 3 := by omega
  refine SpecH.run T_ok mixed Try.func29 rfl rfl rfl trivial rfl 1000 64 (fun R ok => (.s 7 (.cl 51 false [] (.fn q51 (@rTkV_3 (b) (n) om om (p) om (v) asm)) (.s 10 (.br ((↑(tkE b p 3) : Int) != 0) (fun p0 => have p0f := of_bne_t p0; (.s 11 (.out [] [] (D.tup [D.agg [D.v (Value.int .u8 0), D.v (.bool false), iD 0, nilD, nilD], iD 0, nD (tkE b p 3)]) [] R (ok _ _ (by ( rw [hB.g1 om] <;> rfl)) wr)))) (fun p0 => have p0f := of_bne_f p0; (.s 3 (.opt (bitO IntKind.u32 (Int.tmod (↑v : Int) 2)) (D.v (Value.int .u32 ((↑v : Int) % 2))) (bitO_of (@bx_rem  ((↑v : Int)) (2) om)) (.s 5 (.opt (bitO IntKind.u32 (IntKind.wrap IntKind.u32 (Int.tdiv (↑v : Int) 2))) (D.v (Value.int .u32 ((↑v : Int) / 2))) (bitO_of (@bx_quo_u32  ((↑v : Int)) (2) om om)) (.s 1 (.opt (wrapO .u8 ((↑v : Int) / 2)) (D.v (Value.int .u8 ((↑v : Int) / 2))) (wrapO_u8 om) (.s 10 (.ow ((↑p : Int) + 3) (.s 9 (.br ((↑v : Int) / 2 == 3) (fun p1 => have p1f := eq_of_beq p1; (.s 10 (.out [] [] (D.tup [D.agg [D.v (Value.int .u8 0), D.v (.bool false), iD 0, nilD, nilD], iD 0, iD 130]) [] R (ok _ _ (by ( rw [hB.g2 om om] <;> rfl)) wr)))) (fun p1 => have p1f := of_beq_f p1; (.s 8 (.br ((↑v : Int) / 2 == 2) (fun p2 => have p2f := eq_of_beq p2; (.s 7 (.em (decide (e ≠ 0)) (fun p3 => have p3f := odt p3; (.call 52 false [] (true) wr ([D.agg [D.v (Value.int .u8 ((↑v : Int) / 2)), D.v (.bool ((↑v : Int) % 2 == 1)), iD 0, nilD, nilD], D.sl false n 1 (List.map dB b), iD ((↑p : Int) + 3)]) _ zw2 (true) wr _ _ _ (CallOk.fn (FnOk.of Try.func52 rfl rfl) (@rDy_e (b) (n) om om (p + 3) (by ( exact hB.p3 om)) (v / 2) ((↑v : Int) % 2 == 1) om (y) asm om (g) (f) (h) asm asm asm (s) asm (l) asm (e) asm om)) (.s 28 (.out [] [] (D.tup [D.agg [D.v (Value.int .u8 0), D.v (.bool false), iD 0, nilD, nilD], iD 0, nD e]) [] R (ok _ _ (by ( rw [show H.s.e = e from by rw [(hB.g3 om om).1]; exact hO.h1] <;> rfl)) wr))))) (fun p3 => have p3f := odf p3; (.abs (by ( exact he (by rw [(hB.g3 om om).1, hO.h1]; omega)))))))) (fun p2 => have p2f := of_beq_f p2; (.s 8 (.br ((↑v : Int) / 2 == 1) (fun p4 => have p4f := eq_of_beq p4; (.abs (by ( exact he (by rw [(hB.g4 om om).1]))))) (fun p4 => have p4f := of_beq_f p4; (.val 1 (iD ((↑p : Int) + 3)) (nD (p + 3)) zw1 (Hn.inl T_ok mixed false 90 0 (loopAt Try.prog 29 0) (fun (x : (c : Nat) ×' (hc : p + 3 ≤ c ∧ c ≤ q) ×' Unit) => match x with | ⟨c, hc, _⟩ => CutS.mk [(0, D.sl false n 1 (List.map dB b)), (1, nD c), (4, D.ptr 0 0 0), (9, D.ptr 8 8 0)] [⟨0, 0, 0, 0, .b ⟨[D.v (Value.int .u8 0), D.v (.bool false), iD 0, nilD, nilD], 73, false⟩⟩, ⟨8, 8, 160, 160, .b ⟨[D.v (Value.int .u8 ((↑v : Int) / 2)), D.v (.bool ((↑v : Int) % 2 == 1)), iD 0, nilD, nilD], 73, false⟩⟩] 16) (fun (x : (c : Nat) ×' (hc : p + 3 ≤ c ∧ c ≤ q) ×' Unit) => match x with | ⟨c, hc, _⟩ => q - c) [⟨Unit, .exit 0, fun x => match x with | () => CutS.mk [(0, D.sl false n 1 (List.map dB b)), (1, nD q), (4, D.ptr 0 0 0), (9, D.ptr 8 8 0)] [⟨0, 0, 0, 0, .b ⟨[D.v (Value.int .u8 0), D.v (.bool false), iD 0, nilD, nilD], 73, false⟩⟩, ⟨8, 8, 160, 160, .b ⟨[D.v (Value.int .u8 ((↑v : Int) / 2)), D.v (.bool ((↑v : Int) % 2 == 1)), iD 0, nilD, nilD], 73, false⟩⟩] 16⟩] 1000 64 (fun | ⟨c, hc, _⟩, Q, next1, last1 => (.s 3 (.opt (bitO IntKind.i64 (Int.tmod (↑c : Int) 8)) (iD ((↑c : Int) % 8)) (bitO_of (@bx_rem  ((↑c : Int)) (8) om)) (.s 2 (.br ((↑c : Int) % 8 != 0) (fun p5 => have p5f := of_bne_t p5; (.s 3 (.ow ((↑c : Int) + 1) (.s 1 (.val 1 (iD ((↑c : Int) + 1)) (nD (c + 1)) zw1 (Hn.next next1 ⟨(c + 1), om, ⟨⟩⟩ (by show q - (c + 1) < q - c; clear next1 last1; omega) [(0, 0), (8, 8)] ro)))))) (fun p5 => have p5f := of_bne_f p5; (.val 1 (nD c) (nD q) zw1 (Hn.last last1 0 (() : Unit) rfl [(0, 0), (8, 8)] ro)))))))) (fun | ⟨c, hc, _⟩ => by kernel_rfl) ⟨(p + 3), om, ⟨⟩⟩ [(0, 0), (160, 160)] ro (hs1 (fun | () => (.s 3 (.cl 51 false [] (.fn q51 (@rTkV_32 (b) (n) om om (q) (x) asm (by ( have q1 := hB.q3 om; omega)))) (.s 10 (.br ((↑(tkE b q 32) : Int) != 0) (fun p6 => have p6f := of_bne_t p6; (.s 11 (.out [] [] (D.tup [D.agg [D.v (Value.int .u8 0), D.v (.bool false), iD 0, nilD, nilD], iD 0, nD (tkE b q 32)]) [] R (ok _ _ (by ( rw [hB.g5 om om om] <;> rfl)) wr)))) (fun p6 => have p6f := of_bne_f p6; (.s 3 (.opt (bitO IntKind.u32 (Int.tmod (↑x : Int) 65536)) (D.v (Value.int .u32 ((↑x : Int) % 65536))) (bitO_of (@bx_rem  ((↑x : Int)) (65536) om)) (.s 1 (.ow ((↑x : Int) % 65536) (.s 15 (.opt (bitO IntKind.u32 (IntKind.wrap IntKind.u32 (Int.tdiv (↑x : Int) 65536))) (D.v (Value.int .u32 ((↑x : Int) / 65536))) (bitO_of (@bx_quo_u32  ((↑x : Int)) (65536) om om)) (.s 1 (.ow ((↑x : Int) / 65536) (.s 2 (.ow ((↑x : Int) % 65536 + (↑x : Int) / 65536) (.s 2 (.br ((↑x : Int) % 65536 + (↑x : Int) / 65536 != 65535) (fun p7 => have p7f := of_bne_t p7; (.s 10 (.out [] [] (D.tup [D.agg [D.v (Value.int .u8 0), D.v (.bool false), iD 0, nilD, nilD], iD 0, iD 131]) [] R (ok _ _ (by ( rw [hB.g6 om om om om] <;> rfl)) wr)))) (fun p7 => have p7f := of_bne_f p7; (.abs (by ( exact he (by rw [(hB.g7 om om om om).1]))))))))))))))))))))))))))))))))))))))))))))))))) (by kernel_rfl)
theorem bg_s {x q : Nat} {v : Nat} {a : Int} (h : a = 0) : D.tup [.agg [.v (.int .u8 a), .v (.bool (((v : Nat) : Int) % 2 == 1)), iD (((x : Nat) : Int) % 65536), nilD, nilD], iD (((q : Nat) : Int) + 32), iD 0] = D.tup [.agg [u8D 0, bD (((v % 2 : Nat) : Int) == 1), nD (x % 65536), nilD, nilD], nD (rs0 (q + 32)).p, iD 0] := by rw [h]; rfl
theorem bg_f {p : Nat} {v : Nat} {a : Int} (h : a = 1) : D.tup [.agg [.v (.int .u8 a), .v (.bool (((v : Nat) : Int) % 2 == 1)), iD 0, .ref 0 0 0 288 1, .ref 1 1 0 32 1], iD (((p : Nat) : Int) + 3), iD 0] = D.tup [.agg [u8D 1, bD (((v % 2 : Nat) : Int) == 1), iD 0, .ref 0 0 0 288 1, .ref 1 1 0 32 1], nD (rs0 (p + 3)).p, iD 0] := by rw [h]; rfl
theorem bg_d {g f q : Nat} {v : Nat} {a : Int} (h : a = 2) : D.tup [.agg [.v (.int .u8 a), .v (.bool (((v : Nat) : Int) % 2 == 1)), iD 0, .ref 0 0 0 (g + 257) 1, .ref 0 0 (g + 257) (f + 1) 1], nD q, iD 0] = D.tup [.agg [u8D 2, bD (((v % 2 : Nat) : Int) == 1), iD 0, .ref 0 0 0 (g + 257) 1, .ref 0 0 (g + 257) (f + 1) 1], nD (rs0 q).p, iD 0] := by rw [h]; rfl
theorem rBg_s (b : List UInt8) (n : Nat) (hn : n = b.length) (hN : n ≤ 1000000) (p : Nat) (hp : p ≤ 8 * n) (v q x : Nat) (hv : tkV b p 3 = v) (hv2 : v < 8) (hx : tkV b q 32 = x) (hx2 : x < 4294967296) (hq : q = (p + 3 + 7) / 8 * 8) (H : Hd) (hB : BgE b n p v q x H) (y g f h : Nat) (hy : tkV b (p + 3) 14 = y) (hy2 : y < 16384) (hg : g = y % 32) (hf : f = y / 32 % 32) (hh : h = y / 1024) (s : List UInt8 × Nat × Nat) (hs : shR b (p + 3 + 14) (h + 4) = s) (l : List UInt8 × Nat × Nat) (hl : dlR b s.1 (g + 257 + (f + 1)) s.2.1 = l) (e : Nat) (hD : DyE b (p + 3) g f h s l e) (hO : DyO (dyR b (rs0 (p + 3))) g l e) (L F : List UInt8) (hL : L = longsB) (hF : F = farsB) (he : H.s.e = 0) (hk : H.kd = 0) : SpecH false Try.prog 29 [.sl false n 1 (b.map dB), nD p] [] (.tup [.agg [u8D 0, bD H.la, nD H.le, nilD, nilD], nD H.s.p, iD 0]) [] := by
  have hk3 : v / 2 ≤ 3 := by omega
  refine SpecH.run T_ok mixed Try.func29 rfl rfl rfl trivial rfl 1000 64 (fun R ok => (.s 7 (.cl 51 false [] (.fn q51 (@rTkV_3 (b) (n) om om (p) om (v) asm)) (.s 10 (.br ((↑(tkE b p 3) : Int) != 0) (fun p0 => have p0f := of_bne_t p0; (.abs (by ( have q1 := hB.g1 om; omega)))) (fun p0 => have p0f := of_bne_f p0; (.s 3 (.opt (bitO IntKind.u32 (Int.tmod (↑v : Int) 2)) (D.v (Value.int .u32 ((↑v : Int) % 2))) (bitO_of (@bx_rem  ((↑v : Int)) (2) om)) (.s 5 (.opt (bitO IntKind.u32 (IntKind.wrap IntKind.u32 (Int.tdiv (↑v : Int) 2))) (D.v (Value.int .u32 ((↑v : Int) / 2))) (bitO_of (@bx_quo_u32  ((↑v : Int)) (2) om om)) (.s 1 (.opt (wrapO .u8 ((↑v : Int) / 2)) (D.v (Value.int .u8 ((↑v : Int) / 2))) (wrapO_u8 om) (.s 10 (.ow ((↑p : Int) + 3) (.s 9 (.br ((↑v : Int) / 2 == 3) (fun p1 => have p1f := eq_of_beq p1; (.abs zw0)) (fun p1 => have p1f := of_beq_f p1; (.s 8 (.br ((↑v : Int) / 2 == 2) (fun p2 => have p2f := eq_of_beq p2; (.abs zw0)) (fun p2 => have p2f := of_beq_f p2; (.s 8 (.br ((↑v : Int) / 2 == 1) (fun p3 => have p3f := eq_of_beq p3; (.abs zw0)) (fun p3 => have p3f := of_beq_f p3; (.val 1 (iD ((↑p : Int) + 3)) (nD (p + 3)) zw1 (Hn.inl T_ok mixed false 90 0 (loopAt Try.prog 29 0) (fun (x : (c : Nat) ×' (hc : p + 3 ≤ c ∧ c ≤ q) ×' Unit) => match x with | ⟨c, hc, _⟩ => CutS.mk [(0, D.sl false n 1 (List.map dB b)), (1, nD c), (4, D.ptr 0 0 0), (9, D.ptr 8 8 0)] [⟨0, 0, 0, 0, .b ⟨[D.v (Value.int .u8 0), D.v (.bool false), iD 0, nilD, nilD], 73, false⟩⟩, ⟨8, 8, 160, 160, .b ⟨[D.v (Value.int .u8 ((↑v : Int) / 2)), D.v (.bool ((↑v : Int) % 2 == 1)), iD 0, nilD, nilD], 73, false⟩⟩] 16) (fun (x : (c : Nat) ×' (hc : p + 3 ≤ c ∧ c ≤ q) ×' Unit) => match x with | ⟨c, hc, _⟩ => q - c) [⟨Unit, .exit 0, fun x => match x with | () => CutS.mk [(0, D.sl false n 1 (List.map dB b)), (1, nD q), (4, D.ptr 0 0 0), (9, D.ptr 8 8 0)] [⟨0, 0, 0, 0, .b ⟨[D.v (Value.int .u8 0), D.v (.bool false), iD 0, nilD, nilD], 73, false⟩⟩, ⟨8, 8, 160, 160, .b ⟨[D.v (Value.int .u8 ((↑v : Int) / 2)), D.v (.bool ((↑v : Int) % 2 == 1)), iD 0, nilD, nilD], 73, false⟩⟩] 16⟩] 1000 64 (fun | ⟨c, hc, _⟩, Q, next1, last1 => (.s 3 (.opt (bitO IntKind.i64 (Int.tmod (↑c : Int) 8)) (iD ((↑c : Int) % 8)) (bitO_of (@bx_rem  ((↑c : Int)) (8) om)) (.s 2 (.br ((↑c : Int) % 8 != 0) (fun p4 => have p4f := of_bne_t p4; (.s 3 (.ow ((↑c : Int) + 1) (.s 1 (.val 1 (iD ((↑c : Int) + 1)) (nD (c + 1)) zw1 (Hn.next next1 ⟨(c + 1), om, ⟨⟩⟩ (by show q - (c + 1) < q - c; clear next1 last1; omega) [(0, 0), (8, 8)] ro)))))) (fun p4 => have p4f := of_bne_f p4; (.val 1 (nD c) (nD q) zw1 (Hn.last last1 0 (() : Unit) rfl [(0, 0), (8, 8)] ro)))))))) (fun | ⟨c, hc, _⟩ => by kernel_rfl) ⟨(p + 3), om, ⟨⟩⟩ [(0, 0), (160, 160)] ro (hs1 (fun | () => (.s 3 (.cl 51 false [] (.fn q51 (@rTkV_32 (b) (n) om om (q) (x) asm (by ( have q1 := hB.q3 om; omega)))) (.s 10 (.br ((↑(tkE b q 32) : Int) != 0) (fun p5 => have p5f := of_bne_t p5; (.abs (by ( have q1 := hB.g5 om om om; omega)))) (fun p5 => have p5f := of_bne_f p5; (.s 3 (.opt (bitO IntKind.u32 (Int.tmod (↑x : Int) 65536)) (D.v (Value.int .u32 ((↑x : Int) % 65536))) (bitO_of (@bx_rem  ((↑x : Int)) (65536) om)) (.s 1 (.ow ((↑x : Int) % 65536) (.s 15 (.opt (bitO IntKind.u32 (IntKind.wrap IntKind.u32 (Int.tdiv (↑x : Int) 65536))) (D.v (Value.int .u32 ((↑x : Int) / 65536))) (bitO_of (@bx_quo_u32  ((↑x : Int)) (65536) om om)) (.s 1 (.ow ((↑x : Int) / 65536) (.s 2 (.ow ((↑x : Int) % 65536 + (↑x : Int) / 65536) (.s 2 (.br ((↑x : Int) % 65536 + (↑x : Int) / 65536 != 65535) (fun p6 => have p6f := of_bne_t p6; (.abs (by ( have q1 := hB.g6 om om om om; omega)))) (fun p6 => have p6f := of_bne_f p6; (.s 7 (.ow ((↑q : Int) + 32) (.s 8 (.out [] [] (D.tup [D.agg [D.v (Value.int .u8 ((↑v : Int) / 2)), D.v (.bool ((↑v : Int) % 2 == 1)), iD ((↑x : Int) % 65536), nilD, nilD], iD ((↑q : Int) + 32), iD 0]) [] R (ok _ _ (by ( have q1 := hB.g7 om om om om; rw [q1.1, q1.2.2.1, hB.la om]; exact bg_s om)) wr)))))))))))))))))))))))))))))))))))))))))))))))))) (by kernel_rfl)
theorem rBg_f (b : List UInt8) (n : Nat) (hn : n = b.length) (hN : n ≤ 1000000) (p : Nat) (hp : p ≤ 8 * n) (v q x : Nat) (hv : tkV b p 3 = v) (hv2 : v < 8) (hx : tkV b q 32 = x) (hx2 : x < 4294967296) (hq : q = (p + 3 + 7) / 8 * 8) (H : Hd) (hB : BgE b n p v q x H) (y g f h : Nat) (hy : tkV b (p + 3) 14 = y) (hy2 : y < 16384) (hg : g = y % 32) (hf : f = y / 32 % 32) (hh : h = y / 1024) (s : List UInt8 × Nat × Nat) (hs : shR b (p + 3 + 14) (h + 4) = s) (l : List UInt8 × Nat × Nat) (hl : dlR b s.1 (g + 257 + (f + 1)) s.2.1 = l) (e : Nat) (hD : DyE b (p + 3) g f h s l e) (hO : DyO (dyR b (rs0 (p + 3))) g l e) (L F : List UInt8) (hL : L = longsB) (hF : F = farsB) (he : H.s.e = 0) (hk : H.kd = 1) : SpecH false Try.prog 29 [.sl false n 1 (b.map dB), nD p] [] (.tup [.agg [u8D 1, bD H.la, iD 0, .ref 0 0 0 288 1, .ref 1 1 0 32 1], nD H.s.p, iD 0]) [⟨H.l1.map dB, 5, true⟩, ⟨H.l2.map dB, 5, true⟩] := by
  have hk3 : v / 2 ≤ 3 := by omega
  refine SpecH.run T_ok mixed Try.func29 rfl rfl rfl ⟨pl_bytes _, pl_bytes _, trivial⟩ rfl 1000 64 (fun R ok => (.s 7 (.cl 51 false [] (.fn q51 (@rTkV_3 (b) (n) om om (p) om (v) asm)) (.s 10 (.br ((↑(tkE b p 3) : Int) != 0) (fun p0 => have p0f := of_bne_t p0; (.abs (by ( have q1 := hB.g1 om; omega)))) (fun p0 => have p0f := of_bne_f p0; (.s 3 (.opt (bitO IntKind.u32 (Int.tmod (↑v : Int) 2)) (D.v (Value.int .u32 ((↑v : Int) % 2))) (bitO_of (@bx_rem  ((↑v : Int)) (2) om)) (.s 5 (.opt (bitO IntKind.u32 (IntKind.wrap IntKind.u32 (Int.tdiv (↑v : Int) 2))) (D.v (Value.int .u32 ((↑v : Int) / 2))) (bitO_of (@bx_quo_u32  ((↑v : Int)) (2) om om)) (.s 1 (.opt (wrapO .u8 ((↑v : Int) / 2)) (D.v (Value.int .u8 ((↑v : Int) / 2))) (wrapO_u8 om) (.s 10 (.ow ((↑p : Int) + 3) (.s 9 (.br ((↑v : Int) / 2 == 3) (fun p1 => have p1f := eq_of_beq p1; (.abs zw0)) (fun p1 => have p1f := of_beq_f p1; (.s 8 (.br ((↑v : Int) / 2 == 2) (fun p2 => have p2f := eq_of_beq p2; (.abs zw0)) (fun p2 => have p2f := of_beq_f p2; (.s 8 (.br ((↑v : Int) / 2 == 1) (fun p3 => have p3f := eq_of_beq p3; (.s 1 (.cl 53 false [] (.fn q53 (@rLongs (L) asm)) (.s 7 (.cl 54 false [] (.fn q54 (@rFars (F) asm)) (.s 19 (.out [272, 296] [272, 296] (D.tup [D.agg [D.v (Value.int .u8 ((↑v : Int) / 2)), D.v (.bool ((↑v : Int) % 2 == 1)), iD 0, D.ref 0 0 0 288 1, D.ref 1 1 0 32 1], iD ((↑p : Int) + 3), iD 0]) [Blk.mk (List.map dB L) 5 true, Blk.mk (List.map dB F) 5 true] R (ok _ _ (by ( have q1 := hB.g4 om om; rw [q1.1, hB.la om]; exact bg_f om)) (by ( have q1 := hB.g4 om om; rw [q1.2.2.2.1, q1.2.2.2.2, ← hL, ← hF])))))))))) (fun p3 => have p3f := of_beq_f p3; (.abs zw0)))))))))))))))))))))))) (by kernel_rfl)
theorem rBg_d (b : List UInt8) (n : Nat) (hn : n = b.length) (hN : n ≤ 1000000) (p : Nat) (hp : p ≤ 8 * n) (v q x : Nat) (hv : tkV b p 3 = v) (hv2 : v < 8) (hx : tkV b q 32 = x) (hx2 : x < 4294967296) (hq : q = (p + 3 + 7) / 8 * 8) (H : Hd) (hB : BgE b n p v q x H) (y g f h : Nat) (hy : tkV b (p + 3) 14 = y) (hy2 : y < 16384) (hg : g = y % 32) (hf : f = y / 32 % 32) (hh : h = y / 1024) (s : List UInt8 × Nat × Nat) (hs : shR b (p + 3 + 14) (h + 4) = s) (l : List UInt8 × Nat × Nat) (hl : dlR b s.1 (g + 257 + (f + 1)) s.2.1 = l) (e : Nat) (hD : DyE b (p + 3) g f h s l e) (hO : DyO (dyR b (rs0 (p + 3))) g l e) (L F : List UInt8) (hL : L = longsB) (hF : F = farsB) (he : H.s.e = 0) (hk : H.kd = 2) : SpecH false Try.prog 29 [.sl false n 1 (b.map dB), nD p] [] (.tup [.agg [u8D 2, bD H.la, iD 0, .ref 0 0 0 (g + 257) 1, .ref 0 0 (g + 257) (f + 1) 1], nD H.s.p, iD 0]) [⟨l.1.map dB, 5, true⟩] := by
  have hk3 : v / 2 ≤ 3 := by omega
  refine SpecH.run T_ok mixed Try.func29 rfl rfl rfl ⟨pl_bytes _, trivial⟩ rfl 1000 64 (fun R ok => (.s 7 (.cl 51 false [] (.fn q51 (@rTkV_3 (b) (n) om om (p) om (v) asm)) (.s 10 (.br ((↑(tkE b p 3) : Int) != 0) (fun p0 => have p0f := of_bne_t p0; (.abs (by ( have q1 := hB.g1 om; omega)))) (fun p0 => have p0f := of_bne_f p0; (.s 3 (.opt (bitO IntKind.u32 (Int.tmod (↑v : Int) 2)) (D.v (Value.int .u32 ((↑v : Int) % 2))) (bitO_of (@bx_rem  ((↑v : Int)) (2) om)) (.s 5 (.opt (bitO IntKind.u32 (IntKind.wrap IntKind.u32 (Int.tdiv (↑v : Int) 2))) (D.v (Value.int .u32 ((↑v : Int) / 2))) (bitO_of (@bx_quo_u32  ((↑v : Int)) (2) om om)) (.s 1 (.opt (wrapO .u8 ((↑v : Int) / 2)) (D.v (Value.int .u8 ((↑v : Int) / 2))) (wrapO_u8 om) (.s 10 (.ow ((↑p : Int) + 3) (.s 9 (.br ((↑v : Int) / 2 == 3) (fun p1 => have p1f := eq_of_beq p1; (.abs zw0)) (fun p1 => have p1f := of_beq_f p1; (.s 8 (.br ((↑v : Int) / 2 == 2) (fun p2 => have p2f := eq_of_beq p2; (.s 7 (.em (decide (e ≠ 0)) (fun p3 => have p3f := odt p3; (.abs (by ( have q1 := (hB.g3 om om).1; rw [q1, hO.h1] at he; omega)))) (fun p3 => have p3f := odf p3; (.call 52 false [] (true) wr ([D.agg [D.v (Value.int .u8 ((↑v : Int) / 2)), D.v (.bool ((↑v : Int) % 2 == 1)), iD 0, nilD, nilD], D.sl false n 1 (List.map dB b), iD ((↑p : Int) + 3)]) _ zw2 (true) wr _ _ _ (CallOk.fn (FnOk.of Try.func52 rfl rfl) (@rDy_o (b) (n) om om (p + 3) (by ( exact hB.p3 om)) (v / 2) ((↑v : Int) % 2 == 1) om (y) asm om (g) (f) (h) asm asm asm (s) asm (l) asm (e) asm om)) (.s 28 (.out [272] [272] (D.tup [D.agg [D.v (Value.int .u8 (↑(v / 2) : Int)), D.v (.bool ((↑v : Int) % 2 == 1)), iD 0, D.ref 0 0 0 (g + 257) 1, D.ref 0 0 (g + 257) (f + 1) 1], nD (Prod.fst (Prod.snd l)), iD 0]) [Blk.mk (List.map dB (Prod.fst l)) 5 true] R (ok _ _ (by ( have q1 := hB.g3 om om; have q2 : e = 0 := (by rw [q1.1, hO.h1] at he; exact he); rw [q1.1, hO.h2 q2, hB.la om]; exact bg_d om)) wr)))))))) (fun p2 => have p2f := of_beq_f p2; (.abs zw0))))))))))))))))))))) (by kernel_rfl)
end Vp
end Go.Proofs.Ytegjeagfcfhbeaa
namespace Go.Proofs.Ytegjeagfcfhbeaa
open Go.RowKit Go.Bw Go.Vx
namespace Vp
set_option linter.unusedVariables false
set_option linter.unusedSimpArgs false
set_option maxRecDepth 100000
set_option maxHeartbeats 4000000
def tpF (b : List UInt8) (most : Int) : Nat → Option Kb → Rs → List UInt8 → Nat
  | 0, _, s, _ => s.p
  | k + 1, none, s, o => if (hdR b s).s.e ≠ 0 then s.p else tpF b most k (some (kbH b s)) (hdR b s).s o
  | k + 1, some K, s, o =>
    if (stK b K s).1.e ≠ 0 then s.p
    else if (stK b K s).2.2.2.2 = true then (if K.la = true then (stK b K s).1.p else tpF b most k none (stK b K s).1 o)
    else if (tkC most (stK b K s).2.2.1 (stK b K s).2.2.2.1 (stK b K s).1 o).e ≠ 0 then (stK b K s).1.p
    else tpF b most k (some { K with le := K.le - 1 }) (tkC most (stK b K s).2.2.1 (stK b K s).2.2.2.1 (stK b K s).1 o) (plT (stK b K s).2.1 (stK b K s).2.2.1 (stK b K s).2.2.2.1 o)
theorem tp_err {b : List UInt8} {most : Int} : ∀ (k : Nat) (m : Option Kb) (s : Rs) (o : List UInt8), s.e ≠ 0 → tpF b most k m s o = s.p
  | 0, _, _, _, _ => rfl
  | k + 1, none, s, o, h => by rw [tpF, hd_x h, if_pos h]
  | k + 1, some K, s, o, h => by
    have e : (stK b K s).1 = s := st_x h
    rw [tpF, e, if_pos h]
theorem tp_fuel {b : List UInt8} {most : Int} : ∀ (k m : Nat) (md : Option Kb) (s : Rs) (o : List UInt8), Rok b.length s → mu b md s ≤ k → mu b md s ≤ m → tpF b most k md s o = tpF b most m md s o
  | 0, m, md, s, o, _, h, _ => by
    by_cases he : s.e = 0
    · have : 0 < mu b md s := by
        cases md with
        | none => rw [mu_none he]; have := ‹Rok b.length s› he; omega
        | some K => rw [mu_some he]; omega
      omega
    · rw [tp_err _ _ _ _ he, tp_err _ _ _ _ he]
  | k + 1, 0, md, s, o, _, _, h => by
    by_cases he : s.e = 0
    · have : 0 < mu b md s := by
        cases md with
        | none => rw [mu_none he]; have := ‹Rok b.length s› he; omega
        | some K => rw [mu_some he]; omega
      omega
    · rw [tp_err _ _ _ _ he, tp_err _ _ _ _ he]
  | k + 1, m + 1, none, s, o, hs, h1, h2 => by
    by_cases he : s.e = 0
    · have := mu_in hs he
      rw [tpF, tpF]
      split
      · rfl
      · exact tp_fuel k m _ _ _ (hd_ok hs) (by omega) (by omega)
    · rw [tp_err _ _ _ _ he, tp_err _ _ _ _ he]
  | k + 1, m + 1, some K, s, o, hs, h1, h2 => by
    have hr : Rok b.length (stK b K s).1 := Rok.st hs
    rw [tpF, tpF]
    split
    · rfl
    · next q1 =>
      have q1 : (stK b K s).1.e = 0 := by omega
      split
      · split
        · rfl
        · have := mu_out hs q1
          exact tp_fuel k m _ _ _ hr (by omega) (by omega)
      · next q =>
        split
        · rfl
        · next q2 =>
          have q3 : (stK b K s).2.2.2.2 = false := by
            cases y : (stK b K s).2.2.2.2
            · rfl
            · exact absurd y q
          have := mu_go (K2 := { K with le := K.le - 1 }) hs hr.tc q1 q3 (tkC_p most (stK b K s).2.2.1 (stK b K s).2.2.2.1 (stK b K s).1 o) (by omega)
          exact tp_fuel k m _ _ _ hr.tc (by omega) (by omega)
def tpR (b : List UInt8) (most : Int) (m : Option Kb) (s : Rs) (o : List UInt8) : Nat := lk b (tpF b most (mu b m s) m s o)
theorem tpR_eq {b : List UInt8} {most : Int} {m : Option Kb} {s : Rs} {o : List UInt8} : tpR b most m s o = tpF b most (mu b m s) m s o := lk_eq _ _
structure TdR (b : List UInt8) (most : Int) (m : Option Kb) (s : Rs) (o : List UInt8) (R : Rs × List UInt8) (Q : Nat) : Prop where
  r : tlR b most m s o = R
  q : tpR b most m s o = Q
section
variable {b : List UInt8} {most : Int} {K : Kb} {s : Rs} {o : List UInt8} {R : Rs × List UInt8} {Q : Nat}
theorem td_hx (hs : Rok b.length s) (h : s.e = 0) (hT : TdR b most none s o R Q) (he : (hdR b s).s.e ≠ 0) : R = ((hdR b s).s, o) ∧ Q = s.p := by
  have h1 := tl_in hs h hT.r
  rw [tlR_eq, tl_err _ _ _ _ he] at h1
  refine ⟨h1.symm, ?_⟩
  have := mu_in hs h
  have h2 := hT.q
  rw [tpR_eq, show mu b none s = (mu b none s - 1) + 1 from by omega, tpF, if_pos he] at h2
  exact h2.symm
theorem td_in (hs : Rok b.length s) (h : s.e = 0) (hT : TdR b most none s o R Q) (he : (hdR b s).s.e = 0) : TdR b most (some (kbH b s)) (hdR b s).s o R Q := by
  refine ⟨tl_in hs h hT.r, ?_⟩
  have := mu_in hs h
  have h2 := hT.q
  rw [tpR_eq, show mu b none s = (mu b none s - 1) + 1 from by omega, tpF, if_neg (by omega)] at h2
  rw [← h2, tpR_eq]
  exact tp_fuel _ _ _ _ _ (hd_ok hs) (Nat.le_refl _) (by omega)
theorem tp_st (hQ : tpR b most (some K) s o = Q) (h : s.e = 0) : Q = tpF b most (mu b (some K) s - 1 + 1) (some K) s o := by
  rw [tpR_eq] at hQ
  have := mu_pos (b := b) K h
  rw [← hQ, show mu b (some K) s - 1 + 1 = mu b (some K) s from by omega]
theorem td_x (hs : Rok b.length s) (h : s.e = 0) (hT : TdR b most (some K) s o R Q) (he : (stK b K s).1.e ≠ 0) : R = ((stK b K s).1, o) ∧ Q = s.p := by
  refine ⟨tl_end hs hT.r (.inl he) (.inl he), ?_⟩
  rw [tp_st hT.q h, tpF, if_pos he]
theorem td_end (hs : Rok b.length s) (h : s.e = 0) (hT : TdR b most (some K) s o R Q) (he : (stK b K s).1.e = 0) (h2 : (stK b K s).2.2.2.2 = true) (hl : K.la = true) : R = ((stK b K s).1, o) ∧ Q = (stK b K s).1.p := by
  refine ⟨tl_end hs hT.r (.inr hl) (.inr h2), ?_⟩
  rw [tp_st hT.q h, tpF, if_neg (by omega), if_pos h2, if_pos hl]
theorem td_out (hs : Rok b.length s) (h : s.e = 0) (hT : TdR b most (some K) s o R Q) (he : (stK b K s).1.e = 0) (h2 : (stK b K s).2.2.2.2 = true) (hl : K.la = false) : TdR b most none (stK b K s).1 o R Q := by
  refine ⟨tl_out hs hT.r he hl h2, ?_⟩
  have h4 := mu_out hs he
  rw [tp_st hT.q h, tpF, if_neg (by omega), if_pos h2, if_neg (by rw [hl]; decide), tpR_eq]
  exact tp_fuel _ _ _ _ _ (Rok.st hs) (Nat.le_refl _) (Nat.le_sub_one_of_lt h4)
theorem td_bad (hs : Rok b.length s) (h : s.e = 0) (hT : TdR b most (some K) s o R Q) (he : (stK b K s).1.e = 0) (h2 : (stK b K s).2.2.2.2 = false) (h3 : (tkC most (stK b K s).2.2.1 (stK b K s).2.2.2.1 (stK b K s).1 o).e ≠ 0) : R = (tkC most (stK b K s).2.2.1 (stK b K s).2.2.2.1 (stK b K s).1 o, o) ∧ Q = (stK b K s).1.p := by
  refine ⟨tl_bad hT.r he h2 h3, ?_⟩
  rw [tp_st hT.q h, tpF, if_neg (by omega), if_neg (by rw [h2]; decide), if_pos h3]
theorem td_go (hs : Rok b.length s) (h : s.e = 0) (hT : TdR b most (some K) s o R Q) (he : (stK b K s).1.e = 0) (h2 : (stK b K s).2.2.2.2 = false) (h3 : (tkC most (stK b K s).2.2.1 (stK b K s).2.2.2.1 (stK b K s).1 o).e = 0) : TdR b most (some { K with le := K.le - 1 }) (stK b K s).1 (plT (stK b K s).2.1 (stK b K s).2.2.1 (stK b K s).2.2.2.1 o) R Q := by
  have e := (tkC_e h3).2.2.2
  have h5 := tl_go hs hT.r he h2 h3
  rw [e] at h5
  refine ⟨h5, ?_⟩
  have hr : Rok b.length (stK b K s).1 := Rok.st hs
  have h6 := mu_go (K2 := { K with le := K.le - 1 }) hs hr.tc he h2 (tkC_p most (stK b K s).2.2.1 (stK b K s).2.2.2.1 (stK b K s).1 o) h3
  rw [e] at h6
  rw [tp_st hT.q h, tpF, if_neg (by omega), if_neg (by rw [h2]; decide), if_neg (by omega), e, tpR_eq]
  exact tp_fuel _ _ _ _ _ hr (Nat.le_refl _) (by omega)
end

def dY (b : List UInt8) (p : Nat) : Nat := tkV b (p + 3) 14
def dS (b : List UInt8) (p : Nat) : List UInt8 × Nat × Nat := shR b (p + 3 + 14) (dY b p / 1024 + 4)
def dL (b : List UInt8) (p : Nat) : List UInt8 × Nat × Nat := dlR b (dS b p).1 (dY b p % 32 + 257 + (dY b p / 32 % 32 + 1)) (dS b p).2.1
def dO (b : List UInt8) (p : Nat) : List UInt8 := lk b (dL b p).1
def gG (b : List UInt8) (p : Nat) : Nat := lk b (dY b p % 32 + 257)
def gF (b : List UInt8) (p : Nat) : Nat := lk b (dY b p / 32 % 32 + 1)
theorem dO_eq (b : List UInt8) (p : Nat) : dO b p = (dL b p).1 := lk_eq _ _
theorem gG_eq (b : List UInt8) (p : Nat) : gG b p = dY b p % 32 + 257 := lk_eq _ _
theorem gF_eq (b : List UInt8) (p : Nat) : gF b p = dY b p / 32 % 32 + 1 := lk_eq _ _
structure HdF (b : List UInt8) (n p : Nat) : Prop where
  k0 : (hdR b (rs0 p)).kd = 0 → (hdR b (rs0 p)).s.e = 0 → (hdR b (rs0 p)).l1 = [] ∧ (hdR b (rs0 p)).l2 = [] ∧ (hdR b (rs0 p)).le ≤ 65535
  k1 : (hdR b (rs0 p)).kd = 1 → (hdR b (rs0 p)).s.e = 0 → (hdR b (rs0 p)).l1.length = 288 ∧ (hdR b (rs0 p)).l2.length = 32 ∧ (hdR b (rs0 p)).le = 0
  k2 : (hdR b (rs0 p)).kd = 2 → (hdR b (rs0 p)).s.e = 0 → (hdR b (rs0 p)).l1 = (dO b p).take (gG b p) ∧ (hdR b (rs0 p)).l2 = (dO b p).drop (gG b p) ∧ (dO b p).length = gG b p + gF b p ∧ (hdR b (rs0 p)).le = 0
  g : gG b p ≤ 400 ∧ gF b p ≤ 400
  t1 : canE (hdR b (rs0 p)).l1 15 = 0
  t2 : canE (hdR b (rs0 p)).l2 15 = 0
  kd : (hdR b (rs0 p)).s.e = 0 → (hdR b (rs0 p)).kd ≤ 2
  p3 : (hdR b (rs0 p)).s.e = 0 → p + 3 ≤ (hdR b (rs0 p)).s.p ∧ (hdR b (rs0 p)).s.p ≤ 8 * n ∧ (hdR b (rs0 p)).s = rs0 (hdR b (rs0 p)).s.p
theorem rs_eta {s : Rs} (h : s.e = 0) : s = rs0 s.p := by cases s; simp only at h; subst h; rfl
section
variable {b : List UInt8} {n : Nat} (hn : n = b.length) (hN : n ≤ 1000000) {p : Nat} (hp : p ≤ 8 * n)
include hn
theorem bg_of (p : Nat) : BgE b n p (tkV b p 3) ((p + 3 + 7) / 8 * 8) (tkV b ((p + 3 + 7) / 8 * 8) 32) (hdR b (rs0 p)) := bg_st b n hn p _ _ _ rfl rfl rfl
include hp
theorem hdF : HdF b n p := by
  have hB := bg_of hn p
  have ht := hd_t b (rs0 p)
  have hk3 : ((hdR b (rs0 p)).s.e = 0 → tkE b p 3 = 0) := fun q => by
    rcases Classical.em (tkE b p 3 = 0) with z | z
    · exact z
    · have := hB.g1 z; omega
  have hy := tkV_lt b (p + 3) 14
  have e2 : (2 : Nat) ^ 14 = 16384 := rfl
  refine ⟨fun q q2 => ?_, fun q q2 => ?_, fun q q2 => ?_, ?_, ht.1, ht.2.1, ht.2.2.2.2, fun q => ?_⟩
  · have z := hk3 q2
    have zk := hB.kd z
    have z0 : tkV b p 3 / 2 = 0 := by omega
    by_cases c : tkE b ((p + 3 + 7) / 8 * 8) 32 = 0
    · by_cases c2 : tkV b ((p + 3 + 7) / 8 * 8) 32 % 65536 + tkV b ((p + 3 + 7) / 8 * 8) 32 / 65536 = 65535
      · have g7 := hB.g7 z z0 c c2
        exact ⟨g7.2.2.2.1, g7.2.2.2.2, by rw [g7.2.2.1]; omega⟩
      · have := hB.g6 z z0 c c2; omega
    · have := hB.g5 z z0 c; omega
  · have z := hk3 q2
    have zk := hB.kd z
    have g4 := hB.g4 z (by omega)
    rw [g4.2.2.2.1, g4.2.2.2.2]
    exact ⟨longs_len, fars_len, g4.2.2.1⟩
  · have z := hk3 q2
    have zk := hB.kd z
    have g3 := hB.g3 z (by omega)
    obtain ⟨e, hD, hO⟩ := dy_st b (p + 3)
    have he : e = 0 := by rw [← hO.h1, ← g3.1]; exact q2
    have h2 := hO.h2 he
    rw [g3.2.2.2.1, g3.2.2.2.2, h2, dO_eq, gG_eq, gF_eq]
    have hl : (dL b p).1.length = dY b p % 32 + 257 + (dY b p / 32 % 32 + 1) := by
      have t0 : tkE b (p + 3) 14 = 0 := by
        rcases Classical.em (tkE b (p + 3) 14 = 0) with y | y
        · exact y
        · have := hD.f1 y; have := tkE_10 y; omega
      have gf : tkV b (p + 3) 14 % 32 ≤ 29 ∧ tkV b (p + 3) 14 / 32 % 32 ≤ 29 := by
        rcases Classical.em (29 < tkV b (p + 3) 14 % 32 ∨ 29 < tkV b (p + 3) 14 / 32 % 32) with y | y
        · have := hD.f2 t0 y; omega
        · omega
      have s0 : (dS b p).2.2 = 0 := by
        rcases Classical.em ((dS b p).2.2 = 0) with y | y
        · exact y
        · have := hD.f3 t0 gf.1 gf.2 y; exact absurd (this.symm.trans he) y
      have l0 : (dL b p).2.2 = 0 := by
        rcases Classical.em ((dL b p).2.2 = 0) with y | y
        · exact y
        · have := hD.f4 t0 gf.1 gf.2 s0 y; exact absurd (this.symm.trans he) y
      exact (hD.l1 t0 s0 l0).1
    exact ⟨rfl, rfl, hl, g3.2.2.1⟩
  · rw [gG_eq, gF_eq]; omega
  · have h1 := hd_adv b (rs0 p) q
    have h2 := hd_ok (b := b) (s := rs0 p) (fun _ => by show p ≤ _; omega) q
    exact ⟨h1.2, by omega, rs_eta q⟩
include hN
theorem rBc_e (he : (hdR b (rs0 p)).s.e ≠ 0) : SpecH false Try.prog 29 [.sl false n 1 (b.map dB), nD p] [] (.tup [.agg [u8D 0, bD false, iD 0, nilD, nilD], iD 0, nD (hdR b (rs0 p)).s.e]) [] := by
  obtain ⟨e, hD, hO⟩ := dy_st b (p + 3)
  exact rBg_e b n hn hN p hp _ _ _ rfl (tkV_lt b p 3) rfl (tkV_lt b _ 32) rfl _ (bg_of hn p) _ _ _ _ rfl (tkV_lt b _ 14) rfl rfl rfl _ rfl _ rfl e hD hO _ _ rfl rfl he
theorem rBc_s (he : (hdR b (rs0 p)).s.e = 0) (hk : (hdR b (rs0 p)).kd = 0) : SpecH false Try.prog 29 [.sl false n 1 (b.map dB), nD p] [] (.tup [.agg [u8D 0, bD (hdR b (rs0 p)).la, nD (hdR b (rs0 p)).le, nilD, nilD], nD (hdR b (rs0 p)).s.p, iD 0]) [] := by
  obtain ⟨e, hD, hO⟩ := dy_st b (p + 3)
  exact rBg_s b n hn hN p hp _ _ _ rfl (tkV_lt b p 3) rfl (tkV_lt b _ 32) rfl _ (bg_of hn p) _ _ _ _ rfl (tkV_lt b _ 14) rfl rfl rfl _ rfl _ rfl e hD hO _ _ rfl rfl he hk
theorem rBc_f (he : (hdR b (rs0 p)).s.e = 0) (hk : (hdR b (rs0 p)).kd = 1) : SpecH false Try.prog 29 [.sl false n 1 (b.map dB), nD p] [] (.tup [.agg [u8D 1, bD (hdR b (rs0 p)).la, iD 0, .ref 0 0 0 288 1, .ref 1 1 0 32 1], nD (hdR b (rs0 p)).s.p, iD 0]) [⟨(hdR b (rs0 p)).l1.map dB, 5, true⟩, ⟨(hdR b (rs0 p)).l2.map dB, 5, true⟩] := by
  obtain ⟨e, hD, hO⟩ := dy_st b (p + 3)
  exact rBg_f b n hn hN p hp _ _ _ rfl (tkV_lt b p 3) rfl (tkV_lt b _ 32) rfl _ (bg_of hn p) _ _ _ _ rfl (tkV_lt b _ 14) rfl rfl rfl _ rfl _ rfl e hD hO _ _ rfl rfl he hk
theorem rBc_d (he : (hdR b (rs0 p)).s.e = 0) (hk : (hdR b (rs0 p)).kd = 2) : SpecH false Try.prog 29 [.sl false n 1 (b.map dB), nD p] [] (.tup [.agg [u8D 2, bD (hdR b (rs0 p)).la, iD 0, .ref 0 0 0 (gG b p) 1, .ref 0 0 (gG b p) (gF b p) 1], nD (hdR b (rs0 p)).s.p, iD 0]) [⟨(dO b p).map dB, 5, true⟩] := by
  obtain ⟨e, hD, hO⟩ := dy_st b (p + 3)
  rw [gG_eq, gF_eq, dO_eq]
  exact rBg_d b n hn hN p hp _ _ _ rfl (tkV_lt b p 3) rfl (tkV_lt b _ 32) rfl _ (bg_of hn p) _ _ _ _ rfl (tkV_lt b _ 14) rfl rfl rfl _ rfl _ rfl e hD hO _ _ rfl rfl he hk
end
end Vp
end Go.Proofs.Ytegjeagfcfhbeaa

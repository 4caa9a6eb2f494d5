/- Vp6: made by vx.py. -/
import Derived.Test.YtegjeagfcfhbeaaQVp5
import Derived.Test.YtegjeagfcfhbeaaQVp4r
namespace Go.Proofs.Ytegjeagfcfhbeaa
open Go.RowKit Go.Bw Go.Vx
namespace Vp
set_option linter.unusedVariables false
set_option linter.unusedSimpArgs false
def nuB (far : Bool) (sy : Nat) : Nat := match far with
  | false => btN longsT 257 sy
  | true => btN farsT 0 sy
def nuE (far : Bool) (sy : Nat) : Nat := match far with
  | false => btE longsT 257 sy
  | true => btE farsT 0 sy
def nuV (far : Bool) (sy x : Nat) : Nat := match far with
  | false => ofN longsT 257 sy x
  | true => ofN farsT 0 sy x
def nuF (far : Bool) (sy x : Nat) : Nat := match far with
  | false => ofE longsT 257 sy x
  | true => ofE farsT 0 sy x
theorem nuB_le (far : Bool) (sy : Nat) : nuB far sy ≤ 13 := by
  cases far
  · show btN _ _ _ ≤ 13; unfold btN; split; exact (longs_small _).1; exact Nat.zero_le _
  · show btN _ _ _ ≤ 13; unfold btN; split; exact (fars_small _).1; exact Nat.zero_le _
theorem ofN_le {T : List Sy} (h : smallT T) (f : Int) (s x : Nat) (hx : x ≤ 100000) : ofN T f s x ≤ 200000 := by
  unfold ofN; split
  · have := (h ((s : Int) - f).toNat).2.1; omega
  · exact Nat.zero_le _
theorem nuV_le (far : Bool) (sy x : Nat) (hx : x ≤ 100000) : nuV far sy x ≤ 200000 := by
  cases far
  · exact ofN_le longs_small _ _ _ hx
  · exact ofN_le fars_small _ _ _ hx
/-- Behind a number's symbol. -/
def nbA (far : Bool) (sy : Nat) (s : Rs) : Rs := fl s (((nuE far sy : Nat) : Int) == 0) (nuE far sy)
def nbX (b : List UInt8) (far : Bool) (sy : Nat) (s : Rs) : Nat := tkN b (nuB far sy) (nbA far sy s)
def nbT (b : List UInt8) (far : Bool) (sy : Nat) (s : Rs) : Rs := tkS b (nuB far sy) (nbA far sy s)
def nbS (b : List UInt8) (far : Bool) (sy : Nat) (s : Rs) : Rs := lk b (if s.e ≠ 0 then s else if (nbT b far sy s).e ≠ 0 then nbT b far sy s else fl (nbT b far sy s) (((nuF far sy (nbX b far sy s) : Nat) : Int) == 0) (nuF far sy (nbX b far sy s)))
def nbN (b : List UInt8) (far : Bool) (sy : Nat) (s : Rs) : Nat := lk b (if s.e ≠ 0 then 0 else if (nbT b far sy s).e ≠ 0 then 0 else nuV far sy (nbX b far sy s))
theorem nbS_x {b : List UInt8} {far : Bool} {sy : Nat} {s : Rs} (h : s.e ≠ 0) : nbS b far sy s = s ∧ nbN b far sy s = 0 := ⟨(lk_eq _ _).trans (if_pos h), (lk_eq _ _).trans (if_pos h)⟩
theorem nbS_1 {b : List UInt8} {far : Bool} {sy : Nat} {s : Rs} (h : s.e = 0) (h2 : (nbT b far sy s).e ≠ 0) : nbS b far sy s = nbT b far sy s ∧ nbN b far sy s = 0 := ⟨(lk_eq _ _).trans ((if_neg (by omega)).trans (if_pos h2)), (lk_eq _ _).trans ((if_neg (by omega)).trans (if_pos h2))⟩
theorem nbS_2 {b : List UInt8} {far : Bool} {sy : Nat} {s : Rs} (h : s.e = 0) (h2 : (nbT b far sy s).e = 0) : nbS b far sy s = fl (nbT b far sy s) (((nuF far sy (nbX b far sy s) : Nat) : Int) == 0) (nuF far sy (nbX b far sy s)) ∧ nbN b far sy s = nuV far sy (nbX b far sy s) := ⟨(lk_eq _ _).trans ((if_neg (by omega)).trans (if_neg (by omega))), (lk_eq _ _).trans ((if_neg (by omega)).trans (if_neg (by omega)))⟩
theorem nbX_le (b : List UInt8) (far : Bool) (sy : Nat) (s : Rs) : nbX b far sy s ≤ 100000 := by
  have h1 := tkN_lt b (nuB far sy) (nbA far sy s)
  have h2 : 2 ^ nuB far sy ≤ 2 ^ 13 := Nat.pow_le_pow_right (by decide) (nuB_le far sy)
  unfold nbX; omega
theorem nbN_le (b : List UInt8) (far : Bool) (sy : Nat) (s : Rs) : nbN b far sy s ≤ 200000 := by
  unfold nbN; rw [lk_eq]; split
  · exact Nat.zero_le _
  · split
    · exact Nat.zero_le _
    · exact nuV_le _ _ _ (nbX_le _ _ _ _)
theorem Rok.nb {b : List UInt8} {s : Rs} (h : Rok b.length s) (far : Bool) (sy : Nat) : Rok b.length (nbS b far sy s) := by
  by_cases h0 : s.e = 0
  · by_cases h1 : (nbT b far sy s).e = 0
    · rw [(nbS_2 h0 h1).1]; exact ((h.fl _ _).tk _).fl _ _
    · rw [(nbS_1 h0 h1).1]; exact (h.fl _ _).tk _
  · rw [(nbS_x h0).1]; exact h
theorem LongBits_t (s : Nat) (hs : s ≤ 1000000) : SpecH false Try.prog 58 [nD s] [] (.tup [nD (nuB false s), nD (nuE false s)]) [] := LongBits_T longsT rfl rfl longs_small s hs
theorem LongOf_t (s : Nat) (hs : s ≤ 1000000) (x : Nat) (hx : x ≤ 1000000) : SpecH false Try.prog 59 [nD s, nD x] [] (.tup [nD (nuV false s x), nD (nuF false s x)]) [] := LongOf_T longsT rfl rfl longs_small s hs x hx
set_option maxRecDepth 100000 in
set_option maxHeartbeats 4000000 in
theorem num_Long (b : List UInt8) (n : Nat) (hn : n = b.length) (hN : n ≤ 1000000) (s : Rs) (hs : Rok n s) (y : Nat) (hy : y ≤ 1000000) : SpecH true Try.prog 57 [.ptr 0 0 0, nD y, .fn (.func 58) [] [], .fn (.func 59) [] []] [⟨[.sl false n 1 (b.map dB), nD (s).p, nD (s).e], 70, false⟩] (nD (nbN b false y s)) [⟨[.sl false n 1 (b.map dB), nD (nbS b false y s).p, nD (nbS b false y s).e], 70, false⟩] := by
  have ho : s.e = 0 → s.p ≤ 8 * n := hs
  have hb := nuB_le false y
  have hx := nbX_le b false y s
  have hA : nbA false y s = fl s (((nuE false y : Nat) : Int) == 0) (nuE false y) := rfl
  have hX : tkN b (nuB false y) (fl s (((nuE false y : Nat) : Int) == 0) (nuE false y)) = nbX b false y s := rfl
  have hT : tkS b (nuB false y) (fl s (((nuE false y : Nat) : Int) == 0) (nuE false y)) = nbT b false y s := rfl
  refine SpecH.run T_ok mixed Try.func57 rfl rfl rfl ⟨rfl, trivial⟩ rfl 1000 64 (fun R ok => (.s 11 (.br ((↑(Rs.e s) : Int) != 0)
  (fun p0 => have p0f := of_bne_t p0; (.s 1 (.out [0] [0] (D.v (Value.int IntKind.i64 0)) [Blk.mk [D.sl false n 1 (List.map dB b), D.v (Value.int IntKind.i64 (↑(Rs.p s) : Int)), D.v (Value.int IntKind.i64 (↑(Rs.e s) : Int))] 70 false] R (ok _ _ (by ( rw [(nbS_x (by omega)).2]; rfl)) (by ( rw [(nbS_x (by omega)).1]))))))
  (fun p0 => have p0f := of_bne_f p0; (.s 3 (.call 58 false [] (true) (by with_reducible rfl) ([D.v (Value.int IntKind.i64 (↑y : Int))]) _ (simL.refl _) (true) (by with_reducible rfl) _ _ _ (CallOk.fn (FnOk.of Try.func58 rfl rfl) (@Go.Proofs.Ytegjeagfcfhbeaa.Vp.LongBits_t (y) (by omega))) (.s 13 (.call 47 true [0] (true) (by with_reducible rfl) ([D.ptr 0 0 0, D.v (Value.bool ((↑(nuE false y) : Int) == 0)), D.v (Value.int IntKind.i64 (↑(nuE false y) : Int))]) _ (simL.refl _) (true) (by with_reducible rfl) _ _ _ (CallOk.fn (FnOk.of Try.func47 rfl rfl) (@Go.Proofs.Ytegjeagfcfhbeaa.Vp.fail_t (b) (n) (by omega) (by omega) (s) ((↑(nuE false y) : Int) == 0) ((↑(nuE false y) : Int)) (by omega))) (.s 3 (.call 46 true [0] (true) (by with_reducible rfl) ([D.ptr 0 0 0, D.v (Value.int IntKind.i64 (↑(nuB false y) : Int))]) _ (simL.refl _) (true) (by with_reducible rfl) _ _ _ (CallOk.fn (FnOk.of Try.func46 rfl rfl) (@Go.Proofs.Ytegjeagfcfhbeaa.Vp.take_t (b) (n) (by omega) (by omega) (fl s ((↑(nuE false y) : Int) == 0) (nuE false y)) (by (exact Rok.fl hs _ _)) ((↑(nuB false y) : Int)) (by omega))) (.s 11 (.br ((↑(Rs.e (tkS b (nuB false y) (fl s ((↑(nuE false y) : Int) == 0) (nuE false y)))) : Int) != 0)
    (fun p1 => have p1f := of_bne_t p1; (.s 1 (.out [0] [0] (D.v (Value.int IntKind.i64 0)) [Blk.mk [D.sl false n 1 (List.map dB b), D.v (Value.int IntKind.i64 (↑(Rs.p (tkS b (nuB false y) (fl s ((↑(nuE false y) : Int) == 0) (nuE false y)))) : Int)), D.v (Value.int IntKind.i64 (↑(Rs.e (tkS b (nuB false y) (fl s ((↑(nuE false y) : Int) == 0) (nuE false y)))) : Int))] 70 false] R (ok _ _ (by ( rw [(nbS_1 (b := b) (far := false) (sy := y) (s := s) (by omega) (by first | assumption | (rw [← hT]; omega))).2]; rfl)) (by ( rw [(nbS_1 (b := b) (far := false) (sy := y) (s := s) (by omega) (by first | assumption | (rw [← hT]; omega))).1]; rfl))))))
    (fun p1 => have p1f := of_bne_f p1; (.s 4 (.call 59 false [] (true) (by with_reducible rfl) ([D.v (Value.int IntKind.i64 (↑y : Int)), D.v (Value.int IntKind.i64 (↑(tkN b (nuB false y) (fl s ((↑(nuE false y) : Int) == 0) (nuE false y))) : Int))]) _ (simL.refl _) (true) (by with_reducible rfl) _ _ _ (CallOk.fn (FnOk.of Try.func59 rfl rfl) (@Go.Proofs.Ytegjeagfcfhbeaa.Vp.LongOf_t (y) (by omega) (tkN b (nuB false y) (fl s ((↑(nuE false y) : Int) == 0) (nuE false y))) (by omega))) (.s 13 (.call 47 true [0] (true) (by with_reducible rfl) ([D.ptr 0 0 0, D.v (Value.bool ((↑(nuF false y (tkN b (nuB false y) (fl s ((↑(nuE false y) : Int) == 0) (nuE false y)))) : Int) == 0)), D.v (Value.int IntKind.i64 (↑(nuF false y (tkN b (nuB false y) (fl s ((↑(nuE false y) : Int) == 0) (nuE false y)))) : Int))]) _ (simL.refl _) (true) (by with_reducible rfl) _ _ _ (CallOk.fn (FnOk.of Try.func47 rfl rfl) (@Go.Proofs.Ytegjeagfcfhbeaa.Vp.fail_t (b) (n) (by omega) (by omega) (tkS b (nuB false y) (fl s ((↑(nuE false y) : Int) == 0) (nuE false y))) ((↑(nuF false y (tkN b (nuB false y) (fl s ((↑(nuE false y) : Int) == 0) (nuE false y)))) : Int) == 0) ((↑(nuF false y (tkN b (nuB false y) (fl s ((↑(nuE false y) : Int) == 0) (nuE false y)))) : Int)) (by omega))) (.s 2 (.out [0] [0] (D.v (Value.int IntKind.i64 (↑(nuV false y (tkN b (nuB false y) (fl s ((↑(nuE false y) : Int) == 0) (nuE false y)))) : Int))) [Blk.mk [D.sl false n 1 (List.map dB b), D.v (Value.int IntKind.i64 (↑(Rs.p (fl (tkS b (nuB false y) (fl s ((↑(nuE false y) : Int) == 0) (nuE false y))) ((↑(nuF false y (tkN b (nuB false y) (fl s ((↑(nuE false y) : Int) == 0) (nuE false y)))) : Int) == 0) (nuF false y (tkN b (nuB false y) (fl s ((↑(nuE false y) : Int) == 0) (nuE false y)))))) : Int)), D.v (Value.int IntKind.i64 (↑(Rs.e (fl (tkS b (nuB false y) (fl s ((↑(nuE false y) : Int) == 0) (nuE false y))) ((↑(nuF false y (tkN b (nuB false y) (fl s ((↑(nuE false y) : Int) == 0) (nuE false y)))) : Int) == 0) (nuF false y (tkN b (nuB false y) (fl s ((↑(nuE false y) : Int) == 0) (nuE false y)))))) : Int))] 70 false] R (ok _ _ (by ( rw [(nbS_2 (b := b) (far := false) (sy := y) (s := s) (by omega) (by first | assumption | (rw [← hT]; omega))).2]; rfl)) (by ( rw [(nbS_2 (b := b) (far := false) (sy := y) (s := s) (by omega) (by first | assumption | (rw [← hT]; omega))).1]; rfl)))))))))))))))))))))) (by kernel_rfl)
theorem FarBits_t (s : Nat) (hs : s ≤ 1000000) : SpecH false Try.prog 60 [nD s] [] (.tup [nD (nuB true s), nD (nuE true s)]) [] := FarBits_T farsT rfl rfl fars_small s hs
theorem FarOf_t (s : Nat) (hs : s ≤ 1000000) (x : Nat) (hx : x ≤ 1000000) : SpecH false Try.prog 61 [nD s, nD x] [] (.tup [nD (nuV true s x), nD (nuF true s x)]) [] := FarOf_T farsT rfl rfl fars_small s hs x hx
set_option maxRecDepth 100000 in
set_option maxHeartbeats 4000000 in
theorem num_Far (b : List UInt8) (n : Nat) (hn : n = b.length) (hN : n ≤ 1000000) (s : Rs) (hs : Rok n s) (y : Nat) (hy : y ≤ 1000000) : SpecH true Try.prog 57 [.ptr 0 0 0, nD y, .fn (.func 60) [] [], .fn (.func 61) [] []] [⟨[.sl false n 1 (b.map dB), nD (s).p, nD (s).e], 70, false⟩] (nD (nbN b true y s)) [⟨[.sl false n 1 (b.map dB), nD (nbS b true y s).p, nD (nbS b true y s).e], 70, false⟩] := by
  have ho : s.e = 0 → s.p ≤ 8 * n := hs
  have hb := nuB_le true y
  have hx := nbX_le b true y s
  have hA : nbA true y s = fl s (((nuE true y : Nat) : Int) == 0) (nuE true y) := rfl
  have hX : tkN b (nuB true y) (fl s (((nuE true y : Nat) : Int) == 0) (nuE true y)) = nbX b true y s := rfl
  have hT : tkS b (nuB true y) (fl s (((nuE true y : Nat) : Int) == 0) (nuE true y)) = nbT b true y s := rfl
  refine SpecH.run T_ok mixed Try.func57 rfl rfl rfl ⟨rfl, trivial⟩ rfl 1000 64 (fun R ok => (.s 11 (.br ((↑(Rs.e s) : Int) != 0)
  (fun p0 => have p0f := of_bne_t p0; (.s 1 (.out [0] [0] (D.v (Value.int IntKind.i64 0)) [Blk.mk [D.sl false n 1 (List.map dB b), D.v (Value.int IntKind.i64 (↑(Rs.p s) : Int)), D.v (Value.int IntKind.i64 (↑(Rs.e s) : Int))] 70 false] R (ok _ _ (by ( rw [(nbS_x (by omega)).2]; rfl)) (by ( rw [(nbS_x (by omega)).1]))))))
  (fun p0 => have p0f := of_bne_f p0; (.s 3 (.call 60 false [] (true) (by with_reducible rfl) ([D.v (Value.int IntKind.i64 (↑y : Int))]) _ (simL.refl _) (true) (by with_reducible rfl) _ _ _ (CallOk.fn (FnOk.of Try.func60 rfl rfl) (@Go.Proofs.Ytegjeagfcfhbeaa.Vp.FarBits_t (y) (by omega))) (.s 13 (.call 47 true [0] (true) (by with_reducible rfl) ([D.ptr 0 0 0, D.v (Value.bool ((↑(nuE true y) : Int) == 0)), D.v (Value.int IntKind.i64 (↑(nuE true y) : Int))]) _ (simL.refl _) (true) (by with_reducible rfl) _ _ _ (CallOk.fn (FnOk.of Try.func47 rfl rfl) (@Go.Proofs.Ytegjeagfcfhbeaa.Vp.fail_t (b) (n) (by omega) (by omega) (s) ((↑(nuE true y) : Int) == 0) ((↑(nuE true y) : Int)) (by omega))) (.s 3 (.call 46 true [0] (true) (by with_reducible rfl) ([D.ptr 0 0 0, D.v (Value.int IntKind.i64 (↑(nuB true y) : Int))]) _ (simL.refl _) (true) (by with_reducible rfl) _ _ _ (CallOk.fn (FnOk.of Try.func46 rfl rfl) (@Go.Proofs.Ytegjeagfcfhbeaa.Vp.take_t (b) (n) (by omega) (by omega) (fl s ((↑(nuE true y) : Int) == 0) (nuE true y)) (by (exact Rok.fl hs _ _)) ((↑(nuB true y) : Int)) (by omega))) (.s 11 (.br ((↑(Rs.e (tkS b (nuB true y) (fl s ((↑(nuE true y) : Int) == 0) (nuE true y)))) : Int) != 0)
    (fun p1 => have p1f := of_bne_t p1; (.s 1 (.out [0] [0] (D.v (Value.int IntKind.i64 0)) [Blk.mk [D.sl false n 1 (List.map dB b), D.v (Value.int IntKind.i64 (↑(Rs.p (tkS b (nuB true y) (fl s ((↑(nuE true y) : Int) == 0) (nuE true y)))) : Int)), D.v (Value.int IntKind.i64 (↑(Rs.e (tkS b (nuB true y) (fl s ((↑(nuE true y) : Int) == 0) (nuE true y)))) : Int))] 70 false] R (ok _ _ (by ( rw [(nbS_1 (b := b) (far := true) (sy := y) (s := s) (by omega) (by first | assumption | (rw [← hT]; omega))).2]; rfl)) (by ( rw [(nbS_1 (b := b) (far := true) (sy := y) (s := s) (by omega) (by first | assumption | (rw [← hT]; omega))).1]; rfl))))))
    (fun p1 => have p1f := of_bne_f p1; (.s 4 (.call 61 false [] (true) (by with_reducible rfl) ([D.v (Value.int IntKind.i64 (↑y : Int)), D.v (Value.int IntKind.i64 (↑(tkN b (nuB true y) (fl s ((↑(nuE true y) : Int) == 0) (nuE true y))) : Int))]) _ (simL.refl _) (true) (by with_reducible rfl) _ _ _ (CallOk.fn (FnOk.of Try.func61 rfl rfl) (@Go.Proofs.Ytegjeagfcfhbeaa.Vp.FarOf_t (y) (by omega) (tkN b (nuB true y) (fl s ((↑(nuE true y) : Int) == 0) (nuE true y))) (by omega))) (.s 13 (.call 47 true [0] (true) (by with_reducible rfl) ([D.ptr 0 0 0, D.v (Value.bool ((↑(nuF true y (tkN b (nuB true y) (fl s ((↑(nuE true y) : Int) == 0) (nuE true y)))) : Int) == 0)), D.v (Value.int IntKind.i64 (↑(nuF true y (tkN b (nuB true y) (fl s ((↑(nuE true y) : Int) == 0) (nuE true y)))) : Int))]) _ (simL.refl _) (true) (by with_reducible rfl) _ _ _ (CallOk.fn (FnOk.of Try.func47 rfl rfl) (@Go.Proofs.Ytegjeagfcfhbeaa.Vp.fail_t (b) (n) (by omega) (by omega) (tkS b (nuB true y) (fl s ((↑(nuE true y) : Int) == 0) (nuE true y))) ((↑(nuF true y (tkN b (nuB true y) (fl s ((↑(nuE true y) : Int) == 0) (nuE true y)))) : Int) == 0) ((↑(nuF true y (tkN b (nuB true y) (fl s ((↑(nuE true y) : Int) == 0) (nuE true y)))) : Int)) (by omega))) (.s 2 (.out [0] [0] (D.v (Value.int IntKind.i64 (↑(nuV true y (tkN b (nuB true y) (fl s ((↑(nuE true y) : Int) == 0) (nuE true y)))) : Int))) [Blk.mk [D.sl false n 1 (List.map dB b), D.v (Value.int IntKind.i64 (↑(Rs.p (fl (tkS b (nuB true y) (fl s ((↑(nuE true y) : Int) == 0) (nuE true y))) ((↑(nuF true y (tkN b (nuB true y) (fl s ((↑(nuE true y) : Int) == 0) (nuE true y)))) : Int) == 0) (nuF true y (tkN b (nuB true y) (fl s ((↑(nuE true y) : Int) == 0) (nuE true y)))))) : Int)), D.v (Value.int IntKind.i64 (↑(Rs.e (fl (tkS b (nuB true y) (fl s ((↑(nuE true y) : Int) == 0) (nuE true y))) ((↑(nuF true y (tkN b (nuB true y) (fl s ((↑(nuE true y) : Int) == 0) (nuE true y)))) : Int) == 0) (nuF true y (tkN b (nuB true y) (fl s ((↑(nuE true y) : Int) == 0) (nuE true y)))))) : Int))] 70 false] R (ok _ _ (by ( rw [(nbS_2 (b := b) (far := true) (sy := y) (s := s) (by omega) (by first | assumption | (rw [← hT]; omega))).2]; rfl)) (by ( rw [(nbS_2 (b := b) (far := true) (sy := y) (s := s) (by omega) (by first | assumption | (rw [← hT]; omega))).1]; rfl)))))))))))))))))))))) (by kernel_rfl)
end Vp
end Go.Proofs.Ytegjeagfcfhbeaa

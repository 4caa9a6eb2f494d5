/- Part 11. -/
import Derived.Test.YtegjeagfcfhbeaaTm10
import Derived.Test.YtegjeagfcfhbeaaTm4
import Derived.Test.YtegjeagfcfhbeaaOpen
import Derived.SizedLaws
set_option linter.unusedVariables false
set_option linter.unusedSimpArgs false
set_option maxRecDepth 100000
set_option maxHeartbeats 4000000
namespace Go.Proofs.Ytegjeagfcfhbeaa
open Go.RowKit Go.Bw Go.Vx
namespace Vp
theorem zcx0 {p : Prop} (h : p := by (refine decide_eq_true ?_; (omega))) : p := h
theorem zcx1 {p : Prop} (h : p := by (refine iv_eq ?_; (omega))) : p := h
theorem zcx2 {p : Prop} (h : p := by ( have h9 := (rest_len (l := l) (a := a) om).1; have h4 := cnt_le l a; have h3 := symsT_pl (l := l) (a := a) om; omega)) : p := h
theorem zcx3 {p : Prop} (h : p := by ( have h9 := (rest_len (l := l) (a := a) om).1; have h4 := cnt_le l a; have h3 := symsT_pl (l := l) (a := a) om; refine iv_eq ?_; omega)) : p := h
theorem zcx4 {p : Prop} (h : p := by ((refine and_tI ?_ ?_) <;> (repeat' (first | (refine and_tI ?_ ?_) | (with_reducible rfl) | (refine decide_eq_true ?_) | (refine Nat.ble_eq_true_of_le ?_) | (refine nbeq ?_))) <;> (omega))) : p := h
theorem zcx5 {p : Prop} (h : p := by (refine decide_eq_true ?_;  have h9 := (rest_len (l := l) (a := a) om).1; have h4 := cnt_le l a; have h3 := symsT_pl (l := l) (a := a) om; have h7 := sy_k3 (l := l) (a := a) (k := k) om om om ((((symsT l a).length : Int) + (k : Int)).toNat * 1) om; have h6 := stamp_len l a k; omega)) : p := h
theorem zcx6 {p : Prop} (h : p := by ( have h9 := (rest_len (l := l) (a := a) om).1; have h4 := cnt_le l a; have h3 := symsT_pl (l := l) (a := a) om; have h7 := sy_k3 (l := l) (a := a) (k := k) om om om ((((symsT l a).length : Int) + (k : Int)).toNat * 1) om; have h6 := stamp_len l a k; omega)) : p := h
theorem zcx7 {p : Prop} (h : p := by exact (And.intro (D.sim.slw rfl (cond_t (by (simp <;> (omega))) |>.trans rfl)) (And.intro (D.sim.refl _) trivial))) : p := h
theorem zcx8 {p : Prop} (h : p := by exact (And.intro (D.sim.slw rfl (cond_t (by (simp <;> (omega))) |>.trans rfl)) trivial)) : p := h
theorem zcx9 {p : Prop} (h : p := by exact (And.intro (D.sim.agg (And.intro (D.sim.refl _) (And.intro (D.sim.refl _) (And.intro (D.sim.refl _) (And.intro (D.sim.refl _) (And.intro (D.sim.refl _) (And.intro (D.sim.refl _) (And.intro (D.sim.refl _) (And.intro (D.sim.refl _) (And.intro (D.sim.refl _) (And.intro (D.sim.refl _) (And.intro (D.sim.refl _) (And.intro (D.sim.refl _) (And.intro (D.sim.refl _) (And.intro (D.sim.refl _) (And.intro (D.sim.refl _) (And.intro (D.sim.refl _) (And.intro (D.sim.slw rfl (cond_t (by (simp; done)) |>.trans rfl)) trivial)))))))))))))))))) (And.intro (D.sim.refl _) trivial))) : p := h
theorem sy_k3 {l : List UInt8} {a k : Nat} (hl : l.length ≤ 320) (ha : a ≤ 15) (hk : k < cnt l a) (j : Nat) (hj : j = (symsT l a).length + k) : (symsL l).getD j default < l.length ∧ ((stamp l a k).getD (0 + (symsL l).getD j default * 1) default).toNat = 0 := by
 rw [Nat.zero_add, Nat.mul_one]; exact sy_k hl ha hk hj
theorem sy_16 (l : List UInt8) : (symsT l 16).length = (symsL l).length := by rw [symsL_eq]
theorem rLen_g (l : List UInt8) (hl : l.length = 320) (hc : canE l 15 = 0) (q : Nat) (hq : q = (symsL l).length) : SpecH false Try.prog 65 [treeD q l] [] (.tup [.ref 0 0 0 320 1, bD true]) [⟨l.map dB, 5, true⟩] := by
 have h1 := (canE_0 hc).2.1
 have hQ := symsL_le l
 have hz := cnt_0 l
 refine SpecH.run T_ok mixed Try.func65 rfl rfl rfl ⟨pl_bytes _, trivial⟩ rfl 1000 64 (fun R ok => (.s 18 (.f (decide (320 < (↑q : Int))) (by (refine decide_eq_false ?_; (omega))) (.s 14 (.f ((↑(cnt l 0) : Int) != 0) (by (simp <;> (omega))) (.s 2 (.blk 24 24 (Blk.mk [D.v (Value.int .u8 0), D.v (Value.int .u8 0), D.v (Value.int .u8 0), D.v (Value.int .u8 0), D.v (Value.int .u8 0), D.v (Value.int .u8 0), D.v (Value.int .u8 0), D.v (Value.int .u8 0), D.v (Value.int .u8 0), D.v (Value.int .u8 0), D.v (Value.int .u8 0), D.v (Value.int .u8 0), D.v (Value.int .u8 0), D.v (Value.int .u8 0), D.v (Value.int .u8 0), D.v (Value.int .u8 0), D.v (Value.int .u8 0), D.v (Value.int .u8 0), D.v (Value.int .u8 0), D.v (Value.int .u8 0), D.v (Value.int .u8 0), D.v (Value.int .u8 0), D.v (Value.int .u8 0), D.v (Value.int .u8 0), D.v (Value.int .u8 0), D.v (Value.int .u8 0), D.v (Value.int .u8 0), D.v (Value.int .u8 0), D.v (Value.int .u8 0), D.v (Value.int .u8 0), D.v (Value.int .u8 0), D.v (Value.int .u8 0), D.v (Value.int .u8 0), D.v (Value.int .u8 0), D.v (Value.int .u8 0), D.v (Value.int .u8 0), D.v (Value.int .u8 0), D.v (Value.int .u8 0), D.v (Value.int .u8 0), D.v (Value.int .u8 0), D.v (Value.int .u8 0), D.v (Value.int .u8 0), D.v (Value.int .u8 0), D.v (Value.int .u8 0), D.v (Value.int .u8 0), D.v (Value.int .u8 0), D.v (Value.int .u8 0), D.v (Value.int .u8 0), D.v (Value.int .u8 0), D.v (Value.int .u8 0), D.v (Value.int .u8 0), D.v (Value.int .u8 0), D.v (Value.int .u8 0), D.v (Value.int .u8 0), D.v (Value.int .u8 0), D.v (Value.int .u8 0), D.v (Value.int .u8 0), D.v (Value.int .u8 0), D.v (Value.int .u8 0), D.v (Value.int .u8 0), D.v (Value.int .u8 0), D.v (Value.int .u8 0), D.v (Value.int .u8 0), D.v (Value.int .u8 0), D.v (Value.int .u8 0), D.v (Value.int .u8 0), D.v (Value.int .u8 0), D.v (Value.int .u8 0), D.v (Value.int .u8 0), D.v (Value.int .u8 0), D.v (Value.int .u8 0), D.v (Value.int .u8 0), D.v (Value.int .u8 0), D.v (Value.int .u8 0), D.v (Value.int .u8 0), D.v (Value.int .u8 0), D.v (Value.int .u8 0), D.v (Value.int .u8 0), D.v (Value.int .u8 0), D.v (Value.int .u8 0), D.v (Value.int .u8 0), D.v (Value.int .u8 0), D.v (Value.int .u8 0), D.v (Value.int .u8 0), D.v (Value.int .u8 0), D.v (Value.int .u8 0), D.v (Value.int .u8 0), D.v (Value.int .u8 0), D.v (Value.int .u8 0), D.v (Value.int .u8 0), D.v (Value.int .u8 0), D.v (Value.int .u8 0), D.v (Value.int .u8 0), D.v (Value.int .u8 0), D.v (Value.int .u8 0), D.v (Value.int .u8 0), D.v (Value.int .u8 0), D.v (Value.int .u8 0), D.v (Value.int .u8 0), D.v (Value.int .u8 0), D.v (Value.int .u8 0), D.v (Value.int .u8 0), D.v (Value.int .u8 0), D.v (Value.int .u8 0), D.v (Value.int .u8 0), D.v (Value.int .u8 0), D.v (Value.int .u8 0), D.v (Value.int .u8 0), D.v (Value.int .u8 0), D.v (Value.int .u8 0), D.v (Value.int .u8 0), D.v (Value.int .u8 0), D.v (Value.int .u8 0), D.v (Value.int .u8 0), D.v (Value.int .u8 0), D.v (Value.int .u8 0), D.v (Value.int .u8 0), D.v (Value.int .u8 0), D.v (Value.int .u8 0), D.v (Value.int .u8 0), D.v (Value.int .u8 0), D.v (Value.int .u8 0), D.v (Value.int .u8 0), D.v (Value.int .u8 0), D.v (Value.int .u8 0), D.v (Value.int .u8 0), D.v (Value.int .u8 0), D.v (Value.int .u8 0), D.v (Value.int .u8 0), D.v (Value.int .u8 0), D.v (Value.int .u8 0), D.v (Value.int .u8 0), D.v (Value.int .u8 0), D.v (Value.int .u8 0), D.v (Value.int .u8 0), D.v (Value.int .u8 0), D.v (Value.int .u8 0), D.v (Value.int .u8 0), D.v (Value.int .u8 0), D.v (Value.int .u8 0), D.v (Value.int .u8 0), D.v (Value.int .u8 0), D.v (Value.int .u8 0), D.v (Value.int .u8 0), D.v (Value.int .u8 0), D.v (Value.int .u8 0), D.v (Value.int .u8 0), D.v (Value.int .u8 0), D.v (Value.int .u8 0), D.v (Value.int .u8 0), D.v (Value.int .u8 0), D.v (Value.int .u8 0), D.v (Value.int .u8 0), D.v (Value.int .u8 0), D.v (Value.int .u8 0), D.v (Value.int .u8 0), D.v (Value.int .u8 0), D.v (Value.int .u8 0), D.v (Value.int .u8 0), D.v (Value.int .u8 0), D.v (Value.int .u8 0), D.v (Value.int .u8 0), D.v (Value.int .u8 0), D.v (Value.int .u8 0), D.v (Value.int .u8 0), D.v (Value.int .u8 0), D.v (Value.int .u8 0), D.v (Value.int .u8 0), D.v (Value.int .u8 0), D.v (Value.int .u8 0), D.v (Value.int .u8 0), D.v (Value.int .u8 0), D.v (Value.int .u8 0), D.v (Value.int .u8 0), D.v (Value.int .u8 0), D.v (Value.int .u8 0), D.v (Value.int .u8 0), D.v (Value.int .u8 0), D.v (Value.int .u8 0), D.v (Value.int .u8 0), D.v (Value.int .u8 0), D.v (Value.int .u8 0), D.v (Value.int .u8 0), D.v (Value.int .u8 0), D.v (Value.int .u8 0), D.v (Value.int .u8 0), D.v (Value.int .u8 0), D.v (Value.int .u8 0), D.v (Value.int .u8 0), D.v (Value.int .u8 0), D.v (Value.int .u8 0), D.v (Value.int .u8 0), D.v (Value.int .u8 0), D.v (Value.int .u8 0), D.v (Value.int .u8 0), D.v (Value.int .u8 0), D.v (Value.int .u8 0), D.v (Value.int .u8 0), D.v (Value.int .u8 0), D.v (Value.int .u8 0), D.v (Value.int .u8 0), D.v (Value.int .u8 0), D.v (Value.int .u8 0), D.v (Value.int .u8 0), D.v (Value.int .u8 0), D.v (Value.int .u8 0), D.v (Value.int .u8 0), D.v (Value.int .u8 0), D.v (Value.int .u8 0), D.v (Value.int .u8 0), D.v (Value.int .u8 0), D.v (Value.int .u8 0), D.v (Value.int .u8 0), D.v (Value.int .u8 0), D.v (Value.int .u8 0), D.v (Value.int .u8 0), D.v (Value.int .u8 0), D.v (Value.int .u8 0), D.v (Value.int .u8 0), D.v (Value.int .u8 0), D.v (Value.int .u8 0), D.v (Value.int .u8 0), D.v (Value.int .u8 0), D.v (Value.int .u8 0), D.v (Value.int .u8 0), D.v (Value.int .u8 0), D.v (Value.int .u8 0), D.v (Value.int .u8 0), D.v (Value.int .u8 0), D.v (Value.int .u8 0), D.v (Value.int .u8 0), D.v (Value.int .u8 0), D.v (Value.int .u8 0), D.v (Value.int .u8 0), D.v (Value.int .u8 0), D.v (Value.int .u8 0), D.v (Value.int .u8 0), D.v (Value.int .u8 0), D.v (Value.int .u8 0), D.v (Value.int .u8 0), D.v (Value.int .u8 0), D.v (Value.int .u8 0), D.v (Value.int .u8 0), D.v (Value.int .u8 0), D.v (Value.int .u8 0), D.v (Value.int .u8 0), D.v (Value.int .u8 0), D.v (Value.int .u8 0), D.v (Value.int .u8 0), D.v (Value.int .u8 0), D.v (Value.int .u8 0), D.v (Value.int .u8 0), D.v (Value.int .u8 0), D.v (Value.int .u8 0), D.v (Value.int .u8 0), D.v (Value.int .u8 0), D.v (Value.int .u8 0), D.v (Value.int .u8 0), D.v (Value.int .u8 0), D.v (Value.int .u8 0), D.v (Value.int .u8 0), D.v (Value.int .u8 0), D.v (Value.int .u8 0), D.v (Value.int .u8 0), D.v (Value.int .u8 0), D.v (Value.int .u8 0), D.v (Value.int .u8 0), D.v (Value.int .u8 0), D.v (Value.int .u8 0), D.v (Value.int .u8 0), D.v (Value.int .u8 0), D.v (Value.int .u8 0), D.v (Value.int .u8 0), D.v (Value.int .u8 0), D.v (Value.int .u8 0), D.v (Value.int .u8 0), D.v (Value.int .u8 0), D.v (Value.int .u8 0), D.v (Value.int .u8 0), D.v (Value.int .u8 0), D.v (Value.int .u8 0), D.v (Value.int .u8 0), D.v (Value.int .u8 0), D.v (Value.int .u8 0), D.v (Value.int .u8 0), D.v (Value.int .u8 0), D.v (Value.int .u8 0), D.v (Value.int .u8 0), D.v (Value.int .u8 0), D.v (Value.int .u8 0), D.v (Value.int .u8 0), D.v (Value.int .u8 0), D.v (Value.int .u8 0), D.v (Value.int .u8 0), D.v (Value.int .u8 0), D.v (Value.int .u8 0), D.v (Value.int .u8 0), D.v (Value.int .u8 0), D.v (Value.int .u8 0), D.v (Value.int .u8 0), D.v (Value.int .u8 0), D.v (Value.int .u8 0), D.v (Value.int .u8 0), D.v (Value.int .u8 0), D.v (Value.int .u8 0), D.v (Value.int .u8 0), D.v (Value.int .u8 0), D.v (Value.int .u8 0), D.v (Value.int .u8 0), D.v (Value.int .u8 0), D.v (Value.int .u8 0), D.v (Value.int .u8 0), D.v (Value.int .u8 0), D.v (Value.int .u8 0), D.v (Value.int .u8 0), D.v (Value.int .u8 0), D.v (Value.int .u8 0), D.v (Value.int .u8 0), D.v (Value.int .u8 0), D.v (Value.int .u8 0)] 5 true) (Blk.mk (List.map dB (stamp l 1 0)) 5 true) (by (rw [← stamp_10, stamp_00]; rfl)) (Hn.inl T_ok mixed false 98 0 (loopAt Try.prog 65 0) (fun (x : (a : Nat) ×' (ha : 1 ≤ a ∧ a ≤ 16) ×' Unit) => match x with | ⟨a, ha, _⟩ => CutS.mk [(1, D.ptr 0 0 0), (4, D.ref 8 8 0 320 1), (5, nD (symsT l a).length), (6, nD a)] [⟨0, 0, 0, 0, .b ⟨[nD (cnt l 0), nD (cnt l 1), nD (cnt l 2), nD (cnt l 3), nD (cnt l 4), nD (cnt l 5), nD (cnt l 6), nD (cnt l 7), nD (cnt l 8), nD (cnt l 9), nD (cnt l 10), nD (cnt l 11), nD (cnt l 12), nD (cnt l 13), nD (cnt l 14), nD (cnt l 15), D.sl false q 1 (List.map nD (symsL l))], 26, false⟩⟩, ⟨8, 8, 24, 24, .b ⟨(stamp l a 0).map dB, 5, true⟩⟩] 16) (fun (x : (a : Nat) ×' (ha : 1 ≤ a ∧ a ≤ 16) ×' Unit) => match x with | ⟨a, ha, _⟩ => 16 - a) [⟨Unit, .exit 0, fun x => match x with | () => CutS.mk [(1, D.ptr 0 0 0), (4, D.ref 8 8 0 320 1), (5, nD q), (6, nD 16)] [⟨0, 0, 0, 0, .b ⟨[nD (cnt l 0), nD (cnt l 1), nD (cnt l 2), nD (cnt l 3), nD (cnt l 4), nD (cnt l 5), nD (cnt l 6), nD (cnt l 7), nD (cnt l 8), nD (cnt l 9), nD (cnt l 10), nD (cnt l 11), nD (cnt l 12), nD (cnt l 13), nD (cnt l 14), nD (cnt l 15), D.sl false q 1 (List.map nD (symsL l))], 26, false⟩⟩, ⟨8, 8, 24, 24, .b ⟨l.map dB, 5, true⟩⟩] 16⟩] 1000 64 (fun | ⟨a, ha, _⟩, Q, next1, last1 => (.s 3 (.br (decide ((↑a : Int) ≤ 15)) (fun p0 => have p0f := odt p0; (.s 6 (.chk (true && decide ((↑a : Int) < (↑16 : Int))) zcx0 (.s 3 (.opt ((c16 (cnt l) ++ [D.sl false q 1 (List.map nD (symsL l))])[0 + a * 1]?) (nD (cnt l a)) (@get16z (cnt l) ([D.sl false q 1 (List.map nD (symsL l))]) (a) om) (.s 11 (.chk (true && decide ((↑a : Int) < (↑16 : Int))) zcx0 (.s 4 (.opt ((c16 (cnt l) ++ [D.sl false q 1 (List.map nD (symsL l))])[0 + a * 1]?) (nD (cnt l a)) (@get16z (cnt l) ([D.sl false q 1 (List.map nD (symsL l))]) (a) om) (.s 15 (.op ((↑q : Int) - (↑(List.length (symsT l a)) : Int)) zcx2 (.s 4 (.f (decide ((↑q : Int) - (↑(List.length (symsT l a)) : Int) < (↑(cnt l a) : Int))) (by (refine decide_eq_false ?_;  have h9 := (rest_len (l := l) (a := a) om).1; have h4 := cnt_le l a; have h3 := symsT_pl (l := l) (a := a) om; omega)) (.s 1 (Hn.inl T_ok mixed false 98 0 (loopAt Try.prog 65 1) (fun (x : (k : Nat) ×' (hk : k ≤ cnt l a) ×' Unit) => match x with | ⟨k, hk, _⟩ => CutS.mk [(1, D.ptr 0 0 0), (4, D.ref 8 8 0 320 1), (5, nD (List.length (symsT l a))), (6, nD a), (7, nD k), (30, nD a), (31, D.ptr 0 0 0), (32, D.ptr 0 0 (0 + a * 1)), (33, nD (cnt l a)), (34, D.ptr 0 0 16), (35, D.sl false q 1 (List.map nD (symsL l))), (36, nD q), (37, nD (List.length (symsT l a))), (38, iD ((↑q : Int) - (↑(List.length (symsT l a)) : Int))), (39, D.v (.bool (decide ((↑q : Int) - (↑(List.length (symsT l a)) : Int) < (↑(cnt l a) : Int)))))] [⟨0, 0, 0, 0, .b ⟨[nD (cnt l 0), nD (cnt l 1), nD (cnt l 2), nD (cnt l 3), nD (cnt l 4), nD (cnt l 5), nD (cnt l 6), nD (cnt l 7), nD (cnt l 8), nD (cnt l 9), nD (cnt l 10), nD (cnt l 11), nD (cnt l 12), nD (cnt l 13), nD (cnt l 14), nD (cnt l 15), D.sl false q 1 (List.map nD (symsL l))], 26, false⟩⟩, ⟨8, 8, 8, 8, .b ⟨(stamp l a k).map dB, 5, true⟩⟩] 16) (fun (x : (k : Nat) ×' (hk : k ≤ cnt l a) ×' Unit) => match x with | ⟨k, hk, _⟩ => cnt l a - k) [⟨Unit, .exit 2, fun x => match x with | () => CutS.mk [(1, D.ptr 0 0 0), (4, D.ref 8 8 0 320 1), (5, nD (List.length (symsT l a))), (6, nD a), (7, nD (cnt l a)), (30, nD a), (31, D.ptr 0 0 0), (32, D.ptr 0 0 (0 + a * 1)), (33, nD (cnt l a)), (34, D.ptr 0 0 16), (35, D.sl false q 1 (List.map nD (symsL l))), (36, nD q), (37, nD (List.length (symsT l a))), (38, iD ((↑q : Int) - (↑(List.length (symsT l a)) : Int))), (39, D.v (.bool (decide ((↑q : Int) - (↑(List.length (symsT l a)) : Int) < (↑(cnt l a) : Int)))))] [⟨0, 0, 0, 0, .b ⟨[nD (cnt l 0), nD (cnt l 1), nD (cnt l 2), nD (cnt l 3), nD (cnt l 4), nD (cnt l 5), nD (cnt l 6), nD (cnt l 7), nD (cnt l 8), nD (cnt l 9), nD (cnt l 10), nD (cnt l 11), nD (cnt l 12), nD (cnt l 13), nD (cnt l 14), nD (cnt l 15), D.sl false q 1 (List.map nD (symsL l))], 26, false⟩⟩, ⟨8, 8, 8, 8, .b ⟨(stamp l (a + 1) 0).map dB, 5, true⟩⟩] 16⟩] 1000 64 (fun | ⟨k, hk, _⟩, Q, next2, last2 => (.s 6 (.chk (true && decide ((↑a : Int) < (↑16 : Int))) zcx0 (.s 3 (.opt ((c16 (cnt l) ++ [D.sl false q 1 (List.map nD (symsL l))])[0 + a * 1]?) (nD (cnt l a)) (@get16z (cnt l) ([D.sl false q 1 (List.map nD (symsL l))]) (a) om) (.s 2 (.br (decide ((↑k : Int) < (↑(cnt l a) : Int))) (fun p1 => have p1f := odt p1; (.s 10 (.op ((↑(List.length (symsT l a)) : Int) + (↑k : Int)) zcx2 (.s 1 (.chk (true && decide ((↑(List.length (symsT l a)) : Int) + (↑k : Int) < (↑q : Int)) && true) (by ((refine and_tI ?_ ?_) <;> (repeat' (first | (refine and_tI ?_ ?_) | (with_reducible rfl) | (refine decide_eq_true ?_) | (refine Nat.ble_eq_true_of_le ?_) | (refine nbeq ?_))) <;> ( have h9 := (rest_len (l := l) (a := a) om).1; have h4 := cnt_le l a; have h3 := symsT_pl (l := l) (a := a) om; omega))) (.s 2 (.opt ((List.map nD (symsL l))[Int.toNat ((↑(List.length (symsT l a)) : Int) + (↑k : Int)) * 1]?) (nD (List.getD (symsL l) (Int.toNat ((↑(List.length (symsT l a)) : Int) + (↑k : Int)) * 1) default)) (map_get _ _ zcx2) (.s 13 (.f (decide (320 ≤ (↑(List.getD (symsL l) (Int.toNat ((↑(List.length (symsT l a)) : Int) + (↑k : Int)) * 1) default) : Int))) (by (refine decide_eq_false ?_;  have h9 := (rest_len (l := l) (a := a) om).1; have h4 := cnt_le l a; have h3 := symsT_pl (l := l) (a := a) om; have h7 := sy_k3 (l := l) (a := a) (k := k) om om om ((((symsT l a).length : Int) + (k : Int)).toNat * 1) om; have h6 := stamp_len l a k; omega)) (.s 4 (.chk (true && decide ((↑(List.getD (symsL l) (Int.toNat ((↑(List.length (symsT l a)) : Int) + (↑k : Int)) * 1) default) : Int) < (↑320 : Int))) zcx5 (.s 3 (.opt ((List.map dB (stamp l a k))[0 + List.getD (symsL l) (Int.toNat ((↑(List.length (symsT l a)) : Int) + (↑k : Int)) * 1) default * 1]?) (dB (List.getD (stamp l a k) (0 + List.getD (symsL l) (Int.toNat ((↑(List.length (symsT l a)) : Int) + (↑k : Int)) * 1) default * 1) default)) (map_get _ _ zcx6) (.s 4 (.br ((↑(UInt8.toNat (List.getD (stamp l a k) (0 + List.getD (symsL l) (Int.toNat ((↑(List.length (symsT l a)) : Int) + (↑k : Int)) * 1) default * 1) default)) : Int) != 0) (fun p2 => have p2f := of_bne_t p2; (.abs zcx6)) (fun p2 => have p2f := of_bne_f p2; (.s 4 (.opt (wrapO .u8 (↑a : Int)) (D.v (Value.int .u8 (↑a : Int))) (wrapO_u8 om) (.s 1 (.chk (true && decide ((↑(List.getD (symsL l) (Int.toNat ((↑(List.length (symsT l a)) : Int) + (↑k : Int)) * 1) default) : Int) < (↑320 : Int))) zcx5 (.s 1 (.chk (true && Nat.ble (0 + List.getD (symsL l) (Int.toNat ((↑(List.length (symsT l a)) : Int) + (↑k : Int)) * 1) default * 1 + 1) (List.length (List.map dB (stamp l a k)))) (by (simp only [Bool.true_and, List.length_map, stamp_len]; refine Nat.ble_eq_true_of_le ?_;  have h9 := (rest_len (l := l) (a := a) om).1; have h4 := cnt_le l a; have h3 := symsT_pl (l := l) (a := a) om; have h7 := sy_k3 (l := l) (a := a) (k := k) om om om ((((symsT l a).length : Int) + (k : Int)).toNat * 1) om; have h6 := stamp_len l a k; omega)) (.lst (setSeg (List.map dB (stamp l a k)) (0 + List.getD (symsL l) (Int.toNat ((↑(List.length (symsT l a)) : Int) + (↑k : Int)) * 1) default * 1) [D.v (Value.int .u8 (↑a : Int))]) (setSeg (List.map dB (stamp l a k)) (List.getD (symsL l) (Int.toNat ((↑(List.length (symsT l a)) : Int) + (↑k : Int))) default) [D.v (Value.int .u8 (↑a : Int))]) (by (simp; done)) (.s 3 (.op ((↑k : Int) + 1) zcx2 (.s 1 (.val 7 (iD ((↑k : Int) + 1)) (nD (k + 1)) zcx3 (.blk 8 8 (Blk.mk (setSeg (List.map dB (stamp l a k)) (List.getD (symsL l) (Int.toNat ((↑(List.length (symsT l a)) : Int) + (↑k : Int))) default) [D.v (Value.int .u8 (↑a : Int))]) 5 true) (Blk.mk (List.map dB (stamp l a (k + 1))) 5 true) (by (exact blk_eq (sy_set (l := l) (a := a) (k := k) (j := (((symsT l a).length : Int) + (k : Int)).toNat) (by (omega)) (by (omega)) (by (omega)) (by (omega)) rfl rfl))) (Hn.next next2 ⟨(k + 1), om, ⟨⟩⟩ (by show cnt l a - (k + 1) < cnt l a - k; clear next2 last2 next1 last1; omega) [(0, 0), (8, 8)] ro))))))))))))))))))))))))))))) (fun p1 => have p1f := odf p1; (.val 7 (nD k) (nD (cnt l a)) zcx3 (.blk 8 8 (Blk.mk (List.map dB (stamp l a k)) 5 true) (Blk.mk (List.map dB (stamp l (a + 1) 0)) 5 true) (by (rw [show k = cnt l a from by (omega), stamp_up])) (Hn.last last2 0 (() : Unit) rfl [(0, 0), (8, 8)] ro))))))))))) (fun | ⟨k, hk, _⟩ => by kernel_rfl) ⟨(0), om, ⟨⟩⟩ [(0, 0), (8, 8)] ro (hs1 (fun | () => (.s 6 (.chk (true && decide ((↑a : Int) < (↑16 : Int))) zcx0 (.s 3 (.opt ((c16 (cnt l) ++ [D.sl false q 1 (List.map nD (symsL l))])[0 + a * 1]?) (nD (cnt l a)) (@get16z (cnt l) ([D.sl false q 1 (List.map nD (symsL l))]) (a) om) (.s 2 (.op ((↑(List.length (symsT l a)) : Int) + (↑(cnt l a) : Int)) zcx2 (.s 4 (.ow ((↑a : Int) + 1) (.s 1 (.val 5 (iD ((↑(List.length (symsT l a)) : Int) + (↑(cnt l a) : Int))) (nD (List.length (symsT l (a + 1)))) zcx3 (.val 6 (iD ((↑a : Int) + 1)) (nD (a + 1)) zcx3 (Hn.next next1 ⟨(a + 1), om, ⟨⟩⟩ (by show 16 - (a + 1) < 16 - a; clear next1 last1; omega) [(0, 0), (8, 8)] ro))))))))))))))))))))))))))))) (fun p0 => have p0f := odf p0; (.val 5 (nD (List.length (symsT l a))) (nD q) (by ( rw [show a = 16 from by omega, sy_16, hq])) (.val 6 (nD a) (iD 16) zcx1 (.blk 8 8 (Blk.mk (List.map dB (stamp l a 0)) 5 true) (Blk.mk (List.map dB l) 5 true) (by (rw [show a = 16 from by (omega), stamp_l (by (omega)) h1])) (Hn.last last1 0 (() : Unit) rfl [(0, 0), (8, 8)] ro)))))))) (fun | ⟨a, ha, _⟩ => by kernel_rfl) ⟨(1), om, ⟨⟩⟩ [(0, 0), (24, 24)] ro (hs1 (fun | () => (.s 13 (.f ((↑q : Int) != (↑q : Int)) (by (simp; done)) (.s 2 (.call 87 false [] (true && (true && Nat.ble 320 (List.length (List.map dB l)) && true && closedL (bif true && Nat.beq 320 (List.length (List.map dB l)) then List.map dB l else List.take 320 (List.drop 0 (List.map dB l)))) && true) (by (simp <;> (omega))) ([D.sl true 320 1 (bif true && Nat.beq 320 (List.length (List.map dB l)) then List.map dB l else List.take 320 (List.drop 0 (List.map dB l))), iD 15]) _ zcx7 (true) wr _ _ _ (CallOk.fn (FnOk.of Try.func87 rfl rfl) (@rCan (l) (320) om om (15) (by (simp; done)))) (.s 6 (.f ((↑(canE l 15) : Int) != 0) (by (simp <;> (omega))) (.s 2 (.call 55 false [] (true && (true && Nat.ble 320 (List.length (List.map dB l)) && true && closedL (bif true && Nat.beq 320 (List.length (List.map dB l)) then List.map dB l else List.take 320 (List.drop 0 (List.map dB l)))) && true) (by (simp <;> (omega))) ([D.sl true 320 1 (bif true && Nat.beq 320 (List.length (List.map dB l)) then List.map dB l else List.take 320 (List.drop 0 (List.map dB l)))]) _ zcx8 (true) wr _ _ _ (CallOk.fn (FnOk.of Try.func55 rfl rfl) (@rGrown (l) (320) om om)) (.s 7 (.call 34 false [] (true && (true && (true && (true && (true && (true && (true && (true && (true && (true && (true && (true && (true && (true && (true && (true && (true && (true && Nat.ble (0 + List.length (symsL l) * 1) (List.length (List.map nD (symsL l))) && true && closedL (bif true && Nat.beq (List.length (symsL l) * 1) (List.length (List.map nD (symsL l))) then List.map nD (symsL l) else List.take (List.length (symsL l) * 1) (List.drop 0 (List.map nD (symsL l))))) && true)))))))))))))))) && true) (by (simp; done)) ([D.agg [nD (cnt l 0), nD (cnt l 1), nD (cnt l 2), nD (cnt l 3), nD (cnt l 4), nD (cnt l 5), nD (cnt l 6), nD (cnt l 7), nD (cnt l 8), nD (cnt l 9), nD (cnt l 10), nD (cnt l 11), nD (cnt l 12), nD (cnt l 13), nD (cnt l 14), nD (cnt l 15), D.sl (Nat.ble 1 (List.length (symsL l))) (List.length (symsL l)) 1 (bif true && Nat.beq (List.length (symsL l) * 1) (List.length (List.map nD (symsL l))) then List.map nD (symsL l) else List.take (List.length (symsL l) * 1) (List.drop 0 (List.map nD (symsL l))))], D.agg [nD (cnt l 0), nD (cnt l 1), nD (cnt l 2), nD (cnt l 3), nD (cnt l 4), nD (cnt l 5), nD (cnt l 6), nD (cnt l 7), nD (cnt l 8), nD (cnt l 9), nD (cnt l 10), nD (cnt l 11), nD (cnt l 12), nD (cnt l 13), nD (cnt l 14), nD (cnt l 15), D.sl false q 1 (List.map nD (symsL l))]]) _ zcx9 (true) wr _ _ _ (CallOk.fn (FnOk.of Try.func34 rfl rfl) (@rSame_t (l) (List.length (symsL l)) (q) om om om)) (.s 7 (.out [8] [8] (D.tup [D.ref 0 0 0 320 1, D.v (.bool true)]) [Blk.mk (List.map dB l) 5 true] R (ok _ _ wr wr))))))))))))))))))))))) (by kernel_rfl)
theorem rLen_b (f : Nat → Int) (ys : List Int) (q : Nat) (hq : q = ys.length) (hQ : q ≤ 100000) (hN : ∀ l : List UInt8, l.length = 320 → canE l 15 = 0 → ¬ ((∀ i, i < 16 → f i = (cnt l i : Int)) ∧ ys = (symsL l).map (fun (n : Nat) => (n : Int)))) : SpecH false Try.prog 65 [trD f q ys] [] (.tup [nilD, bD false]) [] := by
 refine SpecH.run T_ok mixed Try.func65 rfl rfl rfl trivial rfl 1000 64 (fun R ok => (.s 18 (.br (decide (320 < (↑q : Int))) (fun p0 => have p0f := odt p0; (.s 10 (.out [] [] (D.tup [nilD, D.v (.bool false)]) [] R (ok _ _ wr wr)))) (fun p0 => have p0f := odf p0; (.s 14 (.br (f 0 != 0) (fun p1 => have p1f := of_bne_t p1; (.s 2 (.out [] [] (D.tup [nilD, D.v (.bool false)]) [] R (ok _ _ wr wr)))) (fun p1 => have p1f := of_bne_f p1; (.s 2 (Hn.inl T_ok mixed false 98 0 (loopAt Try.prog 65 0) (fun (x : (a : Nat) ×' (ha : 1 ≤ a ∧ a ≤ 16) ×' (L : List UInt8) ×' (hL : L.length = 320) ×' (r : Nat) ×' (hr : r ≤ q) ×' Unit) => match x with | ⟨a, ha, L, hL, r, hr, _⟩ => CutS.mk [(1, D.ptr 0 0 0), (4, D.ref 8 8 0 320 1), (5, nD r), (6, nD a)] [⟨0, 0, 0, 0, .b ⟨[iD (f 0), iD (f 1), iD (f 2), iD (f 3), iD (f 4), iD (f 5), iD (f 6), iD (f 7), iD (f 8), iD (f 9), iD (f 10), iD (f 11), iD (f 12), iD (f 13), iD (f 14), iD (f 15), D.sl false q 1 (List.map iD ys)], 26, false⟩⟩, ⟨8, 8, 24, 24, .b ⟨L.map dB, 5, true⟩⟩] 16) (fun (x : (a : Nat) ×' (ha : 1 ≤ a ∧ a ≤ 16) ×' (L : List UInt8) ×' (hL : L.length = 320) ×' (r : Nat) ×' (hr : r ≤ q) ×' Unit) => match x with | ⟨a, ha, L, hL, r, hr, _⟩ => 16 - a) [⟨(L3 : List UInt8) ×' (hL3 : L3.length = 320) ×' (r2 : Nat) ×' Unit, .exit 0, fun x => match x with | ⟨L3, hL3, r2, _⟩ => CutS.mk [(1, D.ptr 0 0 0), (4, D.ref 8 8 0 320 1), (5, nD r2), (6, nD 16)] [⟨0, 0, 0, 0, .b ⟨[iD (f 0), iD (f 1), iD (f 2), iD (f 3), iD (f 4), iD (f 5), iD (f 6), iD (f 7), iD (f 8), iD (f 9), iD (f 10), iD (f 11), iD (f 12), iD (f 13), iD (f 14), iD (f 15), D.sl false q 1 (List.map iD ys)], 26, false⟩⟩, ⟨8, 8, 24, 24, .b ⟨L3.map dB, 5, true⟩⟩] 16⟩, ⟨Unit, .ret, fun x => match x with | () => CutS.mk [(2, nilD), (3, bD false)] [⟨0, 0, 0, 0, .b ⟨[iD (f 0), iD (f 1), iD (f 2), iD (f 3), iD (f 4), iD (f 5), iD (f 6), iD (f 7), iD (f 8), iD (f 9), iD (f 10), iD (f 11), iD (f 12), iD (f 13), iD (f 14), iD (f 15), D.sl false q 1 (List.map iD ys)], 26, false⟩⟩] 16⟩] 1000 64 (fun | ⟨a, ha, L, hL, r, hr, _⟩, Q, next1, last1 => (.s 3 (.br (decide ((↑a : Int) ≤ 15)) (fun p2 => have p2f := odt p2; (.s 6 (.chk (true && decide ((↑a : Int) < (↑16 : Int))) zcx0 (.s 3 (.opt ((c16i f ++ [D.sl false q 1 (List.map iD ys)])[0 + a * 1]?) (iD (f a)) (@get16zi f ([D.sl false q 1 (List.map iD ys)]) (a) om) (.s 4 (.br (decide (f a < 0)) (fun p3 => have p3f := odt p3; (.s 22 (Hn.last last1 1 (() : Unit) rfl [(0, 0)] ro))) (fun p3 => have p3f := odf p3; (.s 6 (.chk (true && decide ((↑a : Int) < (↑16 : Int))) zcx0 (.s 4 (.opt ((c16i f ++ [D.sl false q 1 (List.map iD ys)])[0 + a * 1]?) (iD (f a)) (@get16zi f ([D.sl false q 1 (List.map iD ys)]) (a) om) (.s 15 (.ow ((↑q : Int) - (↑r : Int)) (.s 4 (.br (decide ((↑q : Int) - (↑r : Int) < f a)) (fun p4 => have p4f := odt p4; (.s 2 (Hn.last last1 1 (() : Unit) rfl [(0, 0)] ro))) (fun p4 => have p4f := odf p4; (.s 1 (Hn.inl T_ok mixed false 98 0 (loopAt Try.prog 65 1) (fun (x : (k : Nat) ×' (hk : k ≤ (f a).toNat) ×' (M : List UInt8) ×' (hM : M.length = 320) ×' Unit) => match x with | ⟨k, hk, M, hM, _⟩ => CutS.mk [(1, D.ptr 0 0 0), (4, D.ref 8 8 0 320 1), (5, nD r), (6, nD a), (7, nD k), (30, nD a), (31, D.ptr 0 0 0), (32, D.ptr 0 0 (0 + a * 1)), (33, iD (f a)), (34, D.ptr 0 0 16), (35, D.sl false q 1 (List.map iD ys)), (36, nD q), (37, nD r), (38, iD ((↑q : Int) - (↑r : Int))), (39, D.v (.bool (decide ((↑q : Int) - (↑r : Int) < f a))))] [⟨0, 0, 0, 0, .b ⟨[iD (f 0), iD (f 1), iD (f 2), iD (f 3), iD (f 4), iD (f 5), iD (f 6), iD (f 7), iD (f 8), iD (f 9), iD (f 10), iD (f 11), iD (f 12), iD (f 13), iD (f 14), iD (f 15), D.sl false q 1 (List.map iD ys)], 26, false⟩⟩, ⟨8, 8, 8, 8, .b ⟨M.map dB, 5, true⟩⟩] 16) (fun (x : (k : Nat) ×' (hk : k ≤ (f a).toNat) ×' (M : List UInt8) ×' (hM : M.length = 320) ×' Unit) => match x with | ⟨k, hk, M, hM, _⟩ => (f a).toNat - k) [⟨(L2 : List UInt8) ×' (hL2 : L2.length = 320) ×' Unit, .exit 2, fun x => match x with | ⟨L2, hL2, _⟩ => CutS.mk [(1, D.ptr 0 0 0), (4, D.ref 8 8 0 320 1), (5, nD r), (6, nD a), (7, nD (f a).toNat), (30, nD a), (31, D.ptr 0 0 0), (32, D.ptr 0 0 (0 + a * 1)), (33, iD (f a)), (34, D.ptr 0 0 16), (35, D.sl false q 1 (List.map iD ys)), (36, nD q), (37, nD r), (38, iD ((↑q : Int) - (↑r : Int))), (39, D.v (.bool (decide ((↑q : Int) - (↑r : Int) < f a))))] [⟨0, 0, 0, 0, .b ⟨[iD (f 0), iD (f 1), iD (f 2), iD (f 3), iD (f 4), iD (f 5), iD (f 6), iD (f 7), iD (f 8), iD (f 9), iD (f 10), iD (f 11), iD (f 12), iD (f 13), iD (f 14), iD (f 15), D.sl false q 1 (List.map iD ys)], 26, false⟩⟩, ⟨8, 8, 8, 8, .b ⟨L2.map dB, 5, true⟩⟩] 16⟩, ⟨Unit, .ret, fun x => match x with | () => CutS.mk [(2, nilD), (3, bD false)] [⟨0, 0, 0, 0, .b ⟨[iD (f 0), iD (f 1), iD (f 2), iD (f 3), iD (f 4), iD (f 5), iD (f 6), iD (f 7), iD (f 8), iD (f 9), iD (f 10), iD (f 11), iD (f 12), iD (f 13), iD (f 14), iD (f 15), D.sl false q 1 (List.map iD ys)], 26, false⟩⟩] 16⟩] 1000 64 (fun | ⟨k, hk, M, hM, _⟩, Q, next2, last2 => (.s 6 (.chk (true && decide ((↑a : Int) < (↑16 : Int))) zcx0 (.s 3 (.opt ((c16i f ++ [D.sl false q 1 (List.map iD ys)])[0 + a * 1]?) (iD (f a)) (@get16zi f ([D.sl false q 1 (List.map iD ys)]) (a) om) (.s 2 (.br (decide ((↑k : Int) < f a)) (fun p5 => have p5f := odt p5; (.s 10 (.ow ((↑r : Int) + (↑k : Int)) (.s 1 (.chk (true && decide ((↑r : Int) + (↑k : Int) < (↑q : Int)) && true) zcx4 (.s 2 (.opt ((List.map iD ys)[Int.toNat ((↑r : Int) + (↑k : Int)) * 1]?) (iD (List.getD ys (Int.toNat ((↑r : Int) + (↑k : Int)) * 1) default)) (map_get _ _ om) (.s 6 (.br (decide (List.getD ys (Int.toNat ((↑r : Int) + (↑k : Int)) * 1) default < 0)) (fun p6 => have p6f := odt p6; (.s 18 (Hn.last last2 1 (() : Unit) rfl [(0, 0)] ro))) (fun p6 => have p6f := odf p6; (.s 6 (.br (decide (320 ≤ List.getD ys (Int.toNat ((↑r : Int) + (↑k : Int)) * 1) default)) (fun p7 => have p7f := odt p7; (.s 12 (Hn.last last2 1 (() : Unit) rfl [(0, 0)] ro))) (fun p7 => have p7f := odf p7; (.s 4 (.chk (decide (0 ≤ List.getD ys (Int.toNat ((↑r : Int) + (↑k : Int)) * 1) default) && decide (List.getD ys (Int.toNat ((↑r : Int) + (↑k : Int)) * 1) default < (↑320 : Int))) zcx4 (.s 3 (.opt ((List.map dB M)[0 + Int.toNat (List.getD ys (Int.toNat ((↑r : Int) + (↑k : Int)) * 1) default) * 1]?) (dB (List.getD M (0 + Int.toNat (List.getD ys (Int.toNat ((↑r : Int) + (↑k : Int)) * 1) default) * 1) default)) (map_get _ _ om) (.s 4 (.br ((↑(UInt8.toNat (List.getD M (0 + Int.toNat (List.getD ys (Int.toNat ((↑r : Int) + (↑k : Int)) * 1) default) * 1) default)) : Int) != 0) (fun p8 => have p8f := of_bne_t p8; (.s 2 (Hn.last last2 1 (() : Unit) rfl [(0, 0)] ro))) (fun p8 => have p8f := of_bne_f p8; (.s 4 (.opt (wrapO .u8 (↑a : Int)) (D.v (Value.int .u8 (↑a : Int))) (wrapO_u8 om) (.s 1 (.chk (decide (0 ≤ List.getD ys (Int.toNat ((↑r : Int) + (↑k : Int)) * 1) default) && decide (List.getD ys (Int.toNat ((↑r : Int) + (↑k : Int)) * 1) default < (↑320 : Int))) zcx4 (.s 1 (.chk (true && Nat.ble (0 + Int.toNat (List.getD ys (Int.toNat ((↑r : Int) + (↑k : Int)) * 1) default) * 1 + 1) (List.length (List.map dB M))) (by clear next2 last2 next1 last1; (simp_all <;> omega)) (.lst (setSeg (List.map dB M) (0 + Int.toNat (List.getD ys (Int.toNat ((↑r : Int) + (↑k : Int)) * 1) default) * 1) [D.v (Value.int .u8 (↑a : Int))]) (setSeg (List.map dB M) (Int.toNat (List.getD ys (Int.toNat ((↑r : Int) + (↑k : Int))) default)) [D.v (Value.int .u8 (↑a : Int))]) (by (simp; done)) (.s 3 (.ow ((↑k : Int) + 1) (.s 1 (.val 7 (iD ((↑k : Int) + 1)) (nD (k + 1)) zcx1 (.blk 8 8 (Blk.mk (setSeg (List.map dB M) (Int.toNat (List.getD ys (Int.toNat ((↑r : Int) + (↑k : Int))) default)) [D.v (Value.int .u8 (↑a : Int))]) 5 true) (Blk.mk (List.map dB (List.set M (Int.toNat (List.getD ys (Int.toNat ((↑r : Int) + (↑k : Int))) default)) (UInt8.ofNat a))) 5 true) (by ( simp only [Nat.mul_one] at *; exact blk_eq (st_u8 om om rfl))) (Hn.next next2 ⟨(k + 1), om, (M.set (ys.getD ((r : Int) + (k : Int)).toNat default).toNat (UInt8.ofNat a)), (by (rw [List.length_set]; (omega))), ⟨⟩⟩ (by show Int.toNat (f a) - (k + 1) < Int.toNat (f a) - k; clear next2 last2 next1 last1; omega) [(0, 0), (8, 8)] ro))))))))))))))))))))))))))))))))) (fun p5 => have p5f := odf p5; (.val 7 (nD k) (nD (Int.toNat (f a))) zcx1 (Hn.last last2 0 (⟨(M), om, ⟨⟩⟩ : (L2 : List UInt8) ×' (hL2 : L2.length = 320) ×' Unit) rfl [(0, 0), (8, 8)] ro)))))))))) (fun | ⟨k, hk, M, hM, _⟩ => by kernel_rfl) ⟨(0), om, (L), om, ⟨⟩⟩ [(0, 0), (8, 8)] ro (hs2 (fun | ⟨L2, hL2, _⟩ => (.s 6 (.chk (true && decide ((↑a : Int) < (↑16 : Int))) zcx0 (.s 3 (.opt ((c16i f ++ [D.sl false q 1 (List.map iD ys)])[0 + a * 1]?) (iD (f a)) (@get16zi f ([D.sl false q 1 (List.map iD ys)]) (a) om) (.s 2 (.ow ((↑r : Int) + f a) (.s 4 (.ow ((↑a : Int) + 1) (.s 1 (.val 5 (iD ((↑r : Int) + f a)) (nD (r + Int.toNat (f a))) zcx1 (.val 6 (iD ((↑a : Int) + 1)) (nD (a + 1)) zcx1 (Hn.next next1 ⟨(a + 1), om, (L2), om, (r + (f a).toNat), om, ⟨⟩⟩ (by show 16 - (a + 1) < 16 - a; clear next1 last1; omega) [(0, 0), (8, 8)] ro))))))))))))) (fun | () => (Hn.last last1 1 (() : Unit) rfl [(0, 0)] ro)))))))))))))))))))))) (fun p2 => have p2f := odf p2; (.val 6 (nD a) (iD 16) zcx1 (Hn.last last1 0 (⟨(L), om, (r), ⟨⟩⟩ : (L3 : List UInt8) ×' (hL3 : L3.length = 320) ×' (r2 : Nat) ×' Unit) rfl [(0, 0), (8, 8)] ro)))))) (fun | ⟨a, ha, L, hL, r, hr, _⟩ => by kernel_rfl) ⟨(1), om, (List.replicate 320 0), (by (simp; done)), (0), om, ⟨⟩⟩ [(0, 0), (24, 24)] ro (hs2 (fun | ⟨L3, hL3, r2, _⟩ => (.s 13 (.br ((↑r2 : Int) != (↑q : Int)) (fun p9 => have p9f := of_bne_t p9; (.s 20 (.out [] [] (D.tup [nilD, D.v (.bool false)]) [] R (ok _ _ wr wr)))) (fun p9 => have p9f := of_bne_f p9; (.s 2 (.call 87 false [] (true && (true && Nat.ble 320 (List.length (List.map dB L3)) && true && closedL (bif true && Nat.beq 320 (List.length (List.map dB L3)) then List.map dB L3 else List.take 320 (List.drop 0 (List.map dB L3)))) && true) (by (simp <;> (omega))) ([D.sl true 320 1 (bif true && Nat.beq 320 (List.length (List.map dB L3)) then List.map dB L3 else List.take 320 (List.drop 0 (List.map dB L3))), iD 15]) _ zcx7 (true) wr _ _ _ (CallOk.fn (FnOk.of Try.func87 rfl rfl) (@rCan (L3) (320) om om (15) (by (simp; done)))) (.s 6 (.br ((↑(canE L3 15) : Int) != 0) (fun p10 => have p10f := of_bne_t p10; (.s 12 (.out [] [] (D.tup [nilD, D.v (.bool false)]) [] R (ok _ _ wr wr)))) (fun p10 => have p10f := of_bne_f p10; (.s 2 (.call 55 false [] (true && (true && Nat.ble 320 (List.length (List.map dB L3)) && true && closedL (bif true && Nat.beq 320 (List.length (List.map dB L3)) then List.map dB L3 else List.take 320 (List.drop 0 (List.map dB L3)))) && true) (by (simp <;> (omega))) ([D.sl true 320 1 (bif true && Nat.beq 320 (List.length (List.map dB L3)) then List.map dB L3 else List.take 320 (List.drop 0 (List.map dB L3)))]) _ zcx8 (true) wr _ _ _ (CallOk.fn (FnOk.of Try.func55 rfl rfl) (@rGrown (L3) (320) om om)) (.s 7 (.call 34 false [] (true && (true && (true && (true && (true && (true && (true && (true && (true && (true && (true && (true && (true && (true && (true && (true && (true && (true && Nat.ble (0 + List.length (symsL L3) * 1) (List.length (List.map nD (symsL L3))) && true && closedL (bif true && Nat.beq (List.length (symsL L3) * 1) (List.length (List.map nD (symsL L3))) then List.map nD (symsL L3) else List.take (List.length (symsL L3) * 1) (List.drop 0 (List.map nD (symsL L3))))) && true)))))))))))))))) && true) (by (simp; done)) ([D.agg [nD (cnt L3 0), nD (cnt L3 1), nD (cnt L3 2), nD (cnt L3 3), nD (cnt L3 4), nD (cnt L3 5), nD (cnt L3 6), nD (cnt L3 7), nD (cnt L3 8), nD (cnt L3 9), nD (cnt L3 10), nD (cnt L3 11), nD (cnt L3 12), nD (cnt L3 13), nD (cnt L3 14), nD (cnt L3 15), D.sl (Nat.ble 1 (List.length (symsL L3))) (List.length (symsL L3)) 1 (bif true && Nat.beq (List.length (symsL L3) * 1) (List.length (List.map nD (symsL L3))) then List.map nD (symsL L3) else List.take (List.length (symsL L3) * 1) (List.drop 0 (List.map nD (symsL L3))))], D.agg [iD (f 0), iD (f 1), iD (f 2), iD (f 3), iD (f 4), iD (f 5), iD (f 6), iD (f 7), iD (f 8), iD (f 9), iD (f 10), iD (f 11), iD (f 12), iD (f 13), iD (f 14), iD (f 15), D.sl false q 1 (List.map iD ys)]]) _ zcx9 (true) wr _ _ _ (CallOk.fn (FnOk.of Try.func34 rfl rfl) (@rSame_gn (L3) (List.length (symsL L3)) om (f) (ys) (q) om om om (by (simp_all; done)))) (.s 6 (.out [] [] (D.tup [nilD, D.v (.bool false)]) [] R (ok _ _ wr wr)))))))))))))))) (fun | () => (.out [] [] (D.tup [nilD, D.v (.bool false)]) [] R (ok _ _ wr wr))))))))))))) (by kernel_rfl)
theorem zex0 {p : Prop} (h : p := by ( have q := hE.c (fun a b c d e => by first | omega | simp_all) (fun a b c d e => by omega); rw [q]; rfl)) : p := h
theorem zex1 {p : Prop} (h : p := by exact (And.intro (D.sim.refl _) trivial)) : p := h
theorem zex2 {p : Prop} (h : p := by (refine decide_eq_false ?_; (omega))) : p := h
theorem zex3 {p : Prop} (h : p := by exact (And.intro (D.sim.refl _) (And.intro (D.sim.refl _) trivial))) : p := h
theorem zex4 {p : Prop} (h : p := by (refine decide_eq_true ?_; (omega))) : p := h
theorem zex5 {p : Prop} (h : p := by exact (And.intro (D.sim.refl _) (And.intro (D.sim.refl _) (And.intro (D.sim.refl _) trivial)))) : p := h
theorem rChk_g (l : List UInt8) (hl : l.length = 320) (hc : canE l 15 = 0) (q : Nat) (hq : q = (symsL l).length) : SpecH false Try.prog 37 [treeD q l] [] (iD 0) [] := by
 refine SpecH.run T_ok mixed Try.func37 rfl rfl rfl trivial rfl 1000 64 (fun R ok => (.s 8 (.call 65 false [] (true) wr ([D.agg [nD (cnt l 0), nD (cnt l 1), nD (cnt l 2), nD (cnt l 3), nD (cnt l 4), nD (cnt l 5), nD (cnt l 6), nD (cnt l 7), nD (cnt l 8), nD (cnt l 9), nD (cnt l 10), nD (cnt l 11), nD (cnt l 12), nD (cnt l 13), nD (cnt l 14), nD (cnt l 15), D.sl false q 1 (List.map nD (symsL l))]]) _ zex1 (true) wr _ _ _ (CallOk.fn (FnOk.of Try.func65 rfl rfl) (@rLen_g (l) om om (q) om)) (.s 11 (.out [] [] (iD 0) [] R (ok _ _ wr wr)))))) (by kernel_rfl)
theorem rChk_b (f : Nat → Int) (ys : List Int) (q : Nat) (hq : q = ys.length) (hQ : q ≤ 100000) (hN : ∀ l : List UInt8, l.length = 320 → canE l 15 = 0 → ¬ ((∀ i, i < 16 → f i = (cnt l i : Int)) ∧ ys = (symsL l).map (fun (n : Nat) => (n : Int)))) : SpecH false Try.prog 37 [trD f q ys] [] (iD 8) [] := by
 refine SpecH.run T_ok mixed Try.func37 rfl rfl rfl trivial rfl 1000 64 (fun R ok => (.s 8 (.call 65 false [] (true) wr ([D.agg [iD (f 0), iD (f 1), iD (f 2), iD (f 3), iD (f 4), iD (f 5), iD (f 6), iD (f 7), iD (f 8), iD (f 9), iD (f 10), iD (f 11), iD (f 12), iD (f 13), iD (f 14), iD (f 15), D.sl false q 1 (List.map iD ys)]]) _ zex1 (true) wr _ _ _ (CallOk.fn (FnOk.of Try.func65 rfl rfl) (@rLen_b (f) (ys) (q) om om om)) (.s 11 (.out [] [] (iD 8) [] R (ok _ _ wr wr)))))) (by kernel_rfl)
theorem rChk_a (f : Nat → Int) (ys : List Int) (q : Nat) (hq : q = ys.length) (hQ : q ≤ 100000) (e : Nat) (h : TrE f ys e) : SpecH false Try.prog 37 [trD f q ys] [] (nD e) [] := by
 by_cases h0 : e = 0
 ·obtain ⟨l, hl⟩ := h.a h0
  have hd : trD f q ys = treeD q l := congrArg D.agg (trC_eq q hl.ct hl.sy)
  rw [hd, h0]
  exact rChk_g l hl.ln hl.ca q (by rw [hq, hl.sy, List.length_map])
 ·rw [(h.b h0).1]
  exact rChk_b f ys q hq hQ (fun l h1 h2 h3 => (h.b h0).2 l ⟨h1, h2, h3.1, h3.2⟩)
theorem rpchk (kd : Nat) (hkd : kd < 256) (la : Bool) (le : Int) (f1 f2 : Nat → Int) (ys1 ys2 : List Int) (q1 q2 : Nat) (hq1 : q1 = ys1.length) (hq2 : q2 = ys2.length) (hQ1 : q1 ≤ 100000) (hQ2 : q2 ≤ 100000) (z1 z2 : Bool) (hz1 : ZrB f1 q1 z1) (hz2 : ZrB f2 q2 z2) (e1 e2 : Nat) (he1 : TrE f1 ys1 e1) (he2 : TrE f2 ys2 e2) (e : Nat) (hE : PkE kd le z1 z2 e1 e2 e) : SpecH false Try.prog 16 [.agg ([u8D kd, bD la, iD le] ++ trC f1 q1 ys1 ++ trC f2 q2 ys2)] [] (nD e) [] := by
 refine SpecH.run T_ok mixed Try.func16 rfl rfl rfl trivial rfl 1000 64 (fun R ok => (.s 11 (.br ((↑kd : Int) == 0) (fun p0 => have p0f := eq_of_beq p0; (.s 10 (.call 34 false [] (true) wr ([D.agg [iD (f1 0), iD (f1 1), iD (f1 2), iD (f1 3), iD (f1 4), iD (f1 5), iD (f1 6), iD (f1 7), iD (f1 8), iD (f1 9), iD (f1 10), iD (f1 11), iD (f1 12), iD (f1 13), iD (f1 14), iD (f1 15), D.sl false q1 1 (List.map iD ys1)], D.agg [iD 0, iD 0, iD 0, iD 0, iD 0, iD 0, iD 0, iD 0, iD 0, iD 0, iD 0, iD 0, iD 0, iD 0, iD 0, iD 0, nilD]]) _ zex3 (true) wr _ _ _ (CallOk.fn (FnOk.of Try.func34 rfl rfl) (@rSame_z (f1) (ys1) (q1) om om (z1) asm)) (.s 2 (.br (z1) (fun p1 => (.s 12 (.call 34 false [] (true) wr ([D.agg [iD (f2 0), iD (f2 1), iD (f2 2), iD (f2 3), iD (f2 4), iD (f2 5), iD (f2 6), iD (f2 7), iD (f2 8), iD (f2 9), iD (f2 10), iD (f2 11), iD (f2 12), iD (f2 13), iD (f2 14), iD (f2 15), D.sl false q2 1 (List.map iD ys2)], D.agg [iD 0, iD 0, iD 0, iD 0, iD 0, iD 0, iD 0, iD 0, iD 0, iD 0, iD 0, iD 0, iD 0, iD 0, iD 0, iD 0, nilD]]) _ zex3 (true) wr _ _ _ (CallOk.fn (FnOk.of Try.func34 rfl rfl) (@rSame_z (f2) (ys2) (q2) om om (z2) asm)) (.s 12 (.br (decide (le < 0)) (fun p2 => have p2f := odt p2; (.s 13 (.out [] [] (iD 8) [] R (ok _ _ zex0 wr)))) (fun p2 => have p2f := odf p2; (.s 12 (.br (decide (65535 < le)) (fun p3 => have p3f := odt p3; (.s 5 (.out [] [] (iD 8) [] R (ok _ _ zex0 wr)))) (fun p3 => have p3f := odf p3; (.s 3 (.br (!z2) (fun p4 => have p4f := (not_t p4); (.s 1 (.out [] [] (iD 8) [] R (ok _ _ zex0 wr)))) (fun p4 => have p4f := (not_f p4); (.s 1 (.out [] [] (iD 0) [] R (ok _ _ (by ( rw [hE.a om om om asm asm]; rfl)) wr))))))))))))))) (fun p1 => (.s 18 (.br (decide (le < 0)) (fun p5 => have p5f := odt p5; (.s 13 (.out [] [] (iD 8) [] R (ok _ _ zex0 wr)))) (fun p5 => have p5f := odf p5; (.s 12 (.br (decide (65535 < le)) (fun p6 => have p6f := odt p6; (.s 5 (.out [] [] (iD 8) [] R (ok _ _ zex0 wr)))) (fun p6 => have p6f := odf p6; (.s 5 (.out [] [] (iD 8) [] R (ok _ _ zex0 wr))))))))))))))) (fun p0 => have p0f := of_beq_f p0; (.s 10 (.br (decide (2 < (↑kd : Int))) (fun p7 => have p7f := odt p7; (.s 27 (.out [] [] (iD 8) [] R (ok _ _ zex0 wr)))) (fun p7 => have p7f := odf p7; (.s 12 (.br (le != 0) (fun p8 => have p8f := of_bne_t p8; (.s 19 (.out [] [] (iD 8) [] R (ok _ _ zex0 wr)))) (fun p8 => have p8f := of_bne_f p8; (.s 9 (.call 37 false [] (true) wr ([D.agg [iD (f1 0), iD (f1 1), iD (f1 2), iD (f1 3), iD (f1 4), iD (f1 5), iD (f1 6), iD (f1 7), iD (f1 8), iD (f1 9), iD (f1 10), iD (f1 11), iD (f1 12), iD (f1 13), iD (f1 14), iD (f1 15), D.sl false q1 1 (List.map iD ys1)]]) _ zex1 (true) wr _ _ _ (CallOk.fn (FnOk.of Try.func37 rfl rfl) (@rChk_a (f1) (ys1) (q1) om om (e1) asm)) (.s 6 (.br ((↑e1 : Int) != 0) (fun p9 => have p9f := of_bne_t p9; (.s 9 (.out [] [] (iD 8) [] R (ok _ _ zex0 wr)))) (fun p9 => have p9f := of_bne_f p9; (.s 9 (.call 37 false [] (true) wr ([D.agg [iD (f2 0), iD (f2 1), iD (f2 2), iD (f2 3), iD (f2 4), iD (f2 5), iD (f2 6), iD (f2 7), iD (f2 8), iD (f2 9), iD (f2 10), iD (f2 11), iD (f2 12), iD (f2 13), iD (f2 14), iD (f2 15), D.sl false q2 1 (List.map iD ys2)]]) _ zex1 (true) wr _ _ _ (CallOk.fn (FnOk.of Try.func37 rfl rfl) (@rChk_a (f2) (ys2) (q2) om om (e2) asm)) (.s 4 (.br ((↑e2 : Int) != 0) (fun p10 => have p10f := of_bne_t p10; (.s 1 (.out [] [] (iD 8) [] R (ok _ _ zex0 wr)))) (fun p10 => have p10f := of_bne_f p10; (.s 1 (.out [] [] (iD 0) [] R (ok _ _ (by ( rw [hE.b om om om om om]; rfl)) wr))))))))))))))))))))))) (by kernel_rfl)
theorem rpchk_v (kd le : Nat) (la : Bool) (l1 l2 : List UInt8) (hK : KdV kd le l1 l2) (q1 q2 : Nat) (hq1 : q1 = (symsL l1).length) (hq2 : q2 = (symsL l2).length) : SpecH false Try.prog 16 [.agg ([u8D kd, bD la, nD le] ++ treeC q1 l1 ++ treeC q2 l2)] [] (iD 0) [] := by
 have k := hK.k
 refine pk_v hq1 hq2 hK (P := fun e => SpecH false Try.prog 16 [.agg ([u8D kd, bD la, nD le] ++ treeC q1 l1 ++ treeC q2 l2)] [] (nD e) []) (fun z1 z2 hz1 hz2 e1 e2 he1 he2 e hE => ?_)
 have h := rpchk kd (by omega) la le _ _ _ _ q1 q2 (by rw [List.length_map]; exact hq1) (by rw [List.length_map]; exact hq2) (by omega) (by omega) z1 z2 hz1 hz2 e1 e2 he1 he2 e hE
 rwa [trC_eq q1 (fun _ _ => rfl) rfl, trC_eq q2 (fun _ _ => rfl) rfl] at h
theorem rNy_n (b : List UInt8) (n : Nat) (hn : n = b.length) (hN : n ≤ 131072) (p : Nat) (hp : p ≤ 8 * n) (le : Nat) (la : Bool) (hle : le ≤ 1000000) (r : Rs × Nat × Nat × Nat × Bool) (hr : stR b 0 le [] [] (rs0 p) = r) : SpecH false Try.prog 32 [.agg [u8D 0, bD la, nD le, nilD, nilD], .sl false n 1 (b.map dB), nD p] [] (nxtD (nxtR r)) [] := by
 subst hr
 refine SpecH.run T_ok mixed Try.func32 rfl rfl rfl trivial rfl 1000 64 (fun R ok => (.s 24 (.br ((↑le : Int) == 0) (fun p0 => have p0f := eq_of_beq p0; (.s 12 (.out [] [] (D.tup [D.agg [D.v (Value.int .u8 0), iD 0, iD 0], D.v (.bool true), nD p, iD 0]) [] R (ok _ _ (by ( rw [@st_b b 0 le [] [] (rs0 p) rfl om]; rfl)) wr)))) (fun p0 => have p0f := of_beq_f p0; (.s 3 (.call 51 false [] (true) wr ([D.sl false n 1 (List.map dB b), nD p, iD 8]) _ zex5 (true) wr _ _ _ (CallOk.fn (FnOk.of Try.func51 rfl rfl) (@rTake (b) (n) om om (p) (8) (by (simp; done)) om)) (.s 10 (.br ((↑(tkE b p 8) : Int) != 0) (fun p1 => have p1f := of_bne_t p1; (.s 12 (.out [] [] (D.tup [D.agg [D.v (Value.int .u8 0), iD 0, iD 0], D.v (.bool false), iD 0, nD (tkE b p 8)]) [] R (ok _ _ (by ( rw [nt_a (p := p) rfl om]; exact nxt_e (show tkE b p 8 ≠ 0 by omega) rfl)) wr)))) (fun p1 => have p1f := of_bne_f p1; (.s 2 (.opt (wrapO .u8 (↑(tkV b p 8) : Int)) (D.v (Value.int .u8 ((↑(tkV b p 8) : Int) % 256))) (wrapO_eq _ _) (.s 5 (.ow ((↑p : Int) + 8) (.s 9 (.out [] [] (D.tup [D.agg [D.v (Value.int .u8 ((↑(tkV b p 8) : Int) % 256)), iD 0, iD 0], D.v (.bool false), iD ((↑p : Int) + 8), iD 0]) [] R (ok _ _ (by ( rw [nt_a (p := p) rfl om]; have h9 := tkV_lt b p 8; exact nxt_o (show tkE b p 8 = 0 by omega) ⟨by show ((tkV b p 8 : Nat) : Int) = _; omega, rfl, rfl, rfl⟩ rfl)) wr)))))))))))))))) (by kernel_rfl)
theorem rNy_1 (b : List UInt8) (n : Nat) (hn : n = b.length) (hN : n ≤ 131072) (p : Nat) (hp : p ≤ 8 * n) (kd le : Nat) (la : Bool) (l1 l2 : List UInt8) (n1 n2 : Nat) (hn1 : n1 = l1.length) (hn2 : n2 = l2.length) (hk : 1 ≤ kd ∧ kd ≤ 2) (hT1 : canE l1 15 = 0) (hT2 : canE l2 15 = 0) (r : Rs × Nat × Nat × Nat × Bool) (hr : stR b kd le l1 l2 (rs0 p) = r) : SpecH false Try.prog 32 [.agg [u8D kd, bD la, nD le, .sl false n1 1 (l1.map dB), .sl false n2 1 (l2.map dB)], .sl false n 1 (b.map dB), nD p] [] (nxtD (nxtR r)) [] := by
 subst hr
 exact rNx_1 b n hn (by omega) p hp kd le la l1 l2 n1 n2 hn1 hn2 hk hT1 hT2 _ _ _ _ rfl rfl rfl rfl
theorem rSt_a (b : List UInt8) (n : Nat) (hn : n = b.length) (hN : n ≤ 131072) (kd : Nat) (hkd : kd < 256) (la : Bool) (le : Int) (f1 f2 : Nat → Int) (ys1 ys2 : List Int) (q1 q2 : Nat) (hq1 : q1 = ys1.length) (hq2 : q2 = ys2.length) (hQ1 : q1 ≤ 100000) (hQ2 : q2 ≤ 100000) (x : Int) (h : x < 0 ∨ 8 * (n : Int) < x) : SpecH false Try.prog 13 [.agg ([u8D kd, bD la, iD le] ++ trC f1 q1 ys1 ++ trC f2 q2 ys2), .sl false n 1 (b.map dB), iD x] [] (nxtD (0, 0, 0, false, 0, 2)) [] := by
 refine SpecH.run T_ok mixed Try.func13 rfl rfl rfl trivial rfl 1000 64 (fun R ok => (.s 16 (.f (decide (131072 < (↑n : Int))) zex2 (.s 5 (.br (decide (x < 0)) (fun p0 => have p0f := odt p0; (.s 32 (.out [] [] (D.tup [D.agg [D.v (Value.int .u8 0), iD 0, iD 0], D.v (.bool false), iD 0, iD 2]) [] R (ok _ _ (by (simp; done)) wr)))) (fun p0 => have p0f := odf p0; (.s 7 (.ow (8 * (↑n : Int)) (.s 4 (.t (decide (8 * (↑n : Int) < x)) zex4 (.s 22 (.out [] [] (D.tup [D.agg [D.v (Value.int .u8 0), iD 0, iD 0], D.v (.bool false), iD 0, iD 2]) [] R (ok _ _ (by (simp; done)) wr))))))))))))) (by kernel_rfl)
theorem rSt_c (b : List UInt8) (n : Nat) (hn : n = b.length) (hN : n ≤ 131072) (kd : Nat) (hkd : kd < 256) (la : Bool) (le : Int) (f1 f2 : Nat → Int) (ys1 ys2 : List Int) (q1 q2 : Nat) (hq1 : q1 = ys1.length) (hq2 : q2 = ys2.length) (hQ1 : q1 ≤ 100000) (hQ2 : q2 ≤ 100000) (z1 z2 : Bool) (hz1 : ZrB f1 q1 z1) (hz2 : ZrB f2 q2 z2) (e1 e2 : Nat) (he1 : TrE f1 ys1 e1) (he2 : TrE f2 ys2 e2) (e : Nat) (hE : PkE kd le z1 z2 e1 e2 e) (x : Int) (h : 0 ≤ x ∧ x ≤ 8 * (n : Int)) (h8 : e = 8) : SpecH false Try.prog 13 [.agg ([u8D kd, bD la, iD le] ++ trC f1 q1 ys1 ++ trC f2 q2 ys2), .sl false n 1 (b.map dB), iD x] [] (nxtD (0, 0, 0, false, 0, 8)) [] := by
 refine SpecH.run T_ok mixed Try.func13 rfl rfl rfl trivial rfl 1000 64 (fun R ok => (.s 16 (.f (decide (131072 < (↑n : Int))) zex2 (.s 5 (.f (decide (x < 0)) zex2 (.s 7 (.ow (8 * (↑n : Int)) (.s 4 (.f (decide (8 * (↑n : Int) < x)) zex2 (.s 11 (.call 16 false [] (true) wr ([D.agg [D.v (Value.int .u8 (↑kd : Int)), D.v (.bool la), iD le, iD (f1 0), iD (f1 1), iD (f1 2), iD (f1 3), iD (f1 4), iD (f1 5), iD (f1 6), iD (f1 7), iD (f1 8), iD (f1 9), iD (f1 10), iD (f1 11), iD (f1 12), iD (f1 13), iD (f1 14), iD (f1 15), D.sl false q1 1 (List.map iD ys1), iD (f2 0), iD (f2 1), iD (f2 2), iD (f2 3), iD (f2 4), iD (f2 5), iD (f2 6), iD (f2 7), iD (f2 8), iD (f2 9), iD (f2 10), iD (f2 11), iD (f2 12), iD (f2 13), iD (f2 14), iD (f2 15), D.sl false q2 1 (List.map iD ys2)]]) _ zex1 (true) wr _ _ _ (CallOk.fn (FnOk.of Try.func16 rfl rfl) (@rpchk (kd) om (la) (le) (f1) (f2) (ys1) (ys2) (q1) (q2) om om om om (z1) (z2) asm asm (e1) (e2) asm asm (e) asm)) (.s 4 (.t ((↑e : Int) != 0) (by (simp <;> (omega))) (.s 12 (.out [] [] (D.tup [D.agg [D.v (Value.int .u8 0), iD 0, iD 0], D.v (.bool false), iD 0, nD e]) [] R (ok _ _ (by (simp <;> (omega))) wr)))))))))))))))) (by kernel_rfl)
theorem rSt_0 (b : List UInt8) (n : Nat) (hn : n = b.length) (hN : n ≤ 131072) (p : Nat) (hp : p ≤ 8 * n) (kd le : Nat) (la : Bool) (l1 l2 : List UInt8) (hK : KdV kd le l1 l2) (q1 q2 : Nat) (hq1 : q1 = (symsL l1).length) (hq2 : q2 = (symsL l2).length) (r : Rs × Nat × Nat × Nat × Bool) (hr : stR b kd le l1 l2 (rs0 p) = r) (h0 : kd = 0) (hle : le ≤ 65535) (hr2 : stR b 0 le [] [] (rs0 p) = r) : SpecH false Try.prog 13 [.agg ([u8D kd, bD la, nD le] ++ treeC q1 l1 ++ treeC q2 l2), .sl false n 1 (b.map dB), nD p] [] (nxtD (nxtR r)) [] := by
 subst h0
 refine SpecH.run T_ok mixed Try.func13 rfl rfl rfl trivial rfl 1000 64 (fun R ok => (.s 16 (.f (decide (131072 < (↑n : Int))) zex2 (.s 13 (.ow (8 * (↑n : Int)) (.s 4 (.f (decide (8 * (↑n : Int) < (↑p : Int))) zex2 (.s 11 (.call 16 false [] (true) wr ([D.agg [D.v (Value.int .u8 0), D.v (.bool la), nD le, nD (cnt l1 0), nD (cnt l1 1), nD (cnt l1 2), nD (cnt l1 3), nD (cnt l1 4), nD (cnt l1 5), nD (cnt l1 6), nD (cnt l1 7), nD (cnt l1 8), nD (cnt l1 9), nD (cnt l1 10), nD (cnt l1 11), nD (cnt l1 12), nD (cnt l1 13), nD (cnt l1 14), nD (cnt l1 15), D.sl false q1 1 (List.map nD (symsL l1)), nD (cnt l2 0), nD (cnt l2 1), nD (cnt l2 2), nD (cnt l2 3), nD (cnt l2 4), nD (cnt l2 5), nD (cnt l2 6), nD (cnt l2 7), nD (cnt l2 8), nD (cnt l2 9), nD (cnt l2 10), nD (cnt l2 11), nD (cnt l2 12), nD (cnt l2 13), nD (cnt l2 14), nD (cnt l2 15), D.sl false q2 1 (List.map nD (symsL l2))]]) _ zex1 (true) wr _ _ _ (CallOk.fn (FnOk.of Try.func16 rfl rfl) (@rpchk_v (0) (le) (la) (l1) (l2) om (q1) (q2) om om)) (.s 62 (.call 32 false [] (true) wr ([D.agg [D.v (Value.int .u8 0), D.v (.bool la), nD le, nilD, nilD], D.sl false n 1 (List.map dB b), nD p]) _ zex5 (true) wr _ _ _ (CallOk.fn (FnOk.of Try.func32 rfl rfl) (@rNy_n (b) (n) om om (p) om (le) (la) om (r) asm)) (.s 33 (.out [] [] (D.tup [D.agg [D.v (Value.int .u8 (↑(Prod.fst (nxtR r)) : Int)), nD (Prod.fst (Prod.snd (nxtR r))), nD (Prod.fst (Prod.snd (Prod.snd (nxtR r))))], D.v (.bool (Prod.fst (Prod.snd (Prod.snd (Prod.snd (nxtR r)))))), nD (Prod.fst (Prod.snd (Prod.snd (Prod.snd (Prod.snd (nxtR r)))))), nD (Prod.snd (Prod.snd (Prod.snd (Prod.snd (Prod.snd (nxtR r))))))]) [] R (ok _ _ wr wr)))))))))))))) (by kernel_rfl)
theorem rSt_1 (b : List UInt8) (n : Nat) (hn : n = b.length) (hN : n ≤ 131072) (p : Nat) (hp : p ≤ 8 * n) (kd le : Nat) (la : Bool) (l1 l2 : List UInt8) (hK : KdV kd le l1 l2) (q1 q2 : Nat) (hq1 : q1 = (symsL l1).length) (hq2 : q2 = (symsL l2).length) (r : Rs × Nat × Nat × Nat × Bool) (hr : stR b kd le l1 l2 (rs0 p) = r) (h0 : 1 ≤ kd ∧ kd ≤ 2) (k1 : l1.length = 320) (k2 : l2.length = 320) (c1 : canE l1 15 = 0) (c2 : canE l2 15 = 0) : SpecH false Try.prog 13 [.agg ([u8D kd, bD la, nD le] ++ treeC q1 l1 ++ treeC q2 l2), .sl false n 1 (b.map dB), nD p] [] (nxtD (nxtR r)) [] := by
 refine SpecH.run T_ok mixed Try.func13 rfl rfl rfl trivial rfl 1000 64 (fun R ok => (.s 16 (.f (decide (131072 < (↑n : Int))) zex2 (.s 13 (.ow (8 * (↑n : Int)) (.s 4 (.f (decide (8 * (↑n : Int) < (↑p : Int))) zex2 (.s 11 (.call 16 false [] (true) wr ([D.agg [D.v (Value.int .u8 (↑kd : Int)), D.v (.bool la), nD le, nD (cnt l1 0), nD (cnt l1 1), nD (cnt l1 2), nD (cnt l1 3), nD (cnt l1 4), nD (cnt l1 5), nD (cnt l1 6), nD (cnt l1 7), nD (cnt l1 8), nD (cnt l1 9), nD (cnt l1 10), nD (cnt l1 11), nD (cnt l1 12), nD (cnt l1 13), nD (cnt l1 14), nD (cnt l1 15), D.sl false q1 1 (List.map nD (symsL l1)), nD (cnt l2 0), nD (cnt l2 1), nD (cnt l2 2), nD (cnt l2 3), nD (cnt l2 4), nD (cnt l2 5), nD (cnt l2 6), nD (cnt l2 7), nD (cnt l2 8), nD (cnt l2 9), nD (cnt l2 10), nD (cnt l2 11), nD (cnt l2 12), nD (cnt l2 13), nD (cnt l2 14), nD (cnt l2 15), D.sl false q2 1 (List.map nD (symsL l2))]]) _ zex1 (true) wr _ _ _ (CallOk.fn (FnOk.of Try.func16 rfl rfl) (@rpchk_v (kd) (le) (la) (l1) (l2) om (q1) (q2) om om)) (.s 48 (.t ((↑kd : Int) != 0) (by (simp <;> (omega))) (.s 8 (.call 65 false [] (true) wr ([D.agg [nD (cnt l1 0), nD (cnt l1 1), nD (cnt l1 2), nD (cnt l1 3), nD (cnt l1 4), nD (cnt l1 5), nD (cnt l1 6), nD (cnt l1 7), nD (cnt l1 8), nD (cnt l1 9), nD (cnt l1 10), nD (cnt l1 11), nD (cnt l1 12), nD (cnt l1 13), nD (cnt l1 14), nD (cnt l1 15), D.sl false q1 1 (List.map nD (symsL l1))]]) _ zex1 (true) wr _ _ _ (CallOk.fn (FnOk.of Try.func65 rfl rfl) (@rLen_g (l1) om om (q1) om)) (.s 19 (.call 65 false [] (true) wr ([D.agg [nD (cnt l2 0), nD (cnt l2 1), nD (cnt l2 2), nD (cnt l2 3), nD (cnt l2 4), nD (cnt l2 5), nD (cnt l2 6), nD (cnt l2 7), nD (cnt l2 8), nD (cnt l2 9), nD (cnt l2 10), nD (cnt l2 11), nD (cnt l2 12), nD (cnt l2 13), nD (cnt l2 14), nD (cnt l2 15), D.sl false q2 1 (List.map nD (symsL l2))]]) _ zex1 (true) wr _ _ _ (CallOk.fn (FnOk.of Try.func65 rfl rfl) (@rLen_g (l2) om om (q2) om)) (.s 24 (.call 32 false [] (true && (true && (true && (true && (true && Nat.ble 320 (List.length (List.map dB l1)) && true && closedL (bif true && Nat.beq 320 (List.length (List.map dB l1)) then List.map dB l1 else List.take 320 (List.drop 0 (List.map dB l1)))) && (true && (true && Nat.ble 320 (List.length (List.map dB l2)) && true && closedL (bif true && Nat.beq 320 (List.length (List.map dB l2)) then List.map dB l2 else List.take 320 (List.drop 0 (List.map dB l2)))) && true)))) && true) (by (simp <;> (omega))) ([D.agg [D.v (Value.int .u8 (↑kd : Int)), D.v (.bool la), nD le, D.sl true 320 1 (bif true && Nat.beq 320 (List.length (List.map dB l1)) then List.map dB l1 else List.take 320 (List.drop 0 (List.map dB l1))), D.sl true 320 1 (bif true && Nat.beq 320 (List.length (List.map dB l2)) then List.map dB l2 else List.take 320 (List.drop 0 (List.map dB l2)))], D.sl false n 1 (List.map dB b), nD p]) _ (by exact (And.intro (D.sim.agg (And.intro (D.sim.refl _) (And.intro (D.sim.refl _) (And.intro (D.sim.refl _) (And.intro (D.sim.slw rfl (cond_t (by (simp <;> (omega))) |>.trans rfl)) (And.intro (D.sim.slw rfl (cond_t (by (simp <;> (omega))) |>.trans rfl)) trivial)))))) (And.intro (D.sim.refl _) (And.intro (D.sim.refl _) trivial)))) (true) wr _ _ _ (CallOk.fn (FnOk.of Try.func32 rfl rfl) (@rNy_1 (b) (n) om om (p) om (kd) (le) (la) (l1) (l2) (320) (320) om om om om om (r) asm)) (.s 33 (.out [] [] (D.tup [D.agg [D.v (Value.int .u8 (↑(Prod.fst (nxtR r)) : Int)), nD (Prod.fst (Prod.snd (nxtR r))), nD (Prod.fst (Prod.snd (Prod.snd (nxtR r))))], D.v (.bool (Prod.fst (Prod.snd (Prod.snd (Prod.snd (nxtR r)))))), nD (Prod.fst (Prod.snd (Prod.snd (Prod.snd (Prod.snd (nxtR r)))))), nD (Prod.snd (Prod.snd (Prod.snd (Prod.snd (Prod.snd (nxtR r))))))]) [] R (ok _ _ wr wr)))))))))))))))))))) (by kernel_rfl)
theorem rSameB (kd le : Nat) (la : Bool) (l1 l2 : List UInt8) (q1 q2 p1 p2 : Nat) (hq1 : q1 = (symsL l1).length) (hq2 : q2 = (symsL l2).length) (hp1 : p1 = (symsL l1).length) (hp2 : p2 = (symsL l2).length) (hQ1 : q1 ≤ 1000000) (hQ2 : q2 ≤ 1000000) : SpecH false Try.prog 14 [.agg ([u8D kd, bD la, nD le] ++ treeC q1 l1 ++ treeC q2 l2), .agg ([u8D kd, bD la, nD le] ++ treeC p1 l1 ++ treeC p2 l2)] [] (bD true) [] := by
 refine SpecH.run T_ok mixed Try.func14 rfl rfl rfl trivial rfl 1000 64 (fun R ok => (.s 21 (.t ((↑kd : Int) == (↑kd : Int)) zex4 (.s 20 (.t (la == la) (by (simp; done)) (.s 20 (.t ((↑le : Int) == (↑le : Int)) zex4 (.s 18 (.call 34 false [] (true) wr ([D.agg [nD (cnt l1 0), nD (cnt l1 1), nD (cnt l1 2), nD (cnt l1 3), nD (cnt l1 4), nD (cnt l1 5), nD (cnt l1 6), nD (cnt l1 7), nD (cnt l1 8), nD (cnt l1 9), nD (cnt l1 10), nD (cnt l1 11), nD (cnt l1 12), nD (cnt l1 13), nD (cnt l1 14), nD (cnt l1 15), D.sl false q1 1 (List.map nD (symsL l1))], D.agg [nD (cnt l1 0), nD (cnt l1 1), nD (cnt l1 2), nD (cnt l1 3), nD (cnt l1 4), nD (cnt l1 5), nD (cnt l1 6), nD (cnt l1 7), nD (cnt l1 8), nD (cnt l1 9), nD (cnt l1 10), nD (cnt l1 11), nD (cnt l1 12), nD (cnt l1 13), nD (cnt l1 14), nD (cnt l1 15), D.sl false p1 1 (List.map nD (symsL l1))]]) _ zex3 (true) wr _ _ _ (CallOk.fn (FnOk.of Try.func34 rfl rfl) (@rSame_t (l1) (q1) (p1) om om om)) (.s 22 (.call 34 false [] (true) wr ([D.agg [nD (cnt l2 0), nD (cnt l2 1), nD (cnt l2 2), nD (cnt l2 3), nD (cnt l2 4), nD (cnt l2 5), nD (cnt l2 6), nD (cnt l2 7), nD (cnt l2 8), nD (cnt l2 9), nD (cnt l2 10), nD (cnt l2 11), nD (cnt l2 12), nD (cnt l2 13), nD (cnt l2 14), nD (cnt l2 15), D.sl false q2 1 (List.map nD (symsL l2))], D.agg [nD (cnt l2 0), nD (cnt l2 1), nD (cnt l2 2), nD (cnt l2 3), nD (cnt l2 4), nD (cnt l2 5), nD (cnt l2 6), nD (cnt l2 7), nD (cnt l2 8), nD (cnt l2 9), nD (cnt l2 10), nD (cnt l2 11), nD (cnt l2 12), nD (cnt l2 13), nD (cnt l2 14), nD (cnt l2 15), D.sl false p2 1 (List.map nD (symsL l2))]]) _ zex3 (true) wr _ _ _ (CallOk.fn (FnOk.of Try.func34 rfl rfl) (@rSame_t (l2) (q2) (p2) om om om)) (.s 2 (.out [] [] (D.v (.bool true)) [] R (ok _ _ wr wr)))))))))))))) (by kernel_rfl)
theorem zfx0 {p : Prop} (h : p := by (refine decide_eq_false ?_; (omega))) : p := h
theorem zfx1 {p : Prop} (h : p := by exact (And.intro (D.sim.slw rfl (cond_t (by (simp <;> (omega))) |>.trans rfl)) trivial)) : p := h
theorem rGrownV (l : List UInt8) (n : Nat) (hn : n = l.length) (hN : n ≤ 1000) (T : List UInt8) (hT : l = T) : SpecH false Try.prog 55 [.sl false n 1 (l.map dB)] [] (.agg (c16 (cnt T) ++ [.ref 0 0 0 (symsL T).length 1])) [⟨(symsL T).map nD, 3, true⟩] := by
 subst hT; exact rGrown l n hn hN
theorem rBd_e (b : List UInt8) (n : Nat) (hn : n = b.length) (hN : n ≤ 131072) (p : Nat) (hp : p ≤ 8 * n) (H : Hd) (hH : hdR b (rs0 p) = H) (he : H.s.e ≠ 0) : SpecH false Try.prog 29 [.sl false n 1 (b.map dB), nD p] [] (.tup [.agg [u8D 0, bD false, iD 0, nilD, nilD], iD 0, nD H.s.e]) [] := by
 subst hH
 exact rBc_e hn (by omega) hp he
theorem rBd_s (b : List UInt8) (n : Nat) (hn : n = b.length) (hN : n ≤ 131072) (p : Nat) (hp : p ≤ 8 * n) (H : Hd) (hH : hdR b (rs0 p) = H) (he : H.s.e = 0) (hk : H.kd = 0) : SpecH false Try.prog 29 [.sl false n 1 (b.map dB), nD p] [] (.tup [.agg [u8D 0, bD H.la, nD H.le, nilD, nilD], nD H.s.p, iD 0]) [] := by
 subst hH
 exact rBc_s hn (by omega) hp he hk
theorem rBd_f (b : List UInt8) (n : Nat) (hn : n = b.length) (hN : n ≤ 131072) (p : Nat) (hp : p ≤ 8 * n) (H : Hd) (hH : hdR b (rs0 p) = H) (he : H.s.e = 0) (hk : H.kd = 1) : SpecH false Try.prog 29 [.sl false n 1 (b.map dB), nD p] [] (.tup [.agg [u8D 1, bD H.la, iD 0, .ref 0 0 0 288 1, .ref 1 1 0 32 1], nD H.s.p, iD 0]) [⟨H.l1.map dB, 5, true⟩, ⟨H.l2.map dB, 5, true⟩] := by
 subst hH
 exact rBc_f hn (by omega) hp he hk
theorem rBd_d (b : List UInt8) (n : Nat) (hn : n = b.length) (hN : n ≤ 131072) (p : Nat) (hp : p ≤ 8 * n) (H : Hd) (hH : hdR b (rs0 p) = H) (he : H.s.e = 0) (hk : H.kd = 2) (G F : Nat) (hG : gG b p = G) (hF : gF b p = F) (O : List UInt8) (hO : dO b p = O) : SpecH false Try.prog 29 [.sl false n 1 (b.map dB), nD p] [] (.tup [.agg [u8D 2, bD H.la, iD 0, .ref 0 0 0 G 1, .ref 0 0 G F 1], nD H.s.p, iD 0]) [⟨O.map dB, 5, true⟩] := by
 subst hH hG hF hO
 exact rBc_d hn (by omega) hp he hk
theorem rHd_a (b : List UInt8) (n : Nat) (hn : n = b.length) (hN : n ≤ 131072) (x : Int) (h : x < 0 ∨ 8 * (n : Int) < x) : SpecH false Try.prog 11 [.sl false n 1 (b.map dB), iD x] [] (.tup [.agg ([u8D 0, bD false, iD 0] ++ zeroC ++ zeroC), iD 0, iD 2]) [] := by
 refine SpecH.run T_ok mixed Try.func11 rfl rfl rfl trivial rfl 1000 64 (fun R ok => (.s 13 (.f (decide (131072 < (↑n : Int))) zfx0 (.s 5 (.br (decide (x < 0)) (fun p0 => have p0f := odt p0; (.s 27 (.out [] [] (D.tup [D.agg [D.v (Value.int .u8 0), D.v (.bool false), iD 0, iD 0, iD 0, iD 0, iD 0, iD 0, iD 0, iD 0, iD 0, iD 0, iD 0, iD 0, iD 0, iD 0, iD 0, iD 0, iD 0, nilD, iD 0, iD 0, iD 0, iD 0, iD 0, iD 0, iD 0, iD 0, iD 0, iD 0, iD 0, iD 0, iD 0, iD 0, iD 0, iD 0, nilD], iD 0, iD 2]) [] R (ok _ _ (by exact rfl) wr)))) (fun p0 => have p0f := odf p0; (.s 7 (.ow (8 * (↑n : Int)) (.s 4 (.t (decide (8 * (↑n : Int) < x)) (by (refine decide_eq_true ?_; (omega))) (.s 17 (.out [] [] (D.tup [D.agg [D.v (Value.int .u8 0), D.v (.bool false), iD 0, iD 0, iD 0, iD 0, iD 0, iD 0, iD 0, iD 0, iD 0, iD 0, iD 0, iD 0, iD 0, iD 0, iD 0, iD 0, iD 0, nilD, iD 0, iD 0, iD 0, iD 0, iD 0, iD 0, iD 0, iD 0, iD 0, iD 0, iD 0, iD 0, iD 0, iD 0, iD 0, iD 0, nilD], iD 0, iD 2]) [] R (ok _ _ (by exact rfl) wr))))))))))))) (by kernel_rfl)
theorem rHd_e (b : List UInt8) (n : Nat) (hn : n = b.length) (hN : n ≤ 131072) (p : Nat) (hp : p ≤ 8 * n) (H : Hd) (hH : hdR b (rs0 p) = H) (he : H.s.e ≠ 0) : SpecH false Try.prog 11 [.sl false n 1 (b.map dB), nD p] [] (.tup [.agg ([u8D 0, bD false, iD 0] ++ zeroC ++ zeroC), iD 0, nD H.s.e]) [] := by
 refine SpecH.run T_ok mixed Try.func11 rfl rfl rfl trivial rfl 1000 64 (fun R ok => (.s 13 (.f (decide (131072 < (↑n : Int))) zfx0 (.s 13 (.ow (8 * (↑n : Int)) (.s 4 (.f (decide (8 * (↑n : Int) < (↑p : Int))) zfx0 (.s 9 (.cl 29 false [] (.fn q29 (@rBd_e (b) (n) om om (p) om (H) asm om)) (.s 17 (.t ((↑(Rs.e (Hd.s H)) : Int) != 0) (by (simp <;> (omega))) (.s 11 (.out [] [] (D.tup [D.agg [D.v (Value.int .u8 0), D.v (.bool false), iD 0, iD 0, iD 0, iD 0, iD 0, iD 0, iD 0, iD 0, iD 0, iD 0, iD 0, iD 0, iD 0, iD 0, iD 0, iD 0, iD 0, nilD, iD 0, iD 0, iD 0, iD 0, iD 0, iD 0, iD 0, iD 0, iD 0, iD 0, iD 0, iD 0, iD 0, iD 0, iD 0, iD 0, nilD], iD 0, nD (Rs.e (Hd.s H))]) [] R (ok _ _ (by exact rfl) wr)))))))))))))) (by kernel_rfl)
theorem rHd_s (b : List UInt8) (n : Nat) (hn : n = b.length) (hN : n ≤ 131072) (p : Nat) (hp : p ≤ 8 * n) (H : Hd) (hH : hdR b (rs0 p) = H) (he : H.s.e = 0) (hk : H.kd = 0) : SpecH false Try.prog 11 [.sl false n 1 (b.map dB), nD p] [] (.tup [.agg ([u8D 0, bD H.la, nD H.le] ++ zeroC ++ zeroC), nD H.s.p, iD 0]) [] := by
 refine SpecH.run T_ok mixed Try.func11 rfl rfl rfl trivial rfl 1000 64 (fun R ok => (.s 13 (.f (decide (131072 < (↑n : Int))) zfx0 (.s 13 (.ow (8 * (↑n : Int)) (.s 4 (.f (decide (8 * (↑n : Int) < (↑p : Int))) zfx0 (.s 9 (.cl 29 false [] (.fn q29 (@rBd_s (b) (n) om om (p) om (H) asm om om)) (.s 81 (.out [] [] (D.tup [D.agg [D.v (Value.int .u8 0), D.v (.bool (Hd.la H)), nD (Hd.le H), iD 0, iD 0, iD 0, iD 0, iD 0, iD 0, iD 0, iD 0, iD 0, iD 0, iD 0, iD 0, iD 0, iD 0, iD 0, iD 0, nilD, iD 0, iD 0, iD 0, iD 0, iD 0, iD 0, iD 0, iD 0, iD 0, iD 0, iD 0, iD 0, iD 0, iD 0, iD 0, iD 0, nilD], nD (Rs.p (Hd.s H)), iD 0]) [] R (ok _ _ (by exact rfl) wr)))))))))))) (by kernel_rfl)
theorem rHd_f (b : List UInt8) (n : Nat) (hn : n = b.length) (hN : n ≤ 131072) (p : Nat) (hp : p ≤ 8 * n) (H : Hd) (hH : hdR b (rs0 p) = H) (he : H.s.e = 0) (hk : H.kd = 1) (k1 : H.l1.length = 288) (k2 : H.l2.length = 32) (T1 T2 : List UInt8) (y1 : H.l1 = T1) (y2 : H.l2 = T2) : SpecH false Try.prog 11 [.sl false n 1 (b.map dB), nD p] [] (.tup [.agg ([u8D 1, bD H.la, iD 0] ++ (c16 (cnt T1) ++ [.ref 0 0 0 (symsL T1).length 1]) ++ (c16 (cnt T2) ++ [.ref 1 1 0 (symsL T2).length 1])), nD H.s.p, iD 0]) [⟨(symsL T1).map nD, 3, true⟩, ⟨(symsL T2).map nD, 3, true⟩] := by
 refine SpecH.run T_ok mixed Try.func11 rfl rfl rfl ⟨pl_map _ (fun _ => rfl) _, pl_map _ (fun _ => rfl) _, trivial⟩ rfl 1000 64 (fun R ok => (.s 13 (.f (decide (131072 < (↑n : Int))) zfx0 (.s 13 (.ow (8 * (↑n : Int)) (.s 4 (.f (decide (8 * (↑n : Int) < (↑p : Int))) zfx0 (.s 9 (.cl 29 false [] (.fn q29 (@rBd_f (b) (n) om om (p) om (H) asm om om)) (.s 69 (.call 55 false [] (true && (true && Nat.ble 288 (List.length (List.map dB (Hd.l1 H))) && true && closedL (bif true && Nat.beq 288 (List.length (List.map dB (Hd.l1 H))) then List.map dB (Hd.l1 H) else List.take 288 (List.drop 0 (List.map dB (Hd.l1 H))))) && true) (by (simp <;> (omega))) ([D.sl true 288 1 (bif true && Nat.beq 288 (List.length (List.map dB (Hd.l1 H))) then List.map dB (Hd.l1 H) else List.take 288 (List.drop 0 (List.map dB (Hd.l1 H))))]) _ zfx1 (true) wr _ _ _ (CallOk.fn (FnOk.of Try.func55 rfl rfl) (@rGrownV (Hd.l1 H) (288) om om (T1) asm)) (.s 13 (.call 55 false [] (true && (true && Nat.ble 32 (List.length (List.map dB (Hd.l2 H))) && true && closedL (bif true && Nat.beq 32 (List.length (List.map dB (Hd.l2 H))) then List.map dB (Hd.l2 H) else List.take 32 (List.drop 0 (List.map dB (Hd.l2 H))))) && true) (by (simp <;> (omega))) ([D.sl true 32 1 (bif true && Nat.beq 32 (List.length (List.map dB (Hd.l2 H))) then List.map dB (Hd.l2 H) else List.take 32 (List.drop 0 (List.map dB (Hd.l2 H))))]) _ zfx1 (true) wr _ _ _ (CallOk.fn (FnOk.of Try.func55 rfl rfl) (@rGrownV (Hd.l2 H) (32) om om (T2) asm)) (.s 25 (.out [456, 496] [456, 496] (D.tup [D.agg [D.v (Value.int .u8 1), D.v (.bool (Hd.la H)), iD 0, nD (cnt T1 0), nD (cnt T1 1), nD (cnt T1 2), nD (cnt T1 3), nD (cnt T1 4), nD (cnt T1 5), nD (cnt T1 6), nD (cnt T1 7), nD (cnt T1 8), nD (cnt T1 9), nD (cnt T1 10), nD (cnt T1 11), nD (cnt T1 12), nD (cnt T1 13), nD (cnt T1 14), nD (cnt T1 15), D.ref 0 0 0 (List.length (symsL T1)) 1, nD (cnt T2 0), nD (cnt T2 1), nD (cnt T2 2), nD (cnt T2 3), nD (cnt T2 4), nD (cnt T2 5), nD (cnt T2 6), nD (cnt T2 7), nD (cnt T2 8), nD (cnt T2 9), nD (cnt T2 10), nD (cnt T2 11), nD (cnt T2 12), nD (cnt T2 13), nD (cnt T2 14), nD (cnt T2 15), D.ref 1 1 0 (List.length (symsL T2)) 1], nD (Rs.p (Hd.s H)), iD 0]) [Blk.mk (List.map nD (symsL T1)) 3 true, Blk.mk (List.map nD (symsL T2)) 3 true] R (ok _ _ (by exact rfl) wr)))))))))))))))) (by kernel_rfl)
theorem rHd_d (b : List UInt8) (n : Nat) (hn : n = b.length) (hN : n ≤ 131072) (p : Nat) (hp : p ≤ 8 * n) (H : Hd) (hH : hdR b (rs0 p) = H) (he : H.s.e = 0) (hk : H.kd = 2) (G F : Nat) (hG : gG b p = G) (hF : gF b p = F) (O : List UInt8) (hO : dO b p = O) (k1 : O.length = G + F) (gb : G ≤ 400 ∧ F ≤ 400) (T1 T2 : List UInt8) (y1 : List.take G O = T1) (y2 : List.take F (List.drop G O) = T2) : SpecH false Try.prog 11 [.sl false n 1 (b.map dB), nD p] [] (.tup [.agg ([u8D 2, bD H.la, iD 0] ++ (c16 (cnt T1) ++ [.ref 0 0 0 (symsL T1).length 1]) ++ (c16 (cnt T2) ++ [.ref 1 1 0 (symsL T2).length 1])), nD H.s.p, iD 0]) [⟨(symsL T1).map nD, 3, true⟩, ⟨(symsL T2).map nD, 3, true⟩] := by
 refine SpecH.run T_ok mixed Try.func11 rfl rfl rfl ⟨pl_map _ (fun _ => rfl) _, pl_map _ (fun _ => rfl) _, trivial⟩ rfl 1000 64 (fun R ok => (.s 13 (.f (decide (131072 < (↑n : Int))) zfx0 (.s 13 (.ow (8 * (↑n : Int)) (.s 4 (.f (decide (8 * (↑n : Int) < (↑p : Int))) zfx0 (.s 9 (.cl 29 false [] (.fn q29 (@rBd_d (b) (n) om om (p) om (H) asm om om (G) (F) asm asm (O) asm)) (.s 69 (.call 55 false [] (true && (true && Nat.ble (0 + G * 1) (List.length (List.map dB O)) && true && closedL (bif true && Nat.beq (G * 1) (List.length (List.map dB O)) then List.map dB O else List.take (G * 1) (List.drop 0 (List.map dB O)))) && true) (by (simp <;> (omega))) ([D.sl (Nat.ble 1 G) G 1 (bif true && Nat.beq (G * 1) (List.length (List.map dB O)) then List.map dB O else List.take (G * 1) (List.drop 0 (List.map dB O)))]) _ (by exact (And.intro (D.sim.slw rfl ((seg_bytes (O) (0) (G * 1)).trans (by (simp; done)))) trivial)) (true) wr _ _ _ (CallOk.fn (FnOk.of Try.func55 rfl rfl) (@rGrownV (List.take G O) (G) (by (simp <;> (omega))) om (T1) asm)) (.s 13 (.call 55 false [] (true && (true && Nat.ble (G + F * 1) (List.length (List.map dB O)) && true && closedL (bif Nat.beq G 0 && Nat.beq (F * 1) (List.length (List.map dB O)) then List.map dB O else List.take (F * 1) (List.drop G (List.map dB O)))) && true) (by (simp only [seg_bytes]; simp <;> (omega))) ([D.sl (Nat.ble 1 F) F 1 (bif Nat.beq G 0 && Nat.beq (F * 1) (List.length (List.map dB O)) then List.map dB O else List.take (F * 1) (List.drop G (List.map dB O)))]) _ (by exact (And.intro (D.sim.slw rfl ((seg_bytes (O) (G) (F * 1)).trans (by (simp; done)))) trivial)) (true) wr _ _ _ (CallOk.fn (FnOk.of Try.func55 rfl rfl) (@rGrownV (List.take F (List.drop G O)) (F) (by (simp <;> (omega))) om (T2) asm)) (.s 25 (.out [456, 496] [456, 496] (D.tup [D.agg [D.v (Value.int .u8 2), D.v (.bool (Hd.la H)), iD 0, nD (cnt T1 0), nD (cnt T1 1), nD (cnt T1 2), nD (cnt T1 3), nD (cnt T1 4), nD (cnt T1 5), nD (cnt T1 6), nD (cnt T1 7), nD (cnt T1 8), nD (cnt T1 9), nD (cnt T1 10), nD (cnt T1 11), nD (cnt T1 12), nD (cnt T1 13), nD (cnt T1 14), nD (cnt T1 15), D.ref 0 0 0 (List.length (symsL T1)) 1, nD (cnt T2 0), nD (cnt T2 1), nD (cnt T2 2), nD (cnt T2 3), nD (cnt T2 4), nD (cnt T2 5), nD (cnt T2 6), nD (cnt T2 7), nD (cnt T2 8), nD (cnt T2 9), nD (cnt T2 10), nD (cnt T2 11), nD (cnt T2 12), nD (cnt T2 13), nD (cnt T2 14), nD (cnt T2 15), D.ref 1 1 0 (List.length (symsL T2)) 1], nD (Rs.p (Hd.s H)), iD 0]) [Blk.mk (List.map nD (symsL T1)) 3 true, Blk.mk (List.map nD (symsL T2)) 3 true] R (ok _ _ (by exact rfl) wr)))))))))))))))) (by kernel_rfl)
end Vp
end Go.Proofs.Ytegjeagfcfhbeaa
namespace Go.Vx
open Go.RowKit Go.Bw Go.ChangeShapes Go.WideShapes Go.ChangeAt

inductive Sh
 | int (k : IntKind)
 | bool
 | str
 | bytes
 | sl (e : Sh) (sz : Nat)
 | arr (k : IntKind) (n : Nat)
 | st (l : Sh)
 | nil
 | cons (a b : Sh)
def Sh.size : Sh → Nat
 | .int _ => 1
 | .bool => 1
 | .str => 1
 | .bytes => 1
 | .sl _ _ => 1
 | .arr _ n => n
 | .st l => l.size
 | .nil => 0
 | .cons a b => a.size + b.size
def Sh.has : Sh → List D → Prop
 | .int k, ds => ∃ n, ds = [.v (.int k n)] ∧ (Lit.int k n).wf = true
 | .bool, ds => ∃ b, ds = [.v (.bool b)]
 | .str, ds => ∃ s : ByteArray, ds = [.v (.string s)] ∧ s.size ≤ maxLen
 | .bytes, ds => ∃ bs : List UInt8, ds = [.sl false bs.length 1 (bs.map dB)] ∧ bs.length ≤ maxLen
 | .sl e sz, ds => ∃ els : List (List D), ds = [.sl false els.length sz els.flatten] ∧ (∀ el ∈ els, e.has el) ∧ els.length ≤ maxLen
 | .arr k n, ds => ∃ zs : List Int, ds = zs.map (fun z => D.v (.int k z)) ∧ zs.length = n ∧ ∀ z ∈ zs, (Lit.int k z).wf = true
 | .st l, ds => l.has ds
 | .nil, ds => ds = []
 | .cons a b, ds => ∃ d1 d2, ds = d1 ++ d2 ∧ a.has d1 ∧ b.has d2
mutual
def Sh.ty (P : Program) : Sh → TypeId → Prop
 | .int k, t => P.underlying t = some (.int k)
 | .bool, t => P.underlying t = some .bool
 | .str, t => P.underlying t = some .string
 | .bytes, t => ∃ te, P.underlying t = some (.slice te) ∧ P.cellsOf te = 1 ∧ P.underlying te = some (.int .u8)
 | .sl e sz, t => ∃ te, P.underlying t = some (.slice te) ∧ P.cellsOf te = sz ∧ 0 < sz ∧ e.size = sz ∧ e.ty P te
 | .arr k n, t => ∃ te, P.underlying t = some (.array n te) ∧ P.cellsOf te = 1 ∧ P.cellsOf t = n ∧ P.underlying te = some (.int k)
 | .st l, t => ∃ fs, P.underlying t = some (.struct fs) ∧ P.cellsOf t = l.size ∧ l.fty P 0 fs.toList
 | .nil, _ => False
 | .cons _ _, _ => False
def Sh.fty (P : Program) : Sh → Nat → List Field → Prop
 | .nil, _, [] => True
 | .cons a b, off, f :: r => f.offset = off ∧ P.cellsOf f.type = a.size ∧ a.ty P f.type ∧ b.fty P (off + a.size) r
 | _, _, _ => False
end
def CR (E : Env) (w : World) (ds : List D) (us : List Value) : Prop := us.length = ds.length ∧ ∀ (i : Nat) d u, ds[i]? = some d → us[i]? = some u → RD E w d u ∧ u.oneCell' = true
theorem CR.append {E : Env} {w : World} {d1 d2 : List D} {u1 u2 : List Value} (h1 : CR E w d1 u1) (h2 : CR E w d2 u2) : CR E w (d1 ++ d2) (u1 ++ u2) := by
 refine ⟨by simp [h1.1, h2.1], fun i d u hd hu => ?_⟩
 by_cases hi : i < d1.length
 ·rw [List.getElem?_append_left hi] at hd
  rw [List.getElem?_append_left (by have := h1.1; omega)] at hu
  exact h1.2 i d u hd hu
 ·rw [List.getElem?_append_right (by omega)] at hd
  rw [List.getElem?_append_right (by have := h1.1; omega), h1.1] at hu
  exact h2.2 _ d u hd hu
theorem CR.one {E : Env} {w : World} {d : D} {u : Value} (h : RD E w d u) (h1 : u.oneCell' = true) : CR E w [d] [u] := ⟨rfl, fun i d' u' hd hu => by
 cases i with
 | zero => simp at hd hu; subst hd hu; exact ⟨h, h1⟩
 | succ i => simp at hd⟩
theorem CR.nil (E : Env) (w : World) : CR E w [] [] := ⟨rfl, fun i d u hd => by simp at hd⟩
theorem CR.flatten {E : Env} {w : World} : ∀ {els : List (List D)} {vs : List (List Value)}, els.length = vs.length → (∀ (i : Nat) el v, els[i]? = some el → vs[i]? = some v → CR E w el v) → CR E w els.flatten vs.flatten
 | [], [], _, _ => CR.nil E w
 | e :: els, v :: vs, hl, h => by
  rw [List.flatten_cons, List.flatten_cons]
  exact (h 0 e v rfl rfl).append (CR.flatten (by simpa using hl) fun i el v' h1 h2 => h (i + 1) el v' (by simpa using h1) (by simpa using h2))
 | [], _ :: _, hl, _ => by simp at hl
 | _ :: _, [], hl, _ => by simp at hl

section
variable {H : Type} {enc : TypeId × Value → H} {P : Program} {w : World}
theorem getElem?_flatten_const {α : Type} {sz : Nat} (hs : 0 < sz) : ∀ {l : List (List α)}, (∀ x ∈ l, x.length = sz) → ∀ i : Nat, l.flatten[i]? = (l[i / sz]?).bind (·[i % sz]?)
 | [], _, i => by simp
 | x :: l, h, i => by
  rw [List.flatten_cons]
  have hx := h x List.mem_cons_self
  by_cases hi : i < sz
  ·rw [List.getElem?_append_left (by omega), Nat.div_eq_of_lt hi, Nat.mod_eq_of_lt hi]; rfl
  ·rw [List.getElem?_append_right (by omega), getElem?_flatten_const hs (fun y hy => h y (List.mem_cons_of_mem _ hy)) (i - x.length), hx]
   have e1 : i / sz = (i - sz) / sz + 1 := by
    rw [← Nat.add_div_right _ hs]; congr 1; omega
   have e2 : i % sz = (i - sz) % sz := by
    conv => lhs; rw [show i = (i - sz) + sz by omega, Nat.add_mod_right]
   rw [e1, e2, List.getElem?_cons_succ]
theorem flatten_const_length {α : Type} {sz : Nat} : ∀ {l : List (List α)}, (∀ x ∈ l, x.length = sz) → l.flatten.length = l.length * sz
 | [], _ => by simp
 | x :: l, h => by
  rw [List.flatten_cons, List.length_append, h x List.mem_cons_self, flatten_const_length (fun y hy => h y (List.mem_cons_of_mem _ hy)), List.length_cons, Nat.add_mul]; omega
theorem rd_of_brow {E : Env} (hE : ∀ b, ¬ E.own b) {a : Option Addr} {cap : Nat} {bs : List UInt8} (h : BRow w a cap bs) : RD E w (.sl false bs.length 1 (bs.map dB)) (.slice a bs.length cap) := by
 obtain ⟨h1, h2, h3, h4, h5⟩ := h
 refine .sl false bs.length 1 _ a cap (bs.map bv) (by simp) (fun i d u hd hu => ?_) (fun u hu => ?_) (by simp) (Nat.zero_lt_one) ⟨h2, h3⟩ (fun h => ⟨h4 h, rfl⟩) ?_
 ·rw [List.getElem?_map, Option.map_eq_some_iff] at hd hu
  obtain ⟨x, hx, rfl⟩ := hd
  obtain ⟨y, hy, rfl⟩ := hu
  rw [hx] at hy; cases hy
  exact .v _ rfl
 ·simp only [List.mem_map] at hu
  obtain ⟨x, _, rfl⟩ := hu; rfl
 ·rcases h5 with h | ⟨b, off, e, hb, hc⟩
  ·exact .inl h
  ·exact .inr ⟨b, off, e, hb, hE b, hc⟩
theorem list_choose {α β : Type} {R : α → β → Prop} : ∀ (l : List α), (∀ x ∈ l, ∃ y, R x y) → ∃ m : List β, m.length = l.length ∧ ∀ (i : Nat) x y, l[i]? = some x → m[i]? = some y → R x y
 | [], _ => ⟨[], rfl, fun i x y h => by simp at h⟩
 | x :: l, h => by
  obtain ⟨y, hy⟩ := h x List.mem_cons_self
  obtain ⟨m, hl, hm⟩ := list_choose l fun x hx => h x (List.mem_cons_of_mem _ hx)
  refine ⟨y :: m, by simp [hl], fun i a b h1 h2 => ?_⟩
  cases i with
  | zero => simp at h1 h2; subst h1 h2; exact hy
  | succ i => exact hm i a b (by simpa using h1) (by simpa using h2)
theorem bytes_of_els : ∀ (els : List (List D)), (∀ el ∈ els, (Sh.int .u8).has el) → ∃ bs : List UInt8, bs.length = els.length ∧ els.flatten = bs.map dB
 | [], _ => ⟨[], rfl, rfl⟩
 | e :: r, h => by
  obtain ⟨bs, h1, h2⟩ := bytes_of_els r fun el hel => h el (List.mem_cons_of_mem _ hel)
  obtain ⟨n, rfl, hw⟩ := h e List.mem_cons_self
  refine ⟨UInt8.ofNat n.toNat :: bs, by simp [h1], ?_⟩
  rw [List.flatten_cons, h2, List.map_cons]
  show D.v (.int .u8 n) :: bs.map dB = _
  unfold dB
  rw [byte_of n hw]
theorem els_map {α : Type} {f : α → List D} {p : α → Prop} : ∀ (els : List (List D)), (∀ el ∈ els, ∃ x, el = f x ∧ p x) → ∃ xs : List α, els = xs.map f ∧ ∀ x ∈ xs, p x
 | [], _ => ⟨[], rfl, fun x h => by cases h⟩
 | e :: r, h => by
  obtain ⟨xs, h1, h2⟩ := els_map r fun el hel => h el (List.mem_cons_of_mem _ hel)
  obtain ⟨x, rfl, hx⟩ := h e List.mem_cons_self
  exact ⟨x :: xs, by simp [h1], fun y hy => by
   rcases List.mem_cons.1 hy with rfl | hy
   ·exact hx
   ·exact h2 y hy⟩
mutual
theorem Sh.openT : ∀ (sh : Sh) (t : TypeId) (fuel : Nat) (cs : List Value) (x : DataW H × List MemPlace) (E : Env), (∀ b, ¬ E.own b) → sh.ty P t → DataW.trod enc P w 0 (fun _ => true) true fuel t cs = some x → ∃ ds, sh.has ds ∧ ds.length = sh.size ∧ CR E w ds cs
 | .int k, t, fuel, cs, x, E, hE, ht, h => by
  obtain ⟨n, rfl, _, hw⟩ := DataW.trod_int ht h
  exact ⟨_, ⟨n, rfl, hw⟩, rfl, CR.one (.v _ rfl) rfl⟩
 | .bool, t, fuel, cs, x, E, hE, ht, h => by
  obtain ⟨b, rfl, _⟩ := DataW.trod_bool ht h
  exact ⟨_, ⟨b, rfl⟩, rfl, CR.one (.v _ rfl) rfl⟩
 | .str, t, fuel, cs, x, E, hE, ht, h => by
  obtain ⟨s, rfl, _, hm⟩ := DataW.trod_string ht h
  exact ⟨_, ⟨s, rfl, hm⟩, rfl, CR.one (.v _ rfl) rfl⟩
 | .bytes, t, fuel, cs, x, E, hE, ht, h => by
  obtain ⟨te, ht, hc, he⟩ := ht
  rcases DataW.trod_slice ht h with ⟨rfl, _⟩ | ⟨a, len, cap, elems, rest, n, _, rfl, _⟩
  ·obtain ⟨a, cap, bs, hv, hr⟩ := bytes_cell (v := .slice none 0 0) ht he hc h
   exact ⟨[.sl false 0 1 []], ⟨[], rfl, Nat.zero_le _⟩, rfl, CR.one (.sl false 0 1 [] none 0 [] rfl (fun i d u h => by simp at h) (fun u h => by cases h) (by simp) Nat.zero_lt_one ⟨Nat.le_refl _, by decide⟩ (fun _ => ⟨rfl, rfl⟩) (.inl rfl)) rfl⟩
  ·obtain ⟨a, cap, bs, hv, hr⟩ := bytes_cell (v := .slice (some a) len cap) ht he hc h
   cases hv
   have hmx : bs.length ≤ maxLen := by
    obtain ⟨_, h2, h3, _⟩ := hr
    exact Nat.le_trans h2 h3
   exact ⟨[.sl false bs.length 1 (bs.map dB)], ⟨bs, rfl, hmx⟩, rfl, CR.one (rd_of_brow hE hr) rfl⟩
 | .sl e sz, t, fuel, cs, x, E, hE, ht, h => by
  obtain ⟨te, ht, hsz, hpos, hes, hte⟩ := ht
  rcases DataW.trod_slice ht h with ⟨rfl, _⟩ | ⟨a, len, cap, elems, rest, n, _, rfl, _, _, hlc, hm, hlen, hel, _, _⟩
  ·refine ⟨[.sl false 0 sz []], ⟨[], rfl, (fun el h => by cases h), Nat.zero_le _⟩, rfl, CR.one ?_ rfl⟩
   exact .sl false 0 sz [] none 0 [] rfl (fun i d u h => by simp at h) (fun u h => by cases h) (by simp) hpos ⟨Nat.le_refl _, by decide⟩ (fun _ => ⟨rfl, rfl⟩) (.inl rfl)
  ·have hspot0 : len = 0 ∨ a.spot = none := by
    rcases Nat.eq_zero_or_pos len with h0 | h0
    ·exact .inl h0
    ·right
     have h1 := hel 0 h0
     rw [hsz, List.getElem?_eq_getElem (by omega), Option.bind_eq_some_iff] at h1
     obtain ⟨us, hus, _⟩ := h1
     obtain ⟨_, q1, q2⟩ := World.cells?_some hus
     have := q2 0 hpos
     rw [List.getElem?_eq_getElem (by omega)] at this
     simpa [Addr.add] using World.cell?_spot this
   rcases hspot0 with rfl | hspot
   ·have hcap : cap ≤ maxI := hm
    refine ⟨[.sl false 0 sz []], ⟨[], rfl, (fun el h => by cases h), Nat.zero_le _⟩, rfl, CR.one ?_ rfl⟩
    exact .sl false 0 sz [] (some a) cap [] rfl (fun i d u h => by simp at h) (fun u h => by cases h) (by simp) hpos ⟨Nat.zero_le _, hcap⟩ (fun h => by cases h) (.inl rfl)
   obtain ⟨b, off, spot⟩ := a
   have hspot : spot = none := hspot
   subst hspot
   have each : ∀ i, i < len → ∃ us : List Value, us.length = sz ∧ (∀ j, j < sz → w.cell? ⟨b, off + (i * sz + j), none⟩ = us[j]?) ∧ ∃ ds, e.has ds ∧ ds.length = sz ∧ CR E.cl w ds us := fun i hi => by
    have h1 := hel i hi
    have hi' : i < elems.length := by omega
    rw [hsz, List.getElem?_eq_getElem hi', Option.bind_eq_some_iff] at h1
    obtain ⟨us, hus, hr⟩ := h1
    obtain ⟨_, q1, q2⟩ := World.cells?_some hus
    obtain ⟨ds, q3, q4, q5⟩ := Sh.openT e te n us _ E.cl hE hte hr
    refine ⟨us, q1, fun j hj => ?_, ds, q3, q4.trans hes, q5⟩
    rw [← q2 j hj, Addr.add_mid, Addr.add_mid, Nat.add_assoc]
   obtain ⟨usl, hl1, hu⟩ := list_choose (List.range len) (R := fun i us => us.length = sz ∧ (∀ j, j < sz → w.cell? ⟨b, off + (i * sz + j), none⟩ = us[j]?) ∧ ∃ ds, e.has ds ∧ ds.length = sz ∧ CR E.cl w ds us) fun i hi => each i (List.mem_range.1 hi)
   obtain ⟨els, hl2, hd⟩ := list_choose usl (R := fun us ds => e.has ds ∧ ds.length = sz ∧ CR E.cl w ds us) fun us hus => by
    obtain ⟨i, hi⟩ := List.getElem?_of_mem hus
    have hlt : i < len := by have := (List.getElem?_eq_some_iff.1 hi).1; simp at hl1; omega
    exact (hu i i us (by simp [hlt]) hi).2.2
   rw [List.length_range] at hl1
   have hul : ∀ x ∈ usl, x.length = sz := fun us hus => by
    obtain ⟨i, hi⟩ := List.getElem?_of_mem hus
    have hlt : i < len := by have := (List.getElem?_eq_some_iff.1 hi).1; omega
    exact (hu i i us (by simp [hlt]) hi).1
   have hfind : ∀ {i el}, els[i]? = some el → ∃ us, usl[i]? = some us ∧ e.has el ∧ el.length = sz ∧ CR E.cl w el us := fun {i el} hi => by
    have hlt : i < usl.length := by have := (List.getElem?_eq_some_iff.1 hi).1; omega
    exact ⟨usl[i], List.getElem?_eq_getElem hlt, hd i _ el (List.getElem?_eq_getElem hlt) hi⟩
   have hel2 : ∀ x ∈ els, e.has x ∧ x.length = sz := fun el hel => by
    obtain ⟨i, hi⟩ := List.getElem?_of_mem hel
    obtain ⟨us, _, q1, q2, _⟩ := hfind hi
    exact ⟨q1, q2⟩
   have hcr : CR E.cl w els.flatten usl.flatten := CR.flatten hl2 fun i el us h1 h2 => (hd i us el h2 h1).2.2
   refine ⟨_, ⟨els, rfl, fun el hel => (hel2 el hel).1, by omega⟩, rfl, CR.one ?_ rfl⟩
   have hlen' : els.length = len := by omega
   rw [show els.length = len from hlen']
   have hcap : cap ≤ maxI := hm
   refine .sl false len sz els.flatten (some ⟨b, off, none⟩) cap usl.flatten hcr.1 (fun i d u h1 h2 => (hcr.2 i d u h1 h2).1) (fun u hu => ?_) (by rw [flatten_const_length fun x hx => (hel2 x hx).2, hlen']) hpos ⟨hlc, hcap⟩ (fun h => by cases h) ?_
   ·obtain ⟨i, hi⟩ := List.getElem?_of_mem hu
    have hlt : i < els.flatten.length := by have := (List.getElem?_eq_some_iff.1 hi).1; rw [hcr.1] at this; exact this
    exact (hcr.2 i _ u (List.getElem?_eq_getElem hlt) hi).2
   ·rcases Nat.eq_zero_or_pos len with h0 | h0
    ·exact .inl h0
    ·right
     have cellat : ∀ (i : Nat) u, usl.flatten[i]? = some u → w.cell? ⟨b, off + i, none⟩ = some u := fun i u hi => by
      rw [getElem?_flatten_const hpos hul, Option.bind_eq_some_iff] at hi
      obtain ⟨us, h1, h2⟩ := hi
      have hlt : i / sz < len := by have := (List.getElem?_eq_some_iff.1 h1).1; omega
      have := (hu (i / sz) (i / sz) us (by simp [hlt]) h1).2.1 (i % sz) (Nat.mod_lt _ hpos)
      rw [h2] at this
      rw [← this]; congr 2
      have := Nat.div_add_mod i sz
      rw [Nat.mul_comm] at this; omega
     have hlt0 : 0 < usl.flatten.length := by rw [flatten_const_length hul, hl1]; exact Nat.mul_pos h0 hpos
     have hc0 := cellat 0 _ (List.getElem?_eq_getElem hlt0)
     exact ⟨b, off, rfl, block_lt_of_cell hc0, hE b, cellat⟩
 | .arr k n, t, fuel, cs, x, E, hE, ht, h => by
  obtain ⟨te, ht, hc, hn, he⟩ := ht
  obtain ⟨xs, m, _, _, hl, hx, hel⟩ := DataW.trod_array ht h
  obtain ⟨zs, h1, h2⟩ := list_choose (List.range n) (R := fun i z => cs[i]? = some (.int k z) ∧ (Lit.int k z).wf = true) fun i hi => by
   have hi := List.mem_range.1 hi
   have := hel i hi
   rw [hc, Nat.mul_one, List.getElem?_eq_getElem (by omega)] at this
   obtain ⟨z, hz, _, hw⟩ := DataW.trod_int he this
   refine ⟨z, ?_, hw⟩
   have h3 : (List.take 1 (List.drop i cs))[0]? = some (.int k z) := by rw [hz]; rfl
   rw [List.getElem?_take] at h3
   simpa using h3
  rw [List.length_range] at h1
  refine ⟨zs.map fun z => .v (.int k z), ⟨zs, rfl, h1, fun z hz => ?_⟩, by rw [List.length_map, h1]; rfl, by rw [List.length_map]; omega, fun i d u hd hu => ?_⟩
  ·obtain ⟨i, hi⟩ := List.getElem?_of_mem hz
   have hlt : i < n := by have := (List.getElem?_eq_some_iff.1 hi).1; omega
   exact (h2 i i z (by simp [hlt]) hi).2
  ·rw [List.getElem?_map, Option.map_eq_some_iff] at hd
   obtain ⟨z, hz, rfl⟩ := hd
   have hlt : i < n := by have := (List.getElem?_eq_some_iff.1 hz).1; omega
   have := (h2 i i z (by simp [hlt]) hz).1
   rw [hu] at this
   cases this
   exact ⟨.v _ rfl, rfl⟩
 | .st l, t, fuel, cs, x, E, hE, ht, h => by
  obtain ⟨fs, ht, hc, hf⟩ := ht
  obtain ⟨xs, n, _, _, hl, hxl, hfs⟩ := DataW.trod_struct ht h
  obtain ⟨ds, q1, q2, q3⟩ := Sh.openF l 0 fs.toList n cs E hE hf (by omega) fun f hf => by
   obtain ⟨i, hi⟩ := List.getElem?_of_mem hf
   have hi' : fs[i]? = some f := by simpa using hi
   have hlt : i < xs.length := by have := (List.getElem?_eq_some_iff.1 hi).1; simp at this; omega
   exact ⟨_, (hfs i f hi').trans (List.getElem?_eq_getElem hlt)⟩
  exact ⟨ds, q1, q2, by simpa using q3⟩
 | .nil, _, _, _, _, _, _, ht, _ => ht.elim
 | .cons _ _, _, _, _, _, _, _, ht, _ => ht.elim
theorem Sh.openF : ∀ (l : Sh) (off : Nat) (fs : List Field) (n : Nat) (cs : List Value) (E : Env), (∀ b, ¬ E.own b) → l.fty P off fs → cs.length = off + l.size → (∀ f ∈ fs, ∃ x, DataW.trod enc P w 0 (fun _ => true) true n f.type ((cs.drop f.offset).take (P.cellsOf f.type)) = some x) → ∃ ds, l.has ds ∧ ds.length = l.size ∧ CR E w ds (cs.drop off)
 | .nil, off, [], n, cs, E, hE, hf, hl, h => ⟨[], rfl, rfl, by rw [List.drop_eq_nil_of_le (by simp only [Sh.size] at hl; omega)]; exact CR.nil E w⟩
 | .cons a b, off, f :: r, n, cs, E, hE, hf, hl, h => by
  obtain ⟨ho, hc, ha, hb⟩ := hf
  simp only [Sh.size] at hl
  obtain ⟨x, hx⟩ := h f List.mem_cons_self
  rw [ho, hc] at hx
  obtain ⟨d1, p1, p2, p3⟩ := Sh.openT a f.type n _ x E hE ha hx
  obtain ⟨d2, q1, q2, q3⟩ := Sh.openF b (off + a.size) r n cs E hE hb (by omega) fun g hg => h g (List.mem_cons_of_mem _ hg)
  refine ⟨d1 ++ d2, ⟨d1, d2, rfl, p1, q1⟩, by simp only [List.length_append, p2, q2, Sh.size], ?_⟩
  have e : cs.drop off = (cs.drop off).take a.size ++ cs.drop (off + a.size) := by rw [← List.drop_drop]; exact (List.take_append_drop _ _).symm
  rw [e]
  exact p3.append q3
 | .nil, _, _ :: _, _, _, _, _, hf, _, _ => hf.elim
 | .cons _ _, _, [], _, _, _, _, hf, _, _ => hf.elim
 | .int _, _, _, _, _, _, _, hf, _, _ => by cases hf
 | .bool, _, _, _, _, _, _, hf, _, _ => by cases hf
 | .str, _, _, _, _, _, _, hf, _, _ => by cases hf
 | .bytes, _, _, _, _, _, _, hf, _, _ => by cases hf
 | .sl _ _, _, _, _, _, _, _, hf, _, _ => by cases hf
 | .arr _ _, _, _, _, _, _, _, hf, _, _ => by cases hf
 | .st _, _, _, _, _, _, _, hf, _, _ => by cases hf
end
def Sh.simple : Sh → Bool
 | .arr _ _ => false
 | .st _ => false
 | .nil => false
 | .cons _ _ => false
 | _ => true
def Sh.hasV : Sh → D → Prop
 | .st l, d => ∃ ds, d = .agg ds ∧ l.has ds
 | .arr k n, d => ∃ zs : List Int, d = .agg (zs.map (fun z => D.v (.int k z))) ∧ zs.length = n ∧ ∀ z ∈ zs, (Lit.int k z).wf = true
 | .int k, d => ∃ n, d = .v (.int k n) ∧ (Lit.int k n).wf = true
 | .bool, d => ∃ b, d = .v (.bool b)
 | .str, d => ∃ s : ByteArray, d = .v (.string s) ∧ s.size ≤ maxLen
 | .bytes, d => ∃ bs : List UInt8, d = .sl false bs.length 1 (bs.map dB) ∧ bs.length ≤ maxLen
 | .sl e sz, d => ∃ els : List (List D), d = .sl false els.length sz els.flatten ∧ (∀ el ∈ els, e.has el) ∧ els.length ≤ maxLen
 | _, _ => False
theorem Sh.hasV_of {sh : Sh} {d : D} (h : sh.has [d]) (hs : sh.size = 1) (hn : sh.simple = true) : sh.hasV d := by
 cases sh with
 | int k => obtain ⟨n, e, h⟩ := h; exact ⟨n, (List.cons.inj e).1, h⟩
 | bool => obtain ⟨n, e⟩ := h; exact ⟨n, (List.cons.inj e).1⟩
 | str => obtain ⟨n, e, h⟩ := h; exact ⟨n, (List.cons.inj e).1, h⟩
 | bytes => obtain ⟨n, e, h⟩ := h; exact ⟨n, (List.cons.inj e).1, h⟩
 | sl e sz => obtain ⟨n, e, h⟩ := h; exact ⟨n, (List.cons.inj e).1, h⟩
 | _ => cases hn
theorem Sh.openV {sh : Sh} {t : TypeId} {v : Value} {r : Reach} {base : Nat} (ht : sh.ty P t) (o : Value.okWide P w r base t v) (h : Bw.Tr enc P w t v) {E : Env} (hE : ∀ b, ¬ E.own b) : ∃ d, sh.hasV d ∧ RD E w d v := by
 obtain ⟨dd, p, fuel, hf⟩ := h
 have one : ∀ {sh : Sh}, v.cells = #[v] → sh.size = 1 → sh.simple = true → sh.ty P t → ∃ d, sh.hasV d ∧ RD E w d v := fun {sh} hv hs hn ht => by
  obtain ⟨ds, h1, h2, h3⟩ := Sh.openT sh t fuel _ _ E hE ht hf
  rw [hv] at h3
  rw [hs] at h2
  match ds, h2 with
  | [d], _ => exact ⟨d, Sh.hasV_of h1 hs hn, (h3.2 0 d v rfl rfl).1⟩
 cases sh with
 | int k => obtain ⟨n, rfl⟩ := okWide_int ht o; exact one (sh := .int k) rfl rfl rfl ht
 | bool => obtain ⟨b, rfl⟩ := okWide_bool ht o; exact one (sh := .bool) rfl rfl rfl ht
 | str => obtain ⟨b, rfl⟩ := okWide_string ht o; exact one (sh := .str) rfl rfl rfl ht
 | bytes =>
  obtain ⟨te, h1, h2⟩ := ht
  obtain ⟨a, len, cap, rfl⟩ := okWide_slice h1 o
  exact one (sh := .bytes) rfl rfl rfl ⟨te, h1, h2⟩
 | sl e sz =>
  obtain ⟨te, h1, h2⟩ := ht
  obtain ⟨a, len, cap, rfl⟩ := okWide_slice h1 o
  exact one (sh := .sl e sz) rfl rfl rfl ⟨te, h1, h2⟩
 | arr k n =>
  obtain ⟨te, g1, g2, g3, g4⟩ := ht
  obtain ⟨zs, rfl, q1, q2⟩ := open_array g1 g4 g2 g3 o ⟨dd, p, fuel, hf⟩
  refine ⟨.agg (zs.map fun z => .v (.int k z)), ⟨zs, rfl, q1, q2⟩, ?_⟩
  exact RD.agg (E := E) (w := w) _ (zs.map fun z => Value.int k z) (by simp) (fun i d u a b => by
   rw [List.getElem?_map, Option.map_eq_some_iff] at a b
   obtain ⟨z, hz, rfl⟩ := a
   obtain ⟨y, hy, rfl⟩ := b
   rw [hz] at hy; cases hy
   exact .v _ rfl) fun u hu => by
   obtain ⟨z, _, rfl⟩ := List.mem_map.1 hu; rfl
 | st l =>
  obtain ⟨fs, h1, h2⟩ := ht
  obtain ⟨cs, rfl, _⟩ := okWide_struct h1 o
  obtain ⟨ds, q1, q2, q3⟩ := Sh.openT (.st l) t fuel _ _ E hE ⟨fs, h1, h2⟩ hf
  refine ⟨.agg ds, ⟨ds, rfl, q1⟩, ?_⟩
  have := RD.agg (E := E) (w := w) ds cs.toList q3.1 (fun i d u a b => (q3.2 i d u a b).1) fun u hu => by
   obtain ⟨i, hi⟩ := List.getElem?_of_mem hu
   have hlt : i < ds.length := by have := (List.getElem?_eq_some_iff.1 hi).1; have := q3.1; simp [Value.cells] at this; simp at *; omega
   exact (q3.2 i _ u (List.getElem?_eq_getElem hlt) hi).2
  simpa using this
 | nil => exact ht.elim
 | cons a b => exact ht.elim
def E0 : Env := envR (fun _ => False) (fun _ => none) 0
theorem E0_own : ∀ b, ¬ E0.own b := fun b h => by
 rcases h with h | ⟨j, hj, _⟩
 ·exact h
 ·cases hj
theorem rd_nil (w : World) : ∀ (j : Nat) d u, ([] : List D)[j]? = some d → ([] : List Value)[j]? = some u → RD E0 w d u := fun j d u h => by simp at h
theorem rd_cons {d : D} {v : Value} {ds : List D} {vs : List Value} (h : RD E0 w d v) (k : ∀ (j : Nat) d u, ds[j]? = some d → vs[j]? = some u → RD E0 w d u) : ∀ (j : Nat) d' u, (d :: ds)[j]? = some d' → (v :: vs)[j]? = some u → RD E0 w d' u := fun j d' u h1 h2 => by
 cases j with
 | zero => simp at h1 h2; subst h1 h2; exact h
 | succ j => exact k j d' u (by simpa using h1) (by simpa using h2)
theorem SpecH.gives {f : FuncId} {ds : List D} {c : Value} (h : SpecH false P f ds [] (.v c) []) {args : List Value} (hl : args.length = ds.length) (ha : ∀ (j : Nat) d u, ds[j]? = some d → args[j]? = some u → RD E0 w d u) : Calls P f args.toArray w (Gives w c) := by
 refine (h.2 (fun _ => False) (fun _ => none) w args (fun x hx => hx.elim) (fun j b hb => by simp at hb) (fun i j x hi => by cases hi) hl ha).mono ?_
 rintro e w' ⟨u, rfl, hfr, φ, _, hr, _⟩
 cases hr with
 | v c h => exact ⟨rfl, (hfr.mono (M' := fun k => w.heap.size ≤ k) fun x hx => by
   rcases hx with hx | ⟨j, hj, _⟩
   ·exact hx
   ·cases hj).below⟩
theorem sized_len {ts : List TypeId} {ds : List (DataW H)} (h : (DataW.weightsEach P ts ds).all (· ≤ reachBytes) = true) {j : Nat} {t e : TypeId} {d : DataW H} {v : Value} {p : List MemPlace} (ht : ts[j]? = some t) (hd : ds[j]? = some d) (hu : P.underlying t = some (.slice e))
  (hr : DataW.Trod enc P w 0 (fun _ => true) true t v d p) {a : Option Addr} {len cap : Nat} (hv : v = .slice a len cap) : len * P.bytesOf e ≤ reachBytes := by
 subst hv
 obtain ⟨fuel, hf⟩ := hr
 rcases DataW.trod_slice hu hf with ⟨h0, _⟩ | ⟨a', len', cap', elems, rest, n, _, hcs, hx, _, _, _, hlen, _⟩
 ·have h0 : Value.slice a len cap = .slice none 0 0 := (List.cons.inj h0).1
  cases h0
  omega
 ·have hcs : Value.slice a len cap = .slice (some a') len' cap' := (List.cons.inj hcs).1
  cases hcs
  have hd' : d = .slice (elems.map (·.1)) (rest.map (·.1)) := congrArg Prod.fst hx
  subst hd'
  have := sized_slice h ht hd hu
  simp only [List.length_map, hlen] at this
  have h2 : len * P.bytesOf e ≤ (len + rest.length) * P.bytesOf e := Nat.mul_le_mul_right _ (Nat.le_add_right _ _)
  omega
end
end Go.Vx
namespace Go.Proofs.Ytegjeagfcfhbeaa
open Go.RowKit Go.Bw Go.Vx
namespace Vp
theorem zgx0 {p : Prop} (h : p := by (refine decide_eq_true ?_; (omega))) : p := h
theorem zgx1 {p : Prop} (h : p := by (refine decide_eq_false ?_; (omega))) : p := h
theorem nil2t {f : FuncId} {ds : List D} {hin : List Blk} {x y z u v : D} (h : SpecH false Try.prog f ds hin (.tup [.agg ([x, y, z] ++ zeroC ++ zeroC), u, v]) []) : SpecH false Try.prog f ds hin (.tup [.agg ([x, y, z] ++ (c16 (cnt []) ++ [.ref 0 0 0 (symsL []).length 1]) ++ (c16 (cnt []) ++ [.ref 1 1 0 (symsL []).length 1])), u, v]) [⟨(symsL []).map nD, 3, true⟩, ⟨(symsL []).map nD, 3, true⟩] := by
 have h1 := SpecH.nilA h 3 (r' := .tup [.agg ([x, y, z] ++ (c16 (cnt []) ++ [.ref 0 0 0 0 1]) ++ zeroC), u, v]) (simN.tup ⟨simN.agg ((simNL.refl 0 [x, y, z]).app (zeroNL 0) |>.app (simNL.refl 0 _)), simN.refl 0 _, simN.refl 0 _, trivial⟩)
 exact SpecH.nilA h1 3 (r' := .tup [.agg ([x, y, z] ++ (c16 (cnt []) ++ [.ref 0 0 0 0 1]) ++ (c16 (cnt []) ++ [.ref 1 1 0 0 1])), u, v]) (show simN 1 _ _ from simN.tup ⟨simN.agg ((simNL.refl 1 ([x, y, z] ++ (c16 (cnt []) ++ [.ref 0 0 0 0 1]))).app (zeroNL 1)), simN.refl 1 _, simN.refl 1 _, trivial⟩)
structure HU (b : List UInt8) (n : Nat) (x : Int) (hk hl : Nat) (ha : Bool) (l1 l2 : List UInt8) (hp he : Nat) : Prop where
 p : SpecH false Try.prog 10 [.sl false n 1 (b.map dB), iD x] [] (.tup [.agg ([u8D hk, bD ha, nD hl] ++ (c16 (cnt l1) ++ [.ref 0 0 0 (symsL l1).length 1]) ++ (c16 (cnt l2) ++ [.ref 1 1 0 (symsL l2).length 1])), nD hp, nD he]) [⟨(symsL l1).map nD, 3, true⟩, ⟨(symsL l2).map nD, 3, true⟩]
 r : SpecH false Try.prog 11 [.sl false n 1 (b.map dB), iD x] [] (.tup [.agg ([u8D hk, bD ha, nD hl] ++ (c16 (cnt l1) ++ [.ref 0 0 0 (symsL l1).length 1]) ++ (c16 (cnt l2) ++ [.ref 1 1 0 (symsL l2).length 1])), nD hp, nD he]) [⟨(symsL l1).map nD, 3, true⟩, ⟨(symsL l2).map nD, 3, true⟩]
 s1 : (symsL l1).length ≤ 400
 s2 : (symsL l2).length ≤ 400
theorem hu_ex (b : List UInt8) (n : Nat) (hn : n = b.length) (hN : n ≤ 131072) (x : Int) : ∃ hk hl ha l1 l2 hp he, HU b n x hk hl ha l1 l2 hp he := by
 by_cases hx : x < 0 ∨ 8 * (n : Int) < x
 ·exact ⟨0, 0, false, [], [], 0, 2, nil2t (Hd_a b n hn hN x hx), nil2t (rHd_a b n hn hN x hx), by decide, by decide⟩
 ·obtain ⟨p, rfl⟩ := Int.eq_ofNat_of_zero_le (show 0 ≤ x by omega)
  have hp : p ≤ 8 * n := by omega
  have hF := hdF hn hp
  by_cases he : (hdR b (rs0 p)).s.e ≠ 0
  ·exact ⟨0, 0, false, [], [], 0, (hdR b (rs0 p)).s.e, nil2t (Hd_e b n hn hN p hp _ rfl he), nil2t (rHd_e b n hn hN p hp _ rfl he), by decide, by decide⟩
  ·have he : (hdR b (rs0 p)).s.e = 0 := by omega
   have hkd := hF.kd he
   have g1 := symsL_le (hdR b (rs0 p)).l1
   have g2 := symsL_le (hdR b (rs0 p)).l2
   have t1 := (canE_0 hF.t1).1
   have t2 := (canE_0 hF.t2).1
   have hP := Hd_o b n hn hN p hp _ rfl he
   refine ⟨(hdR b (rs0 p)).kd, (hdR b (rs0 p)).le, (hdR b (rs0 p)).la, (hdR b (rs0 p)).l1, (hdR b (rs0 p)).l2, (hdR b (rs0 p)).s.p, 0, hP, ?_, by omega, by omega⟩
   by_cases k0 : (hdR b (rs0 p)).kd = 0
   ·have q := hF.k0 k0 he
    have h := nil2t (rHd_s b n hn hN p hp _ rfl he k0)
    rw [k0, q.1, q.2.1]; exact h
   ·by_cases k1 : (hdR b (rs0 p)).kd = 1
    ·have q := hF.k1 k1 he
     have h := rHd_f b n hn hN p hp _ rfl he k1 q.1 q.2.1 _ _ rfl rfl
     rw [k1, q.2.2]; exact h
    ·have k2 : (hdR b (rs0 p)).kd = 2 := by omega
     have q := hF.k2 k2 he
     have h := rHd_d b n hn hN p hp _ rfl he k2 _ _ rfl rfl _ rfl q.2.2.1 hF.g (hdR b (rs0 p)).l1 (hdR b (rs0 p)).l2 q.1.symm (by rw [q.2.1, List.take_of_length_le (by rw [List.length_drop]; omega)])
     rw [k2, q.2.2.2]; exact h
theorem hu_p {b : List UInt8} {n : Nat} {x : Int} {hk hl : Nat} {ha : Bool} {l1 l2 : List UInt8} {hp he : Nat} (h : HU b n x hk hl ha l1 l2 hp he) : SpecH false Try.prog 10 [.sl false n 1 (b.map dB), iD x] [] (.tup [.agg ([u8D hk, bD ha, nD hl] ++ (c16 (cnt l1) ++ [.ref 0 0 0 (symsL l1).length 1]) ++ (c16 (cnt l2) ++ [.ref 1 1 0 (symsL l2).length 1])), nD hp, nD he]) [⟨(symsL l1).map nD, 3, true⟩, ⟨(symsL l2).map nD, 3, true⟩] := h.p
theorem hu_r {b : List UInt8} {n : Nat} {x : Int} {hk hl : Nat} {ha : Bool} {l1 l2 : List UInt8} {hp he : Nat} (h : HU b n x hk hl ha l1 l2 hp he) : SpecH false Try.prog 11 [.sl false n 1 (b.map dB), iD x] [] (.tup [.agg ([u8D hk, bD ha, nD hl] ++ (c16 (cnt l1) ++ [.ref 0 0 0 (symsL l1).length 1]) ++ (c16 (cnt l2) ++ [.ref 1 1 0 (symsL l2).length 1])), nD hp, nD he]) [⟨(symsL l1).map nD, 3, true⟩, ⟨(symsL l2).map nD, 3, true⟩] := h.r
structure SU (b : List UInt8) (n : Nat) (x : Int) (kd : Nat) (la : Bool) (le : Int) (f1 f2 : Nat → Int) (q1 q2 : Nat) (ys1 ys2 : List Int) (X : Nat × Nat × Nat × Bool × Nat × Nat) (e : Nat) : Prop where
 p : SpecH false Try.prog 12 [.agg ([u8D kd, bD la, iD le] ++ trC f1 q1 ys1 ++ trC f2 q2 ys2), .sl false n 1 (b.map dB), iD x] [] (nxtD X) []
 r : SpecH false Try.prog 13 [.agg ([u8D kd, bD la, iD le] ++ trC f1 q1 ys1 ++ trC f2 q2 ys2), .sl false n 1 (b.map dB), iD x] [] (nxtD X) []
 cp : SpecH false Try.prog 15 [.agg ([u8D kd, bD la, iD le] ++ trC f1 q1 ys1 ++ trC f2 q2 ys2)] [] (nD e) []
 cr : SpecH false Try.prog 16 [.agg ([u8D kd, bD la, iD le] ++ trC f1 q1 ys1 ++ trC f2 q2 ys2)] [] (nD e) []
theorem su_p {b : List UInt8} {n : Nat} {x : Int} {kd : Nat} {la : Bool} {le : Int} {f1 f2 : Nat → Int} {q1 q2 : Nat} {ys1 ys2 : List Int} {X : Nat × Nat × Nat × Bool × Nat × Nat} {e : Nat} (h : SU b n x kd la le f1 f2 q1 q2 ys1 ys2 X e) : SpecH false Try.prog 12 [.agg ([u8D kd, bD la, iD le] ++ trC f1 q1 ys1 ++ trC f2 q2 ys2), .sl false n 1 (b.map dB), iD x] [] (nxtD X) [] := h.p
theorem su_r {b : List UInt8} {n : Nat} {x : Int} {kd : Nat} {la : Bool} {le : Int} {f1 f2 : Nat → Int} {q1 q2 : Nat} {ys1 ys2 : List Int} {X : Nat × Nat × Nat × Bool × Nat × Nat} {e : Nat} (h : SU b n x kd la le f1 f2 q1 q2 ys1 ys2 X e) : SpecH false Try.prog 13 [.agg ([u8D kd, bD la, iD le] ++ trC f1 q1 ys1 ++ trC f2 q2 ys2), .sl false n 1 (b.map dB), iD x] [] (nxtD X) [] := h.r
theorem su_cp {b : List UInt8} {n : Nat} {x : Int} {kd : Nat} {la : Bool} {le : Int} {f1 f2 : Nat → Int} {q1 q2 : Nat} {ys1 ys2 : List Int} {X : Nat × Nat × Nat × Bool × Nat × Nat} {e : Nat} (h : SU b n x kd la le f1 f2 q1 q2 ys1 ys2 X e) : SpecH false Try.prog 15 [.agg ([u8D kd, bD la, iD le] ++ trC f1 q1 ys1 ++ trC f2 q2 ys2)] [] (nD e) [] := h.cp
theorem su_cr {b : List UInt8} {n : Nat} {x : Int} {kd : Nat} {la : Bool} {le : Int} {f1 f2 : Nat → Int} {q1 q2 : Nat} {ys1 ys2 : List Int} {X : Nat × Nat × Nat × Bool × Nat × Nat} {e : Nat} (h : SU b n x kd la le f1 f2 q1 q2 ys1 ys2 X e) : SpecH false Try.prog 16 [.agg ([u8D kd, bD la, iD le] ++ trC f1 q1 ys1 ++ trC f2 q2 ys2)] [] (nD e) [] := h.cr
theorem su_ex (b : List UInt8) (n : Nat) (hn : n = b.length) (hN : n ≤ 131072) (x : Int) (kd : Nat) (hkd : kd < 256) (la : Bool) (le : Int) (f1 f2 : Nat → Int) (ys1 ys2 : List Int) (q1 q2 : Nat) (hq1 : q1 = ys1.length) (hq2 : q2 = ys2.length) (hQ1 : q1 ≤ 100000) (hQ2 : q2 ≤ 100000) : ∃ X e, SU b n x kd la le f1 f2 q1 q2 ys1 ys2 X e := by
 obtain ⟨z1, hz1⟩ := zrB_ex f1 q1
 obtain ⟨z2, hz2⟩ := zrB_ex f2 q2
 obtain ⟨e1, he1⟩ := trE_ex f1 ys1
 obtain ⟨e2, he2⟩ := trE_ex f2 ys2
 obtain ⟨e, hE⟩ := pkE_ex kd le z1 z2 e1 e2
 have c1 := pchk kd hkd la le f1 f2 ys1 ys2 q1 q2 hq1 hq2 hQ1 hQ2 z1 z2 hz1 hz2 e1 e2 he1 he2 e hE
 have c2 := rpchk kd hkd la le f1 f2 ys1 ys2 q1 q2 hq1 hq2 hQ1 hQ2 z1 z2 hz1 hz2 e1 e2 he1 he2 e hE
 by_cases hx : x < 0 ∨ 8 * (n : Int) < x
 ·exact ⟨_, e, St_a b n hn hN kd hkd la le f1 f2 ys1 ys2 q1 q2 hq1 hq2 hQ1 hQ2 x hx, rSt_a b n hn hN kd hkd la le f1 f2 ys1 ys2 q1 q2 hq1 hq2 hQ1 hQ2 x hx, c1, c2⟩
 ·by_cases h8 : e = 8
  ·exact ⟨_, e, St_c b n hn hN kd hkd la le f1 f2 ys1 ys2 q1 q2 hq1 hq2 hQ1 hQ2 z1 z2 hz1 hz2 e1 e2 he1 he2 e hE x (by omega) h8, rSt_c b n hn hN kd hkd la le f1 f2 ys1 ys2 q1 q2 hq1 hq2 hQ1 hQ2 z1 z2 hz1 hz2 e1 e2 he1 he2 e hE x (by omega) h8, c1, c2⟩
  ·obtain ⟨p, rfl⟩ := Int.eq_ofNat_of_zero_le (show 0 ≤ x by omega)
   have hp : p ≤ 8 * n := by omega
   have key : ∃ (l : Nat) (l1 l2 : List UInt8), le = l ∧ KdV kd l l1 l2 ∧ trC f1 q1 ys1 = treeC q1 l1 ∧ trC f2 q2 ys2 = treeC q2 l2 ∧ q1 = (symsL l1).length ∧ q2 = (symsL l2).length := by
    by_cases a : kd = 0 ∧ 0 ≤ le ∧ le ≤ 65535 ∧ z1 = true ∧ z2 = true
    ·obtain ⟨l, rfl⟩ := Int.eq_ofNat_of_zero_le a.2.1
     have t1 := hz1.t a.2.2.2.1
     have t2 := hz2.t a.2.2.2.2
     refine ⟨l, [], [], rfl, ⟨fun _ => ⟨by omega, rfl, rfl⟩, fun q => absurd a.1 q, by decide, by decide⟩, trC_eq q1 (fun i hi => by rw [t1.1 i hi, cnt_nil]; rfl) ?_, trC_eq q2 (fun i hi => by rw [t2.1 i hi, cnt_nil]; rfl) ?_, t1.2, t2.2⟩
     ·rw [List.eq_nil_of_length_eq_zero (hq1.symm.trans t1.2)]; rfl
     ·rw [List.eq_nil_of_length_eq_zero (hq2.symm.trans t2.2)]; rfl
    ·by_cases a2 : 1 ≤ kd ∧ kd ≤ 2 ∧ le = 0 ∧ e1 = 0 ∧ e2 = 0
     ·obtain ⟨l1, t1⟩ := he1.a a2.2.2.2.1
      obtain ⟨l2, t2⟩ := he2.a a2.2.2.2.2
      exact ⟨0, l1, l2, a2.2.2.1, ⟨fun q => by omega, fun _ => ⟨a2.2.1, rfl, t1.ln, t2.ln⟩, t1.ca, t2.ca⟩, trC_eq q1 t1.ct t1.sy, trC_eq q2 t2.ct t2.sy, by rw [hq1, t1.sy, List.length_map], by rw [hq2, t2.sy, List.length_map]⟩
     ·exact absurd (hE.c (fun a1 b1 c1 d1 e1 => a ⟨a1, b1, c1, d1, e1⟩) (fun a1 b1 c1 d1 e1 => a2 ⟨a1, b1, c1, d1, e1⟩)) h8
   obtain ⟨l, l1, l2, rfl, hK, k1, k2, k3, k4⟩ := key
   refine ⟨nxtR (stR b kd l l1 l2 (rs0 p)), e, ?_, ?_, c1, c2⟩
   ·rw [k1, k2]; exact St_v b n hn hN p hp kd l la l1 l2 hK q1 q2 k3 k4 _ rfl
   ·rw [k1, k2]
    by_cases h0 : kd = 0
    ·have a := hK.a h0
     exact rSt_0 b n hn hN p hp kd l la l1 l2 hK q1 q2 k3 k4 _ rfl h0 a.1 (by rw [h0, a.2.1, a.2.2])
    ·have a := hK.b h0
     exact rSt_1 b n hn hN p hp kd l la l1 l2 hK q1 q2 k3 k4 _ rfl (by omega) a.2.2.1 a.2.2.2 hK.t1 hK.t2
theorem rds_0 (b : List UInt8) (n : Nat) (hn : n = b.length) (x : Int) (kd : Nat) (hkd : kd < 256) (la : Bool) (le : Int) (f1 f2 : Nat → Int) (ys1 ys2 : List Int) (q1 q2 : Nat) (hq1 : q1 = ys1.length) (hq2 : q2 = ys2.length) (h : 400 < n ∨ 1000 < q1 ∨ 1000 < q2) : SpecH false Try.prog 3 [.sl false n 1 (b.map dB), iD x, .agg ([u8D kd, bD la, iD le] ++ trC f1 q1 ys1 ++ trC f2 q2 ys2)] [] (.v (.bool true)) [] := by
 refine SpecH.run T_ok mixed Try.func3 rfl rfl rfl trivial rfl 1000 64 (fun R ok => (.s 14 (.br (decide (400 < (↑n : Int))) (fun p0 => have p0f := odt p0; (.s 23 (.out [] [] (D.v (.bool true)) [] R (ok _ _ wr wr)))) (fun p0 => have p0f := odf p0; (.s 18 (.br (decide (1000 < (↑q1 : Int))) (fun p1 => have p1f := odt p1; (.s 11 (.out [] [] (D.v (.bool true)) [] R (ok _ _ wr wr)))) (fun p1 => have p1f := odf p1; (.s 16 (.t (decide (1000 < (↑q2 : Int))) zgx0 (.s 1 (.out [] [] (D.v (.bool true)) [] R (ok _ _ wr wr)))))))))))) (by kernel_rfl)
theorem rds_1 (b : List UInt8) (n : Nat) (hn : n = b.length) (x : Int) (kd : Nat) (hkd : kd < 256) (la : Bool) (le : Int) (f1 f2 : Nat → Int) (ys1 ys2 : List Int) (q1 q2 : Nat) (hq1 : q1 = ys1.length) (hq2 : q2 = ys2.length) (hN : n ≤ 400) (hQ1 : q1 ≤ 1000) (hQ2 : q2 ≤ 1000) (hk hl : Nat) (ha : Bool) (l1 l2 : List UInt8) (hp he : Nat) (hU : HU b n x hk hl ha l1 l2 hp he) (s1 : (symsL l1).length ≤ 400) (s2 : (symsL l2).length ≤ 400) (X : Nat × Nat × Nat × Bool × Nat × Nat) (e : Nat) (sU : SU b n x kd la le f1 f2 q1 q2 ys1 ys2 X e) : SpecH false Try.prog 3 [.sl false n 1 (b.map dB), iD x, .agg ([u8D kd, bD la, iD le] ++ trC f1 q1 ys1 ++ trC f2 q2 ys2)] [] (.v (.bool true)) [] := by
 refine SpecH.run T_ok mixed Try.func3 rfl rfl rfl trivial rfl 1000 64 (fun R ok => (.s 14 (.f (decide (400 < (↑n : Int))) zgx1 (.s 18 (.f (decide (1000 < (↑q1 : Int))) zgx1 (.s 16 (.f (decide (1000 < (↑q2 : Int))) zgx1 (.s 2 (.chk (true && Nat.ble ((0 + n) * 1) 140737488355328) (by (refine Nat.ble_eq_true_of_le ?_; (omega))) (.s 4 (.call 10 false [] (true && (true && Nat.ble (0 + n * 1) (List.length (List.map dB b)) && true && closedL (bif true && Nat.beq (n * 1) (List.length (List.map dB b)) then List.map dB b else List.take (n * 1) (List.drop 0 (List.map dB b)))) && true) (by (simp <;> (omega))) ([D.sl (Nat.ble 1 n) n 1 (bif true && Nat.beq (n * 1) (List.length (List.map dB b)) then List.map dB b else List.take (n * 1) (List.drop 0 (List.map dB b))), iD x]) _ (by exact (And.intro (D.sim.slw rfl (cond_t (by (simp <;> (omega))) |>.trans rfl)) (And.intro (D.sim.refl _) trivial))) (true) wr _ _ _ (CallOk.fn (FnOk.of Try.func10 rfl rfl) (@hu_p (b) (n) (x) (hk) (hl) (ha) (l1) (l2) (hp) (he) asm)) (.s 17 (.cl 11 false [] (.fn q11 (@hu_r (b) (n) (x) (hk) (hl) (ha) (l1) (l2) (hp) (he) asm)) (.s 21 (.call 12 false [] (true && (true && (true && Nat.ble (0 + n * 1) (List.length (List.map dB b)) && true && closedL (bif true && Nat.beq (n * 1) (List.length (List.map dB b)) then List.map dB b else List.take (n * 1) (List.drop 0 (List.map dB b)))) && true)) (by (simp <;> (omega))) ([D.agg [D.v (Value.int .u8 (↑kd : Int)), D.v (.bool la), iD le, iD (f1 0), iD (f1 1), iD (f1 2), iD (f1 3), iD (f1 4), iD (f1 5), iD (f1 6), iD (f1 7), iD (f1 8), iD (f1 9), iD (f1 10), iD (f1 11), iD (f1 12), iD (f1 13), iD (f1 14), iD (f1 15), D.sl false q1 1 (List.map iD ys1), iD (f2 0), iD (f2 1), iD (f2 2), iD (f2 3), iD (f2 4), iD (f2 5), iD (f2 6), iD (f2 7), iD (f2 8), iD (f2 9), iD (f2 10), iD (f2 11), iD (f2 12), iD (f2 13), iD (f2 14), iD (f2 15), D.sl false q2 1 (List.map iD ys2)], D.sl (Nat.ble 1 n) n 1 (bif true && Nat.beq (n * 1) (List.length (List.map dB b)) then List.map dB b else List.take (n * 1) (List.drop 0 (List.map dB b))), iD x]) _ (by exact (And.intro (D.sim.refl _) (And.intro (D.sim.slw rfl (cond_t (by (simp <;> (omega))) |>.trans rfl)) (And.intro (D.sim.refl _) trivial)))) (true) wr _ _ _ (CallOk.fn (FnOk.of Try.func12 rfl rfl) (@su_p (b) (n) (x) (kd) (la) (le) (f1) (f2) (q1) (q2) (ys1) (ys2) (X) (e) asm)) (.s 24 (.call 13 false [] (true) wr ([D.agg [D.v (Value.int .u8 (↑kd : Int)), D.v (.bool la), iD le, iD (f1 0), iD (f1 1), iD (f1 2), iD (f1 3), iD (f1 4), iD (f1 5), iD (f1 6), iD (f1 7), iD (f1 8), iD (f1 9), iD (f1 10), iD (f1 11), iD (f1 12), iD (f1 13), iD (f1 14), iD (f1 15), D.sl false q1 1 (List.map iD ys1), iD (f2 0), iD (f2 1), iD (f2 2), iD (f2 3), iD (f2 4), iD (f2 5), iD (f2 6), iD (f2 7), iD (f2 8), iD (f2 9), iD (f2 10), iD (f2 11), iD (f2 12), iD (f2 13), iD (f2 14), iD (f2 15), D.sl false q2 1 (List.map iD ys2)], D.sl false n 1 (List.map dB b), iD x]) _ (by exact (And.intro (D.sim.refl _) (And.intro (D.sim.refl _) (And.intro (D.sim.refl _) trivial)))) (true) wr _ _ _ (CallOk.fn (FnOk.of Try.func13 rfl rfl) (@su_r (b) (n) (x) (kd) (la) (le) (f1) (f2) (q1) (q2) (ys1) (ys2) (X) (e) asm)) (.s 26 (.call 14 false [] (true && (true && (true && (true && (true && (true && (true && (true && (true && (true && (true && (true && (true && (true && (true && (true && (true && (true && (true && (true && (true && Nat.ble (0 + List.length (symsL l1) * 1) (List.length (List.map nD (symsL l1))) && true && closedL (bif true && Nat.beq (List.length (symsL l1) * 1) (List.length (List.map nD (symsL l1))) then List.map nD (symsL l1) else List.take (List.length (symsL l1) * 1) (List.drop 0 (List.map nD (symsL l1))))) && (true && (true && (true && (true && (true && (true && (true && (true && (true && (true && (true && (true && (true && (true && (true && (true && (true && (true && Nat.ble (0 + List.length (symsL l2) * 1) (List.length (List.map nD (symsL l2))) && true && closedL (bif true && Nat.beq (List.length (symsL l2) * 1) (List.length (List.map nD (symsL l2))) then List.map nD (symsL l2) else List.take (List.length (symsL l2) * 1) (List.drop 0 (List.map nD (symsL l2))))) && true)))))))))))))))))))))))))))))))))))) && (true && (true && (true && (true && (true && (true && (true && (true && (true && (true && (true && (true && (true && (true && (true && (true && (true && (true && (true && (true && (true && Nat.ble (0 + List.length (symsL l1) * 1) (List.length (List.map nD (symsL l1))) && true && closedL (bif true && Nat.beq (List.length (symsL l1) * 1) (List.length (List.map nD (symsL l1))) then List.map nD (symsL l1) else List.take (List.length (symsL l1) * 1) (List.drop 0 (List.map nD (symsL l1))))) && (true && (true && (true && (true && (true && (true && (true && (true && (true && (true && (true && (true && (true && (true && (true && (true && (true && (true && Nat.ble (0 + List.length (symsL l2) * 1) (List.length (List.map nD (symsL l2))) && true && closedL (bif true && Nat.beq (List.length (symsL l2) * 1) (List.length (List.map nD (symsL l2))) then List.map nD (symsL l2) else List.take (List.length (symsL l2) * 1) (List.drop 0 (List.map nD (symsL l2))))) && true)))))))))))))))))))))))))))))))))))) && true)) (by (simp; done)) ([D.agg [D.v (Value.int .u8 (↑hk : Int)), D.v (.bool ha), nD hl, nD (cnt l1 0), nD (cnt l1 1), nD (cnt l1 2), nD (cnt l1 3), nD (cnt l1 4), nD (cnt l1 5), nD (cnt l1 6), nD (cnt l1 7), nD (cnt l1 8), nD (cnt l1 9), nD (cnt l1 10), nD (cnt l1 11), nD (cnt l1 12), nD (cnt l1 13), nD (cnt l1 14), nD (cnt l1 15), D.sl (Nat.ble 1 (List.length (symsL l1))) (List.length (symsL l1)) 1 (bif true && Nat.beq (List.length (symsL l1) * 1) (List.length (List.map nD (symsL l1))) then List.map nD (symsL l1) else List.take (List.length (symsL l1) * 1) (List.drop 0 (List.map nD (symsL l1)))), nD (cnt l2 0), nD (cnt l2 1), nD (cnt l2 2), nD (cnt l2 3), nD (cnt l2 4), nD (cnt l2 5), nD (cnt l2 6), nD (cnt l2 7), nD (cnt l2 8), nD (cnt l2 9), nD (cnt l2 10), nD (cnt l2 11), nD (cnt l2 12), nD (cnt l2 13), nD (cnt l2 14), nD (cnt l2 15), D.sl (Nat.ble 1 (List.length (symsL l2))) (List.length (symsL l2)) 1 (bif true && Nat.beq (List.length (symsL l2) * 1) (List.length (List.map nD (symsL l2))) then List.map nD (symsL l2) else List.take (List.length (symsL l2) * 1) (List.drop 0 (List.map nD (symsL l2))))], D.agg [D.v (Value.int .u8 (↑hk : Int)), D.v (.bool ha), nD hl, nD (cnt l1 0), nD (cnt l1 1), nD (cnt l1 2), nD (cnt l1 3), nD (cnt l1 4), nD (cnt l1 5), nD (cnt l1 6), nD (cnt l1 7), nD (cnt l1 8), nD (cnt l1 9), nD (cnt l1 10), nD (cnt l1 11), nD (cnt l1 12), nD (cnt l1 13), nD (cnt l1 14), nD (cnt l1 15), D.sl (Nat.ble 1 (List.length (symsL l1))) (List.length (symsL l1)) 1 (bif true && Nat.beq (List.length (symsL l1) * 1) (List.length (List.map nD (symsL l1))) then List.map nD (symsL l1) else List.take (List.length (symsL l1) * 1) (List.drop 0 (List.map nD (symsL l1)))), nD (cnt l2 0), nD (cnt l2 1), nD (cnt l2 2), nD (cnt l2 3), nD (cnt l2 4), nD (cnt l2 5), nD (cnt l2 6), nD (cnt l2 7), nD (cnt l2 8), nD (cnt l2 9), nD (cnt l2 10), nD (cnt l2 11), nD (cnt l2 12), nD (cnt l2 13), nD (cnt l2 14), nD (cnt l2 15), D.sl (Nat.ble 1 (List.length (symsL l2))) (List.length (symsL l2)) 1 (bif true && Nat.beq (List.length (symsL l2) * 1) (List.length (List.map nD (symsL l2))) then List.map nD (symsL l2) else List.take (List.length (symsL l2) * 1) (List.drop 0 (List.map nD (symsL l2))))]]) _ (by exact (And.intro (D.sim.agg (And.intro (D.sim.refl _) (And.intro (D.sim.refl _) (And.intro (D.sim.refl _) (And.intro (D.sim.refl _) (And.intro (D.sim.refl _) (And.intro (D.sim.refl _) (And.intro (D.sim.refl _) (And.intro (D.sim.refl _) (And.intro (D.sim.refl _) (And.intro (D.sim.refl _) (And.intro (D.sim.refl _) (And.intro (D.sim.refl _) (And.intro (D.sim.refl _) (And.intro (D.sim.refl _) (And.intro (D.sim.refl _) (And.intro (D.sim.refl _) (And.intro (D.sim.refl _) (And.intro (D.sim.refl _) (And.intro (D.sim.refl _) (And.intro (D.sim.slw rfl (cond_t (by (simp; done)) |>.trans rfl)) (And.intro (D.sim.refl _) (And.intro (D.sim.refl _) (And.intro (D.sim.refl _) (And.intro (D.sim.refl _) (And.intro (D.sim.refl _) (And.intro (D.sim.refl _) (And.intro (D.sim.refl _) (And.intro (D.sim.refl _) (And.intro (D.sim.refl _) (And.intro (D.sim.refl _) (And.intro (D.sim.refl _) (And.intro (D.sim.refl _) (And.intro (D.sim.refl _) (And.intro (D.sim.refl _) (And.intro (D.sim.refl _) (And.intro (D.sim.refl _) (And.intro (D.sim.slw rfl (cond_t (by (simp; done)) |>.trans rfl)) trivial)))))))))))))))))))))))))))))))))))))) (And.intro (D.sim.agg (And.intro (D.sim.refl _) (And.intro (D.sim.refl _) (And.intro (D.sim.refl _) (And.intro (D.sim.refl _) (And.intro (D.sim.refl _) (And.intro (D.sim.refl _) (And.intro (D.sim.refl _) (And.intro (D.sim.refl _) (And.intro (D.sim.refl _) (And.intro (D.sim.refl _) (And.intro (D.sim.refl _) (And.intro (D.sim.refl _) (And.intro (D.sim.refl _) (And.intro (D.sim.refl _) (And.intro (D.sim.refl _) (And.intro (D.sim.refl _) (And.intro (D.sim.refl _) (And.intro (D.sim.refl _) (And.intro (D.sim.refl _) (And.intro (D.sim.slw rfl (cond_t (by (simp; done)) |>.trans rfl)) (And.intro (D.sim.refl _) (And.intro (D.sim.refl _) (And.intro (D.sim.refl _) (And.intro (D.sim.refl _) (And.intro (D.sim.refl _) (And.intro (D.sim.refl _) (And.intro (D.sim.refl _) (And.intro (D.sim.refl _) (And.intro (D.sim.refl _) (And.intro (D.sim.refl _) (And.intro (D.sim.refl _) (And.intro (D.sim.refl _) (And.intro (D.sim.refl _) (And.intro (D.sim.refl _) (And.intro (D.sim.refl _) (And.intro (D.sim.refl _) (And.intro (D.sim.slw rfl (cond_t (by (simp; done)) |>.trans rfl)) trivial)))))))))))))))))))))))))))))))))))))) trivial))) (true) wr _ _ _ (CallOk.fn (FnOk.of Try.func14 rfl rfl) (@rSameB (hk) (hl) (ha) (l1) (l2) (List.length (symsL l1)) (List.length (symsL l2)) (List.length (symsL l1)) (List.length (symsL l2)) om om om om om om)) (.s 11 (.t ((↑hp : Int) == (↑hp : Int)) zgx0 (.s 8 (.t ((↑he : Int) == (↑he : Int)) zgx0 (.s 14 (.t ((↑(Prod.fst X) : Int) == (↑(Prod.fst X) : Int) && ((↑(Prod.fst (Prod.snd X)) : Int) == (↑(Prod.fst (Prod.snd X)) : Int) && ((↑(Prod.fst (Prod.snd (Prod.snd X))) : Int) == (↑(Prod.fst (Prod.snd (Prod.snd X))) : Int) && true))) (by ((refine and_tI ?_ ?_) <;> (repeat' (first | (refine and_tI ?_ ?_) | (with_reducible rfl) | (refine decide_eq_true ?_) | (refine Nat.ble_eq_true_of_le ?_) | (refine nbeq ?_))) <;> (omega))) (.s 8 (.t (Prod.fst (Prod.snd (Prod.snd (Prod.snd X))) == Prod.fst (Prod.snd (Prod.snd (Prod.snd X)))) (by (simp; done)) (.s 8 (.t ((↑(Prod.fst (Prod.snd (Prod.snd (Prod.snd (Prod.snd X))))) : Int) == (↑(Prod.fst (Prod.snd (Prod.snd (Prod.snd (Prod.snd X))))) : Int)) zgx0 (.s 11 (.t ((↑(Prod.snd (Prod.snd (Prod.snd (Prod.snd (Prod.snd X))))) : Int) == (↑(Prod.snd (Prod.snd (Prod.snd (Prod.snd (Prod.snd X))))) : Int)) zgx0 (.s 5 (.call 15 false [] (true) wr ([D.agg [D.v (Value.int .u8 (↑kd : Int)), D.v (.bool la), iD le, iD (f1 0), iD (f1 1), iD (f1 2), iD (f1 3), iD (f1 4), iD (f1 5), iD (f1 6), iD (f1 7), iD (f1 8), iD (f1 9), iD (f1 10), iD (f1 11), iD (f1 12), iD (f1 13), iD (f1 14), iD (f1 15), D.sl false q1 1 (List.map iD ys1), iD (f2 0), iD (f2 1), iD (f2 2), iD (f2 3), iD (f2 4), iD (f2 5), iD (f2 6), iD (f2 7), iD (f2 8), iD (f2 9), iD (f2 10), iD (f2 11), iD (f2 12), iD (f2 13), iD (f2 14), iD (f2 15), D.sl false q2 1 (List.map iD ys2)]]) _ (by exact (And.intro (D.sim.refl _) trivial)) (true) wr _ _ _ (CallOk.fn (FnOk.of Try.func15 rfl rfl) (@su_cp (b) (n) (x) (kd) (la) (le) (f1) (f2) (q1) (q2) (ys1) (ys2) (X) (e) asm)) (.s 7 (.call 16 false [] (true) wr ([D.agg [D.v (Value.int .u8 (↑kd : Int)), D.v (.bool la), iD le, iD (f1 0), iD (f1 1), iD (f1 2), iD (f1 3), iD (f1 4), iD (f1 5), iD (f1 6), iD (f1 7), iD (f1 8), iD (f1 9), iD (f1 10), iD (f1 11), iD (f1 12), iD (f1 13), iD (f1 14), iD (f1 15), D.sl false q1 1 (List.map iD ys1), iD (f2 0), iD (f2 1), iD (f2 2), iD (f2 3), iD (f2 4), iD (f2 5), iD (f2 6), iD (f2 7), iD (f2 8), iD (f2 9), iD (f2 10), iD (f2 11), iD (f2 12), iD (f2 13), iD (f2 14), iD (f2 15), D.sl false q2 1 (List.map iD ys2)]]) _ (by exact (And.intro (D.sim.refl _) trivial)) (true) wr _ _ _ (CallOk.fn (FnOk.of Try.func16 rfl rfl) (@su_cr (b) (n) (x) (kd) (la) (le) (f1) (f2) (q1) (q2) (ys1) (ys2) (X) (e) asm)) (.s 6 (.t ((↑e : Int) == (↑e : Int)) zgx0 (.s 2 (.chk (true && Nat.ble (0 + n * 1) (List.length (List.map dB b)) && true && true) (by (simp <;> (omega))) (.byt (bif true && Nat.beq (n * 1) (List.length (List.map dB b)) then List.map dB b else List.take (n * 1) (List.drop 0 (List.map dB b))) (b) (cond_t (by (simp <;> (omega))) |>.trans rfl) (.s 5 (.byt (List.map dB b) (b) rfl (.s 4 (.out [] [] (D.v (.bool (ByteArray.toList (ByteArray.mk (List.toArray b)) == ByteArray.toList (ByteArray.mk (List.toArray b))))) [] R (ok _ _ (by (simp; done)) wr))))))))))))))))))))))))))))))))))))))))))))) (by kernel_rfl)
theorem rds_ (b : List UInt8) (n : Nat) (hn : n = b.length) (x : Int) (kd : Nat) (hkd : kd < 256) (la : Bool) (le : Int) (f1 f2 : Nat → Int) (ys1 ys2 : List Int) (q1 q2 : Nat) (hq1 : q1 = ys1.length) (hq2 : q2 = ys2.length) : SpecH false Try.prog 3 [.sl false n 1 (b.map dB), iD x, .agg ([u8D kd, bD la, iD le] ++ trC f1 q1 ys1 ++ trC f2 q2 ys2)] [] (.v (.bool true)) [] := by
 by_cases h : 400 < n ∨ 1000 < q1 ∨ 1000 < q2
 ·exact rds_0 b n hn x kd hkd la le f1 f2 ys1 ys2 q1 q2 hq1 hq2 h
 ·obtain ⟨hk, hl, ha, l1, l2, hp, he, hU⟩ := hu_ex b n hn (by omega) x
  obtain ⟨X, e, sU⟩ := su_ex b n hn (by omega) x kd hkd la le f1 f2 ys1 ys2 q1 q2 hq1 hq2 (by omega) (by omega)
  exact rds_1 b n hn x kd hkd la le f1 f2 ys1 ys2 q1 q2 hq1 hq2 (by omega) (by omega) (by omega) hk hl ha l1 l2 hp he hU hU.s1 hU.s2 X e sU
theorem kd_of {x : Int} (h : (Lit.int .u8 x).wf = true) : 0 ≤ x ∧ x < 256 := by
 have h2 : (decide ((0 : Int) ≤ x) && decide (x ≤ (255 : Int))) = true := h
 rw [Bool.and_eq_true, decide_eq_true_eq, decide_eq_true_eq] at h2
 omega
theorem ints_of_els : ∀ (els : List (List D)), (∀ el ∈ els, (Sh.int .i64).has el) → ∃ ys : List Int, ys.length = els.length ∧ els.flatten = ys.map iD
 | [], _ => ⟨[], rfl, rfl⟩
 | el :: r, h => by
  obtain ⟨z, hz, _⟩ := h el List.mem_cons_self
  obtain ⟨ys, h1, h2⟩ := ints_of_els r fun e he => h e (List.mem_cons_of_mem _ he)
  exact ⟨z :: ys, by rw [List.length_cons, h1, List.length_cons], by rw [List.flatten_cons, h2, hz]; rfl⟩
theorem zs16 {zs : List Int} (h : zs.length = 16) : zs.map (fun z => D.v (.int .i64 z)) = c16i (fun i => zs.getD i 0) := by
 apply List.ext_getElem?
 intro i
 rw [List.getElem?_map]
 rcases Nat.lt_or_ge i 16 with hi | hi
 ·have q := get16i (fun i => zs.getD i 0) [] i hi
  rw [List.append_nil] at q
  rw [q, List.getElem?_eq_getElem (by omega), List.getD_eq_getElem?_getD, List.getElem?_eq_getElem (by omega)]; rfl
 ·rw [List.getElem?_eq_none (by omega), List.getElem?_eq_none hi]; rfl
end Vp
end Go.Proofs.Ytegjeagfcfhbeaa

/- Part 9. -/
import Derived.Test.YtegjeagfcfhbeaaTm8
import Derived.Test.YtegjeagfcfhbeaaTm7
set_option linter.unusedVariables false
set_option linter.unusedSimpArgs false
set_option maxRecDepth 100000
set_option maxHeartbeats 4000000
namespace Go.Proofs.Ytegjeagfcfhbeaa
open Go.RowKit Go.Bw Go.Vx
namespace Vp
theorem zjx0 {p : Prop} (h : p := by ( have h8 := nul_in (s := s) om; have h7 := (nuL x h8).l; omega)) : p := h
theorem zjx1 {p : Prop} (h : p := by ((refine and_tI ?_ ?_) <;> (repeat' (first | (refine and_tI ?_ ?_) | (with_reducible rfl) | (refine decide_eq_true ?_) | (refine Nat.ble_eq_true_of_le ?_) | (refine nbeq ?_))) <;> (omega))) : p := h
theorem zjx2 {p : Prop} (h : p := by ( refine tup2i ?_; have q := (nuL x (nul_in (s := s) om)).c om; omega)) : p := h
theorem zjx3 {p : Prop} (h : p := by ( have h8 := nuf_in (s := s) om; have h7 := (nuF' x h8).l; omega)) : p := h
def bL : List Nat := [0, 0, 0, 0, 0, 0, 0, 0, 1, 1, 1, 1, 2, 2, 2, 2, 3, 3, 3, 3, 4, 4, 4, 4, 5, 5, 5, 5, 0]
def bF : List Nat := [0, 0, 0, 0, 1, 1, 2, 2, 3, 3, 4, 4, 5, 5, 6, 6, 7, 7, 8, 8, 9, 9, 10, 10, 11, 11, 12, 12, 13, 13]
def lL : List Nat := [3, 4, 5, 6, 7, 8, 9, 10, 11, 13, 15, 17, 19, 23, 27, 31, 35, 43, 51, 59, 67, 83, 99, 115, 131, 163, 195, 227, 258]
def lF : List Nat := [1, 2, 3, 4, 5, 7, 9, 13, 17, 25, 33, 49, 65, 97, 129, 193, 257, 385, 513, 769, 1025, 1537, 2049, 3073, 4097, 6145, 8193, 12289, 16385, 24577]
theorem tb_get (B : List Nat) {i : Nat} (h : i < B.length) : (B.map nD)[i]? = some (nD (B.getD i 0)) := by
 rw [List.getElem?_map, List.getD_eq_getElem?_getD, List.getElem?_eq_getElem h]; rfl
theorem gd_map {T : List Sy} {f : Sy → Nat} (h0 : f default = 0) (i : Nat) : (T.map f).getD i 0 = f (T.getD i default) := by
 rw [List.getD_eq_getElem?_getD, List.getD_eq_getElem?_getD, List.getElem?_map]
 cases T[i]? with
 | none => exact h0.symm
 | some x => rfl
theorem bL_eq : bL = longsT.map Sy.bits := rfl
theorem bF_eq : bF = farsT.map Sy.bits := rfl
theorem lL_eq : lL = longsT.map Sy.least := rfl
theorem lF_eq : lF = farsT.map Sy.least := rfl
theorem nuB_l {s : Nat} (h : 257 ≤ s ∧ s ≤ 285) : nuB false s = bL.getD (s - 257) 0 ∧ nuE false s = 0 := by
 have h2 := bt_in (T := longsT) (f := 257) (s := s) (show (257 : Int) ≤ s ∧ (s : Int) < 257 + ((29 : Nat) : Int) by omega)
 refine ⟨?_, h2.2⟩
 show btN longsT 257 s = _
 rw [h2.1, bL_eq, gd_map rfl, show ((s : Int) - 257).toNat = s - 257 from by omega]
theorem nuB_f {s : Nat} (h : s ≤ 29) : nuB true s = bF.getD s 0 ∧ nuE true s = 0 := by
 have h2 := bt_in (T := farsT) (f := 0) (s := s) (show (0 : Int) ≤ s ∧ (s : Int) < 0 + ((30 : Nat) : Int) by omega)
 refine ⟨?_, h2.2⟩
 show btN farsT 0 s = _
 rw [h2.1, bF_eq, gd_map rfl, show ((s : Int) - 0).toNat = s from by omega]
theorem nuB_lx {s : Nat} (h : ¬ (257 ≤ s ∧ s ≤ 285)) : nuB false s = 0 ∧ nuE false s = 90 :=
 bt_out (T := longsT) (f := 257) (s := s) (fun q => h (by have : (s : Int) < 257 + ((29 : Nat) : Int) := q.2; omega))
theorem nuB_fx {s : Nat} (h : ¬ s ≤ 29) : nuB true s = 0 ∧ nuE true s = 90 :=
 bt_out (T := farsT) (f := 0) (s := s) (fun q => h (by have : (s : Int) < 0 + ((30 : Nat) : Int) := q.2; omega))
theorem bL_at {s : Nat} (h : 257 ≤ s ∧ s ≤ 285) : (bL.map nD)[0 + ((s : Int) - 257).toNat * 1]? = some (nD (nuB false s)) := by
 rw [show 0 + ((s : Int) - 257).toNat * 1 = s - 257 from by omega, (nuB_l h).1]; exact tb_get bL (show s - 257 < 29 by omega)
theorem bF_at {s : Nat} (h : s ≤ 29) : (bF.map nD)[0 + s * 1]? = some (nD (nuB true s)) := by
 rw [show 0 + s * 1 = s from by omega, (nuB_f h).1]; exact tb_get bF (show s < 30 by omega)
def lA (s : Nat) : Nat := lk bL (lL.getD (s - 257) 0)
def lB (s : Nat) : Nat := lk bL (lF.getD s 0)
theorem lA_eq (s : Nat) : lA s = lL.getD (s - 257) 0 := lk_eq _ _
theorem lB_eq (s : Nat) : lB s = lF.getD s 0 := lk_eq _ _
theorem lL_at {s : Nat} (h : 257 ≤ s ∧ s ≤ 285) : (lL.map nD)[0 + ((s : Int) - 257).toNat * 1]? = some (nD (lA s)) := by
 rw [lA_eq, show 0 + ((s : Int) - 257).toNat * 1 = s - 257 from by omega]; exact tb_get lL (show s - 257 < 29 by omega)
theorem lF_at {s : Nat} (h : s ≤ 29) : (lF.map nD)[0 + s * 1]? = some (nD (lB s)) := by
 rw [lB_eq, show 0 + s * 1 = s from by omega]; exact tb_get lF (show s < 30 by omega)
theorem rLB (s : Nat) (hs : s ≤ 1000000) : SpecH false Try.prog 94 [nD s] [] (.tup [nD (nuB false s), nD (nuE false s)]) [] := by
 refine SpecH.run T_ok mixed Try.func94 rfl rfl rfl trivial rfl 1000 64 (fun R ok => (.s 7 (.br (decide ((↑s : Int) < 257)) (fun p0 => have p0f := odt p0; (.s 6 (.out [] [] (D.tup [iD 0, iD 90]) [] R (ok _ _ (by ( rw [(nuB_lx (s := s) om).1, (nuB_lx (s := s) om).2]; rfl)) wr)))) (fun p0 => have p0f := odf p0; (.s 4 (.br (decide (285 < (↑s : Int))) (fun p1 => have p1f := odt p1; (.s 2 (.out [] [] (D.tup [iD 0, iD 90]) [] R (ok _ _ (by ( rw [(nuB_lx (s := s) om).1, (nuB_lx (s := s) om).2]; rfl)) wr)))) (fun p1 => have p1f := odf p1; (.s 59 (.ow ((↑s : Int) - 257) (.s 1 (.chk (decide (0 ≤ (↑s : Int) - 257) && decide ((↑s : Int) - 257 < (↑29 : Int))) zjx1 (.s 3 (.opt ((List.map nD bL)[0 + Int.toNat ((↑s : Int) - 257) * 1]?) (nD (nuB false s)) (@bL_at s om) (.s 2 (.out [] [] (D.tup [nD (nuB false s), iD 0]) [] R (ok _ _ (by ( rw [(nuB_l (s := s) om).2]; rfl)) wr)))))))))))))))) (by kernel_rfl)
theorem rFB (s : Nat) (hs : s ≤ 1000000) : SpecH false Try.prog 95 [nD s] [] (.tup [nD (nuB true s), nD (nuE true s)]) [] := by
 refine SpecH.run T_ok mixed Try.func95 rfl rfl rfl trivial rfl 1000 64 (fun R ok => (.s 12 (.br (decide (29 < (↑s : Int))) (fun p0 => have p0f := odt p0; (.s 2 (.out [] [] (D.tup [iD 0, iD 90]) [] R (ok _ _ (by ( rw [(nuB_fx (s := s) om).1, (nuB_fx (s := s) om).2]; rfl)) wr)))) (fun p0 => have p0f := odf p0; (.s 58 (.chk (true && decide ((↑s : Int) < (↑30 : Int))) (by (refine decide_eq_true ?_; (omega))) (.s 3 (.opt ((List.map nD bF)[0 + s * 1]?) (nD (nuB true s)) (@bF_at s om) (.s 2 (.out [] [] (D.tup [nD (nuB true s), iD 0]) [] R (ok _ _ (by ( rw [(nuB_f (s := s) om).2]; rfl)) wr))))))))))) (by kernel_rfl)
theorem rPw9 (k : Nat) (hk : k ≤ 32) : SpecH false Try.prog 126 [nD k] [] (nD (twoN k)) [] := by
 refine SpecH.run T_ok mixed Try.func126 rfl rfl rfl trivial rfl 1000 64 (fun R ok => (.s 3 (Hn.inl T_ok mixed false 13 0 (loopAt Try.prog 126 0) (fun (x : (i : Nat) ×' (hi : i ≤ k) ×' Unit) => match x with | ⟨i, hi, _⟩ => CutS.mk [(0, nD k), (3, nD (twoN i)), (4, nD i)] [] 0) (fun (x : (i : Nat) ×' (hi : i ≤ k) ×' Unit) => match x with | ⟨i, hi, _⟩ => k - i) [⟨Unit, .exit 0, fun x => match x with | () => CutS.mk [(0, nD k), (3, nD (twoN k)), (4, nD k)] [] 0⟩] 1000 64 (fun | ⟨i, hi, _⟩, Q, next1, last1 => (.s 4 (.br (decide ((↑i : Int) < (↑k : Int))) (fun p0 => have p0f := odt p0; (.s 3 (.op (2 * (↑(twoN i) : Int)) (by ( have h9 := twoN_32 (i := i) om; omega)) (.s 4 (.ow ((↑i : Int) + 1) (.s 1 (.val 3 (iD (2 * (↑(twoN i) : Int))) (nD (twoN (i + 1))) (by (rw [twoN]; refine iv_eq ?_; omega)) (.val 4 (iD ((↑i : Int) + 1)) (nD (i + 1)) (by (refine iv_eq ?_; (omega))) (Hn.next next1 ⟨(i + 1), om, ⟨⟩⟩ (by show k - (i + 1) < k - i; clear next1 last1; omega) [] ro))))))))) (fun p0 => have p0f := odf p0; (.val 3 (nD (twoN i)) (nD (twoN k)) (by ( rw [show i = k from by omega])) (.val 4 (nD i) (nD k) (by ( rw [show i = k from by omega])) (Hn.last last1 0 (() : Unit) rfl [] ro))))))) (fun | ⟨i, hi, _⟩ => by kernel_rfl) ⟨(0), om, ⟨⟩⟩ [] ro (hs1 (fun | () => (.s 2 (.out [] [] (nD (twoN k)) [] R (ok _ _ wr wr)))))))) (by kernel_rfl)
theorem longs_many : ∀ i : Fin 29, (longsT.getD i.1 default).many = if i.1 = 27 then 31 else 2 ^ (longsT.getD i.1 default).bits := by decide
theorem fars_many : ∀ i : Fin 30, (farsT.getD i.1 default).many = 2 ^ (farsT.getD i.1 default).bits := by decide
structure NuL (s x : Nat) : Prop where
 a : twoN (nuB false s) ≤ x → nuV false s x = 0 ∧ nuF false s x = 2
 b : ¬ twoN (nuB false s) ≤ x → s = 284 → x = 31 → nuV false s x = 0 ∧ nuF false s x = 90
 c : ¬ twoN (nuB false s) ≤ x → ¬ (s = 284 ∧ x = 31) → nuV false s x = lA s + x ∧ nuF false s x = 0
 l : lA s ≤ 100000
theorem nuv_0 {far : Bool} {s x : Nat} (h : nuF far s x ≠ 0) : nuV far s x = 0 := by
 cases far
 ·exact if_neg h
 ·exact if_neg h
theorem nuL {s : Nat} (x : Nat) (h : 257 ≤ s ∧ s ≤ 285) : NuL s x := by
 have hr : (257 : Int) ≤ s ∧ (s : Int) < 257 + (longsT.length : Int) := show (257 : Int) ≤ s ∧ (s : Int) < 257 + ((29 : Nat) : Int) by omega
 have hm := longs_many ⟨s - 257, by omega⟩
 have hs := longs_small (s - 257)
 have e : ((s : Int) - 257).toNat = s - 257 := by omega
 have hp : pwS (longsT.getD ((s : Int) - 257).toNat default) = twoN (nuB false s) := by
  unfold pwS; rw [twoN_eq, (nuB_l h).1, bL_eq, gd_map rfl, e]
 have hb : nuB false s = (longsT.getD (s - 257) default).bits := by rw [(nuB_l h).1, bL_eq, gd_map rfl]
 have hl : lA s = (longsT.getD (s - 257) default).least := by rw [lA_eq, lL_eq, gd_map rfl]
 have f2 : twoN (nuB false s) ≤ x → nuF false s x = 2 := fun q => of_2 hr (by rw [hp]; exact q)
 have f3 : ¬ twoN (nuB false s) ≤ x → s = 284 → x = 31 → nuF false s x = 90 := fun q q2 q3 => of_3 hr (by rw [hp]; exact q) (by
  rw [e, show s - 257 = 27 from by omega, q3]; decide)
 have f4 : ¬ twoN (nuB false s) ≤ x → ¬ (s = 284 ∧ x = 31) → nuF false s x = 0 := fun q q2 => of_4 hr (by rw [hp]; exact q) (by
  rw [e, hm, ← hb, ← twoN_eq]
  show ¬ (if s - 257 = 27 then 31 else _) ≤ x
  split
  ·next z =>
   have z2 : s = 284 := by omega
   rw [z2] at q
   have : twoN (nuB false 284) = 32 := by decide
   omega
  ·exact q)
 refine ⟨fun q => ⟨nuv_0 (by rw [f2 q]; decide), f2 q⟩, fun q q2 q3 => ⟨nuv_0 (by rw [f3 q q2 q3]; decide), f3 q q2 q3⟩, fun q q2 => ⟨?_, f4 q q2⟩, by rw [hl]; exact hs.2.1⟩
 have h3 := of_0 (T := longsT) (f := 257) (s := s) (x := x) (f4 q q2)
 show ofN longsT 257 s x = _
 rw [h3, e, hl]
structure NuF' (s x : Nat) : Prop where
 a : twoN (nuB true s) ≤ x → nuV true s x = 0 ∧ nuF true s x = 2
 c : ¬ twoN (nuB true s) ≤ x → nuV true s x = lB s + x ∧ nuF true s x = 0
 l : lB s ≤ 100000
theorem nuF' {s : Nat} (x : Nat) (h : s ≤ 29) : NuF' s x := by
 have hr : (0 : Int) ≤ s ∧ (s : Int) < 0 + (farsT.length : Int) := show (0 : Int) ≤ s ∧ (s : Int) < 0 + ((30 : Nat) : Int) by omega
 have hm := fars_many ⟨s, by omega⟩
 have hs := fars_small s
 have e : ((s : Int) - 0).toNat = s := by omega
 have hp : pwS (farsT.getD ((s : Int) - 0).toNat default) = twoN (nuB true s) := by
  unfold pwS; rw [twoN_eq, (nuB_f h).1, bF_eq, gd_map rfl, e]
 have hb : nuB true s = (farsT.getD s default).bits := by rw [(nuB_f h).1, bF_eq, gd_map rfl]
 have hl : lB s = (farsT.getD s default).least := by rw [lB_eq, lF_eq, gd_map rfl]
 have f2 : twoN (nuB true s) ≤ x → nuF true s x = 2 := fun q => of_2 hr (by rw [hp]; exact q)
 have f4 : ¬ twoN (nuB true s) ≤ x → nuF true s x = 0 := fun q => of_4 hr (by rw [hp]; exact q) (by
  rw [e, hm, ← hb, ← twoN_eq]; exact q)
 refine ⟨fun q => ⟨nuv_0 (by rw [f2 q]; decide), f2 q⟩, fun q => ⟨?_, f4 q⟩, by rw [hl]; exact hs.2.1⟩
 have h3 := of_0 (T := farsT) (f := 0) (s := s) (x := x) (f4 q)
 show ofN farsT 0 s x = _
 rw [h3, e, hl]
theorem nul_in {s : Nat} (h : nuE false s = 0) : 257 ≤ s ∧ s ≤ 285 := by
 rcases Classical.em (257 ≤ s ∧ s ≤ 285) with q | q
 ·exact q
 ·rw [(nuB_lx q).2] at h; cases h
theorem nuf_in {s : Nat} (h : nuE true s = 0) : s ≤ 29 := by
 rcases Classical.em (s ≤ 29) with q | q
 ·exact q
 ·rw [(nuB_fx q).2] at h; cases h
theorem nul_x {s x : Nat} (h : nuE false s ≠ 0) : nuV false s x = 0 ∧ nuF false s x = nuE false s := by
 have q : ¬ (257 ≤ s ∧ s ≤ 285) := fun q => h (nuB_l q).2
 have h2 : nuF false s x = 90 := of_1 (fun z => q (by have : (s : Int) < 257 + ((29 : Nat) : Int) := z.2; omega))
 exact ⟨nuv_0 (by rw [h2]; decide), by rw [h2, (nuB_lx q).2]⟩
theorem nuf_x {s x : Nat} (h : nuE true s ≠ 0) : nuV true s x = 0 ∧ nuF true s x = nuE true s := by
 have q : ¬ s ≤ 29 := fun q => h (nuB_f q).2
 have h2 : nuF true s x = 90 := of_1 (fun z => q (by have : (s : Int) < 0 + ((30 : Nat) : Int) := z.2; omega))
 exact ⟨nuv_0 (by rw [h2]; decide), by rw [h2, (nuB_fx q).2]⟩
theorem tup2i {a c : Nat} {b d : Int} (h : (a : Int) = b ∧ (c : Int) = d) : D.tup [iD b, iD d] = D.tup [nD a, nD c] := by rw [← h.1, ← h.2]
theorem rLO (s x : Nat) (hs : s ≤ 1000000) (hx : x ≤ 1000000) : SpecH false Try.prog 96 [nD s, nD x] [] (.tup [nD (nuV false s x), nD (nuF false s x)]) [] := by
 refine SpecH.run T_ok mixed Try.func96 rfl rfl rfl trivial rfl 1000 64 (fun R ok => (.s 4 (.cl 94 false [] (.fn q94 (@rLB (s) om)) (.s 10 (.br ((↑(nuE false s) : Int) != 0) (fun p0 => have p0f := of_bne_t p0; (.s 3 (.out [] [] (D.tup [iD 0, nD (nuE false s)]) [] R (ok _ _ (by ( refine tup2i ?_; have q := nul_x (s := s) (x := x) om; omega)) wr)))) (fun p0 => have p0f := of_bne_f p0; (.s 10 (.cl 126 false [] (.fn q126 (@rPw9 (nuB false s) (by ( have h9 := nuB_le false s; omega)))) (.s 4 (.br (decide ((↑(twoN (nuB false s)) : Int) ≤ (↑x : Int))) (fun p1 => have p1f := odt p1; (.s 2 (.out [] [] (D.tup [iD 0, iD 2]) [] R (ok _ _ (by ( refine tup2i ?_; have q := (nuL x (nul_in (s := s) om)).a om; omega)) wr)))) (fun p1 => have p1f := odf p1; (.s 5 (.br ((↑s : Int) == 284) (fun p2 => have p2f := eq_of_beq p2; (.s 4 (.br ((↑x : Int) == 31) (fun p3 => have p3f := eq_of_beq p3; (.s 2 (.out [] [] (D.tup [iD 0, iD 90]) [] R (ok _ _ (by ( refine tup2i ?_; have q := (nuL x (nul_in (s := s) om)).b om om om; omega)) wr)))) (fun p3 => have p3f := of_beq_f p3; (.s 59 (.ow ((↑s : Int) - 257) (.s 1 (.chk (decide (0 ≤ (↑s : Int) - 257) && decide ((↑s : Int) - 257 < (↑29 : Int))) zjx1 (.s 3 (.opt ((List.map nD lL)[0 + Int.toNat ((↑s : Int) - 257) * 1]?) (nD (lA s)) (@lL_at s om) (.s 3 (.op ((↑(lA s) : Int) + (↑x : Int)) zjx0 (.s 2 (.out [] [] (D.tup [iD ((↑(lA s) : Int) + (↑x : Int)), iD 0]) [] R (ok _ _ zjx2 wr))))))))))))))) (fun p2 => have p2f := of_beq_f p2; (.s 63 (.ow ((↑s : Int) - 257) (.s 1 (.chk (decide (0 ≤ (↑s : Int) - 257) && decide ((↑s : Int) - 257 < (↑29 : Int))) (by ((refine and_tI ?_ ?_) <;> (repeat' (first | (refine and_tI ?_ ?_) | (with_reducible rfl) | (refine decide_eq_true ?_) | (refine Nat.ble_eq_true_of_le ?_) | (refine nbeq ?_))) <;> ( have h8 := nul_in (s := s) om; have h7 := (nuL x h8).l; omega))) (.s 3 (.opt ((List.map nD lL)[0 + Int.toNat ((↑s : Int) - 257) * 1]?) (nD (lA s)) (@lL_at s zjx0) (.s 3 (.op ((↑(lA s) : Int) + (↑x : Int)) zjx0 (.s 2 (.out [] [] (D.tup [iD ((↑(lA s) : Int) + (↑x : Int)), iD 0]) [] R (ok _ _ zjx2 wr))))))))))))))))))))))))) (by kernel_rfl)
theorem rFO (s x : Nat) (hs : s ≤ 1000000) (hx : x ≤ 1000000) : SpecH false Try.prog 97 [nD s, nD x] [] (.tup [nD (nuV true s x), nD (nuF true s x)]) [] := by
 refine SpecH.run T_ok mixed Try.func97 rfl rfl rfl trivial rfl 1000 64 (fun R ok => (.s 4 (.cl 95 false [] (.fn q95 (@rFB (s) om)) (.s 10 (.br ((↑(nuE true s) : Int) != 0) (fun p0 => have p0f := of_bne_t p0; (.s 3 (.out [] [] (D.tup [iD 0, nD (nuE true s)]) [] R (ok _ _ (by ( refine tup2i ?_; have q := nuf_x (s := s) (x := x) om; omega)) wr)))) (fun p0 => have p0f := of_bne_f p0; (.s 10 (.cl 126 false [] (.fn q126 (@rPw9 (nuB true s) (by ( have h9 := nuB_le true s; omega)))) (.s 4 (.br (decide ((↑(twoN (nuB true s)) : Int) ≤ (↑x : Int))) (fun p1 => have p1f := odt p1; (.s 2 (.out [] [] (D.tup [iD 0, iD 2]) [] R (ok _ _ (by ( refine tup2i ?_; have q := (nuF' x (nuf_in (s := s) om)).a om; omega)) wr)))) (fun p1 => have p1f := odf p1; (.s 58 (.chk (true && decide ((↑s : Int) < (↑30 : Int))) (by (refine decide_eq_true ?_;  have h8 := nuf_in (s := s) om; have h7 := (nuF' x h8).l; omega)) (.s 3 (.opt ((List.map nD lF)[0 + s * 1]?) (nD (lB s)) (@lF_at s zjx3) (.s 3 (.op ((↑(lB s) : Int) + (↑x : Int)) zjx3 (.s 2 (.out [] [] (D.tup [iD ((↑(lB s) : Int) + (↑x : Int)), iD 0]) [] R (ok _ _ (by ( refine tup2i ?_; have q := (nuF' x (nuf_in (s := s) om)).c om; omega)) wr)))))))))))))))))))) (by kernel_rfl)
end Vp
end Go.Proofs.Ytegjeagfcfhbeaa
namespace Go.Proofs.Ytegjeagfcfhbeaa
open Go.RowKit Go.Bw Go.Vx
namespace Vp
theorem zkx0 {p : Prop} (h : p := by ( have h9 := tkV_lt b p (nuB true y); have h8 := Nat.pow_le_pow_right (show 0 < 2 by decide) (nuB_le true y); omega)) : p := h
theorem zkx1 {p : Prop} (h : p := by ( have h9 := tkV_lt b p (nuB false y); have h8 := Nat.pow_le_pow_right (show 0 < 2 by decide) (nuB_le false y); omega)) : p := h
theorem zkx2 {p : Prop} (h : p := by (simp only [fm_length (k := 2) (fun (c : Nat × Nat) => (rfl : (mdD c).length = 2)), Nat.zero_add, Bool.true_and, Bool.and_true, Nat.beq_refl, cond_true]; rw [Bool.and_eq_true]; exact ⟨Nat.ble_eq_true_of_le (Nat.le_refl _), cl_fm (fun _ => rfl) _⟩)) : p := h
abbrev rs0 (p : Nat) : Rs := ⟨p, 0⟩
def exR (b : List UInt8) (far : Bool) (y p : Nat) : Nat × Nat × Nat := lk b (if nuE far y ≠ 0 then (0, 0, nuE far y) else if tkE b p (nuB far y) ≠ 0 then (0, 0, tkE b p (nuB far y)) else (nuV far y (tkV b p (nuB far y)), p + nuB far y, nuF far y (tkV b p (nuB far y))))
section
variable {b : List UInt8} {far : Bool} {y p : Nat}
theorem ex_1 (h : nuE far y ≠ 0) : exR b far y p = (0, 0, nuE far y) := (lk_eq _ _).trans (if_pos h)
theorem ex_2 (h : nuE far y = 0) (h2 : tkE b p (nuB far y) ≠ 0) : exR b far y p = (0, 0, tkE b p (nuB far y)) := (lk_eq _ _).trans ((if_neg (by omega)).trans (if_pos h2))
theorem ex_3 (h : nuE far y = 0) (h2 : tkE b p (nuB far y) = 0) : exR b far y p = (nuV far y (tkV b p (nuB far y)), p + nuB far y, nuF far y (tkV b p (nuB far y))) := (lk_eq _ _).trans ((if_neg (by omega)).trans (if_neg (by omega)))
theorem ex_st : (exR b far y p).2.2 = (nbS b far y (rs0 p)).e ∧ ((exR b far y p).2.2 = 0 → nbS b far y (rs0 p) = rs0 (exR b far y p).2.1 ∧ nbN b far y (rs0 p) = (exR b far y p).1 ∧ p ≤ (exR b far y p).2.1 ∧ (exR b far y p).2.1 ≤ 8 * b.length) := by
 have hA : ∀ e, nuE far y = e → nbA far y (rs0 p) = ⟨p, e⟩ := fun e he => by
  unfold nbA
  rw [he]
  by_cases h : e = 0
  ·subst h; exact fl_t
  ·rw [show (((e : Nat) : Int) == 0) = false from by simp; omega, fl_f rfl]
 by_cases h : nuE far y = 0
 ·have hT : nbT b far y (rs0 p) = ⟨p + nuB far y, tkE b p (nuB far y)⟩ := by unfold nbT; rw [hA 0 h, tkS_0 rfl]
  have hX : nbX b far y (rs0 p) = tkV b p (nuB far y) := by unfold nbX; rw [hA 0 h, tkN_0 rfl]
  by_cases h2 : tkE b p (nuB far y) = 0
  ·rw [ex_3 h h2, (nbS_2 rfl (by rw [hT]; exact h2)).1, (nbS_2 rfl (by rw [hT]; exact h2)).2, hT, hX, h2]
   by_cases h3 : nuF far y (tkV b p (nuB far y)) = 0
   ·rw [h3, show fl (rs0 (p + nuB far y)) ((((0 : Nat)) : Int) == 0) 0 = rs0 (p + nuB far y) from fl_t]
    exact ⟨rfl, fun _ => ⟨rfl, rfl, Nat.le_add_right _ _, tkE_le h2⟩⟩
   ·rw [show (((nuF far y (tkV b p (nuB far y)) : Nat) : Int) == 0) = false from by simp; omega, fl_f rfl]
    exact ⟨rfl, fun q => absurd q h3⟩
  ·rw [ex_2 h h2, (nbS_1 rfl (by rw [hT]; exact h2)).1, hT]
   exact ⟨rfl, fun q => absurd q h2⟩
 ·rw [ex_1 h]
  have hT : nbT b far y (rs0 p) = ⟨p, nuE far y⟩ := by unfold nbT; rw [hA _ rfl, tkS_x (s := ⟨p, nuE far y⟩) h]
  rw [(nbS_1 rfl (by rw [hT]; exact h)).1, hT]
  exact ⟨rfl, fun q => absurd q h⟩
end
theorem rEx_l (b : List UInt8) (n : Nat) (hn : n = b.length) (hN : n ≤ 1000000) (p : Nat) (hp : p ≤ 8 * n) (y : Nat) (hy : y ≤ 1000000) : SpecH false Try.prog 64 [.v (.bool false), nD y, .sl false n 1 (b.map dB), nD p] [] (nxD (exR b false y p)) [] := by
 refine SpecH.run T_ok mixed Try.func64 rfl rfl rfl trivial rfl 1000 64 (fun R ok => (.s 5 (.cl 94 false [] (.fn q94 (@rLB (y) om)) (.s 12 (.br ((↑(nuE false y) : Int) != 0) (fun p0 => have p0f := of_bne_t p0; (.s 4 (.out [] [] (D.tup [iD 0, iD 0, nD (nuE false y)]) [] R (ok _ _ (by ( rw [ex_1 om]; rfl)) wr)))) (fun p0 => have p0f := of_bne_f p0; (.s 4 (.cl 51 false [] (.fn q51 (@rTake (b) (n) om om (p) (nuB false y) (by ( have h9 := nuB_le false y; omega)) om)) (.s 10 (.br ((↑(tkE b p (nuB false y)) : Int) != 0) (fun p1 => have p1f := of_bne_t p1; (.s 4 (.out [] [] (D.tup [iD 0, iD 0, nD (tkE b p (nuB false y))]) [] R (ok _ _ (by ( rw [ex_2 om om]; rfl)) wr)))) (fun p1 => have p1f := of_bne_f p1; (.s 3 (.op (↑(tkV b p (nuB false y)) : Int) zkx1 (.s 1 (.cl 96 false [] (.fn q96 (@rLO (y) (tkV b p (nuB false y)) om zkx1)) (.s 14 (.op ((↑p : Int) + (↑(nuB false y) : Int)) (by ( have h9 := nuB_le false y; omega)) (.s 4 (.out [] [] (D.tup [nD (nuV false y (tkV b p (nuB false y))), iD ((↑p : Int) + (↑(nuB false y) : Int)), nD (nuF false y (tkV b p (nuB false y)))]) [] R (ok _ _ (by ( rw [ex_3 om om]; rfl)) wr)))))))))))))))))))) (by kernel_rfl)
theorem rEx_f (b : List UInt8) (n : Nat) (hn : n = b.length) (hN : n ≤ 1000000) (p : Nat) (hp : p ≤ 8 * n) (y : Nat) (hy : y ≤ 1000000) : SpecH false Try.prog 64 [.v (.bool true), nD y, .sl false n 1 (b.map dB), nD p] [] (nxD (exR b true y p)) [] := by
 refine SpecH.run T_ok mixed Try.func64 rfl rfl rfl trivial rfl 1000 64 (fun R ok => (.s 5 (.cl 94 false [] (.fn q94 (@rLB (y) om)) (.s 11 (.cl 95 false [] (.fn q95 (@rFB (y) om)) (.s 10 (.br ((↑(nuE true y) : Int) != 0) (fun p0 => have p0f := of_bne_t p0; (.s 4 (.out [] [] (D.tup [iD 0, iD 0, nD (nuE true y)]) [] R (ok _ _ (by ( rw [ex_1 om]; rfl)) wr)))) (fun p0 => have p0f := of_bne_f p0; (.s 4 (.cl 51 false [] (.fn q51 (@rTake (b) (n) om om (p) (nuB true y) (by ( have h9 := nuB_le true y; omega)) om)) (.s 10 (.br ((↑(tkE b p (nuB true y)) : Int) != 0) (fun p1 => have p1f := of_bne_t p1; (.s 4 (.out [] [] (D.tup [iD 0, iD 0, nD (tkE b p (nuB true y))]) [] R (ok _ _ (by ( rw [ex_2 om om]; rfl)) wr)))) (fun p1 => have p1f := of_bne_f p1; (.s 3 (.op (↑(tkV b p (nuB true y)) : Int) zkx0 (.s 1 (.cl 96 false [] (.fn q96 (@rLO (y) (tkV b p (nuB true y)) om zkx0)) (.s 12 (.op (↑(tkV b p (nuB true y)) : Int) zkx0 (.s 1 (.cl 97 false [] (.fn q97 (@rFO (y) (tkV b p (nuB true y)) om zkx0)) (.s 12 (.op ((↑p : Int) + (↑(nuB true y) : Int)) (by ( have h9 := nuB_le true y; omega)) (.s 4 (.out [] [] (D.tup [nD (nuV true y (tkV b p (nuB true y))), iD ((↑p : Int) + (↑(nuB true y) : Int)), nD (nuF true y (tkV b p (nuB true y)))]) [] R (ok _ _ (by ( rw [ex_3 om om]; rfl)) wr)))))))))))))))))))))))))) (by kernel_rfl)
def nxtR (r : Rs × Nat × Nat × Nat × Bool) : Nat × Nat × Nat × Bool × Nat × Nat := lk [0] (if r.1.e ≠ 0 then (0, 0, 0, false, 0, r.1.e) else (r.2.1, r.2.2.1, r.2.2.2.1, r.2.2.2.2, r.1.p, 0))
abbrev nxtD (r : Nat × Nat × Nat × Bool × Nat × Nat) : D := .tup [.agg [u8D r.1, nD r.2.1, nD r.2.2.1], bD r.2.2.2.1, nD r.2.2.2.2.1, nD r.2.2.2.2.2]
theorem nxR_bd (b l : List UInt8) (p : Nat) : (nxR b l p).1 < l.length ∨ (nxR b l p).1 = 0 := by
 have := syN_lt b l (rs0 p)
 rwa [syN_0 rfl] at this
theorem nxt_e {r : Rs × Nat × Nat × Nat × Bool} {e : Int} (h : r.1.e ≠ 0) (h2 : (r.1.e : Int) = e) : D.tup [.agg [u8D 0, iD 0, iD 0], bD false, iD 0, iD e] = nxtD (nxtR r) := by
 have e : nxtR r = (0, 0, 0, false, 0, r.1.e) := (lk_eq _ _).trans (if_pos h)
 rw [e, ← h2]; rfl
theorem nxt_o {r : Rs × Nat × Nat × Nat × Bool} {x y z q : Int} {en : Bool} (h : r.1.e = 0) (h2 : (r.2.1 : Int) = x ∧ (r.2.2.1 : Int) = y ∧ (r.2.2.2.1 : Int) = z ∧ (r.1.p : Int) = q) (h3 : r.2.2.2.2 = en) : D.tup [.agg [.v (.int .u8 x), iD y, iD z], bD en, iD q, iD 0] = nxtD (nxtR r) := by
 have e : nxtR r = (r.2.1, r.2.2.1, r.2.2.2.1, r.2.2.2.2, r.1.p, 0) := (lk_eq _ _).trans (if_neg (by omega))
 rw [e, ← h2.1, ← h2.2.1, ← h2.2.2.1, ← h2.2.2.2, ← h3]; rfl
section
variable {b l1 l2 : List UInt8} {kd le p : Nat}
theorem nt_a (h : kd = 0) (h2 : 0 < le) : stR b kd le l1 l2 (rs0 p) = (⟨p + 8, tkE b p 8⟩, tkV b p 8, 0, 0, false) := by rw [st_a h h2, tkS_0 rfl, tkN_0 rfl]
theorem nt_c (h : kd ≠ 0) (h2 : (nxR b l1 p).2.2 ≠ 0) : (stR b kd le l1 l2 (rs0 p)).1.e = (nxR b l1 p).2.2 := by
 rw [st_c h (by rw [syS_0 rfl]; exact h2), syS_0 rfl]
theorem nt_d (h : kd ≠ 0) (h2 : (nxR b l1 p).2.2 = 0) (h3 : (nxR b l1 p).1 < 256) : stR b kd le l1 l2 (rs0 p) = (rs0 (nxR b l1 p).2.1, (nxR b l1 p).1, 0, 0, false) := by
 have e1 : syS b l1 (rs0 p) = rs0 (nxR b l1 p).2.1 := by rw [syS_0 rfl, h2]
 have e2 : syN b l1 (rs0 p) = (nxR b l1 p).1 := syN_0 rfl
 rw [st_d h (by rw [e1]) (by rw [e2]; exact h3), e1, e2]
theorem nt_e (h : kd ≠ 0) (h2 : (nxR b l1 p).2.2 = 0) (h3 : (nxR b l1 p).1 = 256) : stR b kd le l1 l2 (rs0 p) = (rs0 (nxR b l1 p).2.1, 0, 0, 0, true) := by
 have e1 : syS b l1 (rs0 p) = rs0 (nxR b l1 p).2.1 := by rw [syS_0 rfl, h2]
 have e2 : syN b l1 (rs0 p) = (nxR b l1 p).1 := syN_0 rfl
 rw [st_e h (by rw [e1]) (by rw [e2]; exact h3), e1]
def cpA (b l1 : List UInt8) (p : Nat) : Nat × Nat × Nat := exR b false (nxR b l1 p).1 (nxR b l1 p).2.1
def cpB (b l1 l2 : List UInt8) (p : Nat) : Nat × Nat × Nat := nxR b l2 (cpA b l1 p).2.1
def cpC (b l1 l2 : List UInt8) (p : Nat) : Nat × Nat × Nat := exR b true (cpB b l1 l2 p).1 (cpB b l1 l2 p).2.1
theorem nt_f (h : kd ≠ 0) (h2 : (nxR b l1 p).2.2 = 0) (h3 : 256 < (nxR b l1 p).1) : stR b kd le l1 l2 (rs0 p) = (nbS b true (syN b l2 (nbS b false (nxR b l1 p).1 (rs0 (nxR b l1 p).2.1))) (syS b l2 (nbS b false (nxR b l1 p).1 (rs0 (nxR b l1 p).2.1))), 0, nbN b true (syN b l2 (nbS b false (nxR b l1 p).1 (rs0 (nxR b l1 p).2.1))) (syS b l2 (nbS b false (nxR b l1 p).1 (rs0 (nxR b l1 p).2.1))), nbN b false (nxR b l1 p).1 (rs0 (nxR b l1 p).2.1), false) := by
 have e1 : syS b l1 (rs0 p) = rs0 (nxR b l1 p).2.1 := by rw [syS_0 rfl, h2]
 have e2 : syN b l1 (rs0 p) = (nxR b l1 p).1 := syN_0 rfl
 have e3 : st2 b l1 (rs0 p) = nbS b false (nxR b l1 p).1 (rs0 (nxR b l1 p).2.1) := by
  show nbS b false (syN b l1 (rs0 p)) (syS b l1 (rs0 p)) = _
  rw [e1, e2]
 rw [st_f h (by rw [e1]) (by rw [e2]; exact h3), e3, e1, e2]
theorem nt_f1 (h : kd ≠ 0) (h2 : (nxR b l1 p).2.2 = 0) (h3 : 256 < (nxR b l1 p).1) (h4 : (cpA b l1 p).2.2 ≠ 0) : (stR b kd le l1 l2 (rs0 p)).1.e = (cpA b l1 p).2.2 := by
 have q := ex_st (b := b) (far := false) (y := (nxR b l1 p).1) (p := (nxR b l1 p).2.1)
 rw [nt_f h h2 h3]
 show (nbS b true _ (syS b l2 (nbS b false (nxR b l1 p).1 (rs0 (nxR b l1 p).2.1)))).e = _
 have h4 : (nbS b false (nxR b l1 p).1 (rs0 (nxR b l1 p).2.1)).e ≠ 0 := by rw [← q.1]; exact h4
 rw [syS_x h4, (nbS_x h4).1, ← q.1]; rfl
theorem nt_f2 (h : kd ≠ 0) (h2 : (nxR b l1 p).2.2 = 0) (h3 : 256 < (nxR b l1 p).1) (h4 : (cpA b l1 p).2.2 = 0) (h5 : (cpB b l1 l2 p).2.2 ≠ 0) : (stR b kd le l1 l2 (rs0 p)).1.e = (cpB b l1 l2 p).2.2 := by
 have q := (ex_st (b := b) (far := false) (y := (nxR b l1 p).1) (p := (nxR b l1 p).2.1)).2 h4
 rw [nt_f h h2 h3, q.1]
 have e : syS b l2 (rs0 (exR b false (nxR b l1 p).1 (nxR b l1 p).2.1).2.1) = ⟨(cpB b l1 l2 p).2.1, (cpB b l1 l2 p).2.2⟩ := syS_0 rfl
 show (nbS b true _ (syS b l2 (rs0 _))).e = _
 rw [e, (nbS_x (s := ⟨(cpB b l1 l2 p).2.1, (cpB b l1 l2 p).2.2⟩) h5).1]
theorem nt_f3 (h : kd ≠ 0) (h2 : (nxR b l1 p).2.2 = 0) (h3 : 256 < (nxR b l1 p).1) (h4 : (cpA b l1 p).2.2 = 0) (h5 : (cpB b l1 l2 p).2.2 = 0) : stR b kd le l1 l2 (rs0 p) = (nbS b true (cpB b l1 l2 p).1 (rs0 (cpB b l1 l2 p).2.1), 0, nbN b true (cpB b l1 l2 p).1 (rs0 (cpB b l1 l2 p).2.1), (cpA b l1 p).1, false) := by
 have q := (ex_st (b := b) (far := false) (y := (nxR b l1 p).1) (p := (nxR b l1 p).2.1)).2 h4
 rw [nt_f h h2 h3, q.1, q.2.1]
 have e : syS b l2 (rs0 (exR b false (nxR b l1 p).1 (nxR b l1 p).2.1).2.1) = rs0 (cpB b l1 l2 p).2.1 := by
  rw [syS_0 rfl]
  show (⟨(cpB b l1 l2 p).2.1, (cpB b l1 l2 p).2.2⟩ : Rs) = _
  rw [h5]
 have e2 : syN b l2 (rs0 (exR b false (nxR b l1 p).1 (nxR b l1 p).2.1).2.1) = (cpB b l1 l2 p).1 := syN_0 rfl
 rw [e, e2]; rfl
theorem nt_g (h : kd ≠ 0) (h2 : (nxR b l1 p).2.2 = 0) (h3 : 256 < (nxR b l1 p).1) (h4 : (cpA b l1 p).2.2 = 0) (h5 : (cpB b l1 l2 p).2.2 = 0) (h6 : (cpC b l1 l2 p).2.2 ≠ 0) : (stR b kd le l1 l2 (rs0 p)).1.e = (cpC b l1 l2 p).2.2 := by
 rw [nt_f3 h h2 h3 h4 h5]
 exact (ex_st (b := b) (far := true) (y := (cpB b l1 l2 p).1) (p := (cpB b l1 l2 p).2.1)).1.symm
theorem nt_h (h : kd ≠ 0) (h2 : (nxR b l1 p).2.2 = 0) (h3 : 256 < (nxR b l1 p).1) (h4 : (cpA b l1 p).2.2 = 0) (h5 : (cpB b l1 l2 p).2.2 = 0) (h6 : (cpC b l1 l2 p).2.2 = 0) : stR b kd le l1 l2 (rs0 p) = (rs0 (cpC b l1 l2 p).2.1, 0, (cpC b l1 l2 p).1, (cpA b l1 p).1, false) := by
 have q := (ex_st (b := b) (far := true) (y := (cpB b l1 l2 p).1) (p := (cpB b l1 l2 p).2.1)).2 h6
 rw [nt_f3 h h2 h3 h4 h5, q.1, q.2.1]; rfl
end
theorem rNx_1 (b : List UInt8) (n : Nat) (hn : n = b.length) (hN : n ≤ 1000000) (p : Nat) (hp : p ≤ 8 * n) (kd le : Nat) (la : Bool) (l1 l2 : List UInt8) (n1 n2 : Nat) (hn1 : n1 = l1.length) (hn2 : n2 = l2.length) (hk : 1 ≤ kd ∧ kd ≤ 2) (hT1 : canE l1 15 = 0) (hT2 : canE l2 15 = 0) (x1 x2 x3 x4 : Nat × Nat × Nat) (h1 : nxR b l1 p = x1) (h2 : exR b false x1.1 x1.2.1 = x2) (h3 : nxR b l2 x2.2.1 = x3) (h4 : exR b true x3.1 x3.2.1 = x4) : SpecH false Try.prog 32 [.agg [u8D kd, bD la, nD le, .sl false n1 1 (l1.map dB), .sl false n2 1 (l2.map dB)], .sl false n 1 (b.map dB), nD p] [] (nxtD (nxtR (stR b kd le l1 l2 (rs0 p)))) [] := by
 have g1 := (canE_0 hT1).1
 have g2 := (canE_0 hT2).1
 have hk0 : kd ≠ 0 := by omega
 have k2 : cpA b l1 p = x2 := by unfold cpA; rw [h1]; exact h2
 have k3 : cpB b l1 l2 p = x3 := by unfold cpB; rw [k2]; exact h3
 have k4 : cpC b l1 l2 p = x4 := by unfold cpC; rw [k3]; exact h4
 have a1 : x1.1 ≤ 320 := by have := nxR_bd b l1 p; rw [h1] at this; omega
 have a2 : x1.2.2 = 0 → x1.2.1 ≤ 8 * n := fun q => by rw [← h1] at q ⊢; have := (nxR_ok q).2; omega
 have a3 : x2.2.2 = 0 → x2.2.1 ≤ 8 * n := fun q => by rw [← h2] at q ⊢; have := (ex_st.2 q).2.2.2; omega
 have a4 : x3.1 ≤ 320 := by have := nxR_bd b l2 x2.2.1; rw [h3] at this; omega
 have a5 : x3.2.2 = 0 → x3.2.1 ≤ 8 * n := fun q => by rw [← h3] at q ⊢; have := (nxR_ok q).2; omega
 have Fc : x1.2.2 ≠ 0 → (stR b kd le l1 l2 (rs0 p)).1.e = x1.2.2 := fun q => by rw [nt_c hk0 (by rw [h1]; exact q), h1]
 have Fd : x1.2.2 = 0 → x1.1 < 256 → stR b kd le l1 l2 (rs0 p) = (rs0 x1.2.1, x1.1, 0, 0, false) := fun q q2 => by rw [nt_d hk0 (by rw [h1]; exact q) (by rw [h1]; exact q2), h1]
 have Fe : x1.2.2 = 0 → x1.1 = 256 → stR b kd le l1 l2 (rs0 p) = (rs0 x1.2.1, 0, 0, 0, true) := fun q q2 => by rw [nt_e hk0 (by rw [h1]; exact q) (by rw [h1]; exact q2), h1]
 have Ff : x1.2.2 = 0 → 256 < x1.1 → x2.2.2 ≠ 0 → (stR b kd le l1 l2 (rs0 p)).1.e = x2.2.2 := fun q q2 q3 => by rw [nt_f1 hk0 (by rw [h1]; exact q) (by rw [h1]; exact q2) (by rw [k2]; exact q3), k2]
 have Fg : x1.2.2 = 0 → 256 < x1.1 → x2.2.2 = 0 → x3.2.2 ≠ 0 → (stR b kd le l1 l2 (rs0 p)).1.e = x3.2.2 := fun q q2 q3 q4 => by rw [nt_f2 hk0 (by rw [h1]; exact q) (by rw [h1]; exact q2) (by rw [k2]; exact q3) (by rw [k3]; exact q4), k3]
 have Fh : x1.2.2 = 0 → 256 < x1.1 → x2.2.2 = 0 → x3.2.2 = 0 → x4.2.2 ≠ 0 → (stR b kd le l1 l2 (rs0 p)).1.e = x4.2.2 := fun q q2 q3 q4 q5 => by rw [nt_g hk0 (by rw [h1]; exact q) (by rw [h1]; exact q2) (by rw [k2]; exact q3) (by rw [k3]; exact q4) (by rw [k4]; exact q5), k4]
 have Fi : x1.2.2 = 0 → 256 < x1.1 → x2.2.2 = 0 → x3.2.2 = 0 → x4.2.2 = 0 → stR b kd le l1 l2 (rs0 p) = (rs0 x4.2.1, 0, x4.1, x2.1, false) := fun q q2 q3 q4 q5 => by rw [nt_h hk0 (by rw [h1]; exact q) (by rw [h1]; exact q2) (by rw [k2]; exact q3) (by rw [k3]; exact q4) (by rw [k4]; exact q5), k4, k2]
 subst h1
 subst h2
 subst h3
 subst h4
 refine SpecH.run T_ok mixed Try.func32 rfl rfl rfl trivial rfl 1000 64 (fun R ok => (.s 15 (.f ((↑kd : Int) == 0) (by (refine decide_eq_false ?_; (omega))) (.s 7 (.cl 63 false [] (.fn q63 (@rMade (l1) (n1) om om)) (.s 3 (.call 62 false [] (true && (true && Nat.ble (0 + List.length (mdL l1) * 2) (List.length (List.flatMap mdD (mdL l1))) && true && closedL (bif true && Nat.beq (List.length (mdL l1) * 2) (List.length (List.flatMap mdD (mdL l1))) then List.flatMap mdD (mdL l1) else List.take (List.length (mdL l1) * 2) (List.drop 0 (List.flatMap mdD (mdL l1))))) && true) zkx2 ([D.sl (Nat.ble 1 (List.length (mdL l1))) (List.length (mdL l1)) 2 (bif true && Nat.beq (List.length (mdL l1) * 2) (List.length (List.flatMap mdD (mdL l1))) then List.flatMap mdD (mdL l1) else List.take (List.length (mdL l1) * 2) (List.drop 0 (List.flatMap mdD (mdL l1)))), D.sl false n 1 (List.map dB b), nD p]) _ (by exact (And.intro (D.sim.slw rfl ((seg_fm (f := mdD) (k := 2) (fun _ => rfl) (mdL l1) (0) (List.length (mdL l1)) (0) (List.length (mdL l1) * 2) (by first | rfl | omega) (by first | rfl | omega)).trans (by (simp; done)))) (And.intro (D.sim.refl _) (And.intro (D.sim.refl _) trivial)))) (true) wr _ _ _ (CallOk.fn (FnOk.of Try.func62 rfl rfl) (@rRead (l1) (List.length (mdL l1)) (by (exact mdL_len _)) (by (rw [mdL_len]; omega)) om (b) (n) om om (p) om)) (.s 13 (.br ((↑(Prod.snd (Prod.snd (nxR b l1 p))) : Int) != 0) (fun p0 => have p0f := of_bne_t p0; (.s 12 (.out [] [] (D.tup [D.agg [D.v (Value.int .u8 0), iD 0, iD 0], D.v (.bool false), iD 0, nD (Prod.snd (Prod.snd (nxR b l1 p)))]) [] R (ok _ _ (by ( have q := Fc om; exact nxt_e om om)) wr)))) (fun p0 => have p0f := of_bne_f p0; (.s 3 (.br (decide ((↑(Prod.fst (nxR b l1 p)) : Int) < 256)) (fun p1 => have p1f := odt p1; (.s 2 (.opt (wrapO .u8 (↑(Prod.fst (nxR b l1 p)) : Int)) (D.v (Value.int .u8 (↑(Prod.fst (nxR b l1 p)) : Int))) (wrapO_u8 om) (.s 12 (.out [] [] (D.tup [D.agg [D.v (Value.int .u8 (↑(Prod.fst (nxR b l1 p)) : Int)), iD 0, iD 0], D.v (.bool false), nD (Prod.fst (Prod.snd (nxR b l1 p))), iD 0]) [] R (ok _ _ (by ( rw [Fd om om]; exact nxt_o rfl ⟨by show (((nxR b l1 p).1 : Nat) : Int) = _; omega, rfl, rfl, rfl⟩ rfl)) wr)))))) (fun p1 => have p1f := odf p1; (.s 3 (.br ((↑(Prod.fst (nxR b l1 p)) : Int) == 256) (fun p2 => have p2f := eq_of_beq p2; (.s 12 (.out [] [] (D.tup [D.agg [D.v (Value.int .u8 0), iD 0, iD 0], D.v (.bool true), nD (Prod.fst (Prod.snd (nxR b l1 p))), iD 0]) [] R (ok _ _ (by ( rw [Fe om om]; rfl)) wr)))) (fun p2 => have p2f := of_beq_f p2; (.s 4 (.cl 64 false [] (.fn q64 (@rEx_l (b) (n) om om (Prod.fst (Prod.snd (nxR b l1 p))) (by (simp_all; done)) (Prod.fst (nxR b l1 p)) om)) (.s 13 (.br ((↑(Prod.snd (Prod.snd (exR b false (Prod.fst (nxR b l1 p)) (Prod.fst (Prod.snd (nxR b l1 p)))))) : Int) != 0) (fun p3 => have p3f := of_bne_t p3; (.s 12 (.out [] [] (D.tup [D.agg [D.v (Value.int .u8 0), iD 0, iD 0], D.v (.bool false), iD 0, nD (Prod.snd (Prod.snd (exR b false (Prod.fst (nxR b l1 p)) (Prod.fst (Prod.snd (nxR b l1 p))))))]) [] R (ok _ _ (by ( have q := Ff om om om; exact nxt_e om om)) wr)))) (fun p3 => have p3f := of_bne_f p3; (.s 7 (.cl 63 false [] (.fn q63 (@rMade (l2) (n2) om om)) (.s 3 (.call 62 false [] (true && (true && Nat.ble (0 + List.length (mdL l2) * 2) (List.length (List.flatMap mdD (mdL l2))) && true && closedL (bif true && Nat.beq (List.length (mdL l2) * 2) (List.length (List.flatMap mdD (mdL l2))) then List.flatMap mdD (mdL l2) else List.take (List.length (mdL l2) * 2) (List.drop 0 (List.flatMap mdD (mdL l2))))) && true) zkx2 ([D.sl (Nat.ble 1 (List.length (mdL l2))) (List.length (mdL l2)) 2 (bif true && Nat.beq (List.length (mdL l2) * 2) (List.length (List.flatMap mdD (mdL l2))) then List.flatMap mdD (mdL l2) else List.take (List.length (mdL l2) * 2) (List.drop 0 (List.flatMap mdD (mdL l2)))), D.sl false n 1 (List.map dB b), nD (Prod.fst (Prod.snd (exR b false (Prod.fst (nxR b l1 p)) (Prod.fst (Prod.snd (nxR b l1 p))))))]) _ (by exact (And.intro (D.sim.slw rfl ((seg_fm (f := mdD) (k := 2) (fun _ => rfl) (mdL l2) (0) (List.length (mdL l2)) (0) (List.length (mdL l2) * 2) (by first | rfl | omega) (by first | rfl | omega)).trans (by (simp; done)))) (And.intro (D.sim.refl _) (And.intro (D.sim.refl _) trivial)))) (true) wr _ _ _ (CallOk.fn (FnOk.of Try.func62 rfl rfl) (@rRead (l2) (List.length (mdL l2)) (by (exact mdL_len _)) (by (rw [mdL_len]; omega)) om (b) (n) om om (Prod.fst (Prod.snd (exR b false (Prod.fst (nxR b l1 p)) (Prod.fst (Prod.snd (nxR b l1 p)))))) om)) (.s 13 (.br ((↑(Prod.snd (Prod.snd (nxR b l2 (Prod.fst (Prod.snd (exR b false (Prod.fst (nxR b l1 p)) (Prod.fst (Prod.snd (nxR b l1 p))))))))) : Int) != 0) (fun p4 => have p4f := of_bne_t p4; (.s 12 (.out [] [] (D.tup [D.agg [D.v (Value.int .u8 0), iD 0, iD 0], D.v (.bool false), iD 0, nD (Prod.snd (Prod.snd (nxR b l2 (Prod.fst (Prod.snd (exR b false (Prod.fst (nxR b l1 p)) (Prod.fst (Prod.snd (nxR b l1 p)))))))))]) [] R (ok _ _ (by ( have q := Fg om om om om; exact nxt_e om om)) wr)))) (fun p4 => have p4f := of_bne_f p4; (.s 4 (.cl 64 false [] (.fn q64 (@rEx_f (b) (n) om om (Prod.fst (Prod.snd (nxR b l2 (Prod.fst (Prod.snd (exR b false (Prod.fst (nxR b l1 p)) (Prod.fst (Prod.snd (nxR b l1 p))))))))) om (Prod.fst (nxR b l2 (Prod.fst (Prod.snd (exR b false (Prod.fst (nxR b l1 p)) (Prod.fst (Prod.snd (nxR b l1 p)))))))) om)) (.s 13 (.br ((↑(Prod.snd (Prod.snd (exR b true (Prod.fst (nxR b l2 (Prod.fst (Prod.snd (exR b false (Prod.fst (nxR b l1 p)) (Prod.fst (Prod.snd (nxR b l1 p)))))))) (Prod.fst (Prod.snd (nxR b l2 (Prod.fst (Prod.snd (exR b false (Prod.fst (nxR b l1 p)) (Prod.fst (Prod.snd (nxR b l1 p)))))))))))) : Int) != 0) (fun p5 => have p5f := of_bne_t p5; (.s 12 (.out [] [] (D.tup [D.agg [D.v (Value.int .u8 0), iD 0, iD 0], D.v (.bool false), iD 0, nD (Prod.snd (Prod.snd (exR b true (Prod.fst (nxR b l2 (Prod.fst (Prod.snd (exR b false (Prod.fst (nxR b l1 p)) (Prod.fst (Prod.snd (nxR b l1 p)))))))) (Prod.fst (Prod.snd (nxR b l2 (Prod.fst (Prod.snd (exR b false (Prod.fst (nxR b l1 p)) (Prod.fst (Prod.snd (nxR b l1 p))))))))))))]) [] R (ok _ _ (by ( have q := Fh om om om om om; exact nxt_e om om)) wr)))) (fun p5 => have p5f := of_bne_f p5; (.s 14 (.out [] [] (D.tup [D.agg [D.v (Value.int .u8 0), nD (Prod.fst (exR b true (Prod.fst (nxR b l2 (Prod.fst (Prod.snd (exR b false (Prod.fst (nxR b l1 p)) (Prod.fst (Prod.snd (nxR b l1 p)))))))) (Prod.fst (Prod.snd (nxR b l2 (Prod.fst (Prod.snd (exR b false (Prod.fst (nxR b l1 p)) (Prod.fst (Prod.snd (nxR b l1 p))))))))))), nD (Prod.fst (exR b false (Prod.fst (nxR b l1 p)) (Prod.fst (Prod.snd (nxR b l1 p)))))], D.v (.bool false), nD (Prod.fst (Prod.snd (exR b true (Prod.fst (nxR b l2 (Prod.fst (Prod.snd (exR b false (Prod.fst (nxR b l1 p)) (Prod.fst (Prod.snd (nxR b l1 p)))))))) (Prod.fst (Prod.snd (nxR b l2 (Prod.fst (Prod.snd (exR b false (Prod.fst (nxR b l1 p)) (Prod.fst (Prod.snd (nxR b l1 p)))))))))))), iD 0]) [] R (ok _ _ (by ( rw [Fi om om om om om]; rfl)) wr)))))))))))))))))))))))))))))))))))) (by kernel_rfl)
end Vp
end Go.Proofs.Ytegjeagfcfhbeaa
namespace Go.Proofs.Ytegjeagfcfhbeaa
open Go.RowKit Go.Bw Go.Vx
namespace Vp
theorem zlx0 {p : Prop} (h : p := by ( have h9 := dlX_ b l q om; have h8 := h9.s; have h7 := h9.x; have h6 := h9.t; have h5 := h9.c; have h4 := h9.d; have h3 := h9.e; have h2 := h9.f; have h1 := rnt_c (dlX b l q); have q1 := tkE_le (b := b) (p := (nxR b l q).2.1) (m := rb (nxR b l q).1) om; omega)) : p := h
theorem zlx1 {p : Prop} (h : p := by (refine iv_eq ?_; (omega))) : p := h
theorem zlx2 {p : Prop} (h : p := by ( have h9 := dlX_ b l q om; have h8 := h9.s; have h7 := h9.x; have h6 := h9.t; have h5 := h9.c; have h4 := h9.d; have h3 := h9.e; have h2 := h9.f; have h1 := rnt_c (dlX b l q); rw [h6, rp_end (z := rnT (dlX b l q)) om])) : p := h
theorem zlx3 {p : Prop} (h : p := by (simp only [repO_len, List.length_map, Nat.mul_one, Nat.beq_refl, Bool.true_and, Bool.and_true];  have h9 := dlX_ b l q om; have h8 := h9.s; have h7 := h9.x; have h6 := h9.t; have h5 := h9.c; have h4 := h9.d; have h3 := h9.e; have h2 := h9.f; have h1 := rnt_c (dlX b l q); refine Nat.ble_eq_true_of_le ?_; omega)) : p := h
theorem zlx4 {p : Prop} (h : p := by show rnT (dlX b l q) - (j + 1) < rnT (dlX b l q) - j; clear next2 last2 next1 last1; ( have h9 := dlX_ b l q om; have h8 := h9.s; have h7 := h9.x; have h6 := h9.t; have h5 := h9.c; have h4 := h9.d; have h3 := h9.e; have h2 := h9.f; have h1 := rnt_c (dlX b l q); have q1 := tkE_le (b := b) (p := (nxR b l q).2.1) (m := rb (nxR b l q).1) om; omega)) : p := h
theorem zlx5 {p : Prop} (h : p := by (refine iv_eq ?_;  have h9 := dlX_ b l q om; have h8 := h9.s; have h7 := h9.x; have h6 := h9.t; have h5 := h9.c; have h4 := h9.d; have h3 := h9.e; have h2 := h9.f; have h1 := rnt_c (dlX b l q); omega)) : p := h
theorem zlx6 {p : Prop} (h : p := by (rw [List.length_append, List.length_replicate];  have h9 := dlX_ b l q om; have h8 := h9.s; have h7 := h9.x; have h6 := h9.t; have h5 := h9.c; have h4 := h9.d; have h3 := h9.e; have h2 := h9.f; have h1 := rnt_c (dlX b l q); omega)) : p := h
theorem zlx7 {p : Prop} (h : p := by ( have h9 := dlX_ b l q om; have h8 := h9.s; have h7 := h9.x; have h6 := h9.t; have h5 := h9.c; have h4 := h9.d; have h3 := h9.e; have h2 := h9.f; have h1 := rnt_c (dlX b l q); exact dl_4 hR om om om om)) : p := h
theorem zlx8 {p : Prop} (h : p := by show N - List.length (o ++ List.replicate (rnT (dlX b l q)) (rnV (dlX b l q) o)) < N - List.length o; clear next1 last1; (rw [List.length_append, List.length_replicate];  have h9 := dlX_ b l q om; have h8 := h9.s; have h7 := h9.x; have h6 := h9.t; have h5 := h9.c; have h4 := h9.d; have h3 := h9.e; have h2 := h9.f; have h1 := rnt_c (dlX b l q); omega)) : p := h
theorem zlx9 {p : Prop} (h : p := by ( have q := rnt_c' s x; exact tm_ om (by first | exact decide_eq_true om | exact decide_eq_false om))) : p := h
theorem zlx10 {p : Prop} (h : p := by ( have h9 := dlX_ b l q om; have h8 := h9.s; have h7 := h9.x; have h6 := h9.t; have h5 := h9.c; have h4 := h9.d; have h3 := h9.e; have h2 := h9.f; have h1 := rnt_c (dlX b l q); omega)) : p := h
theorem zlx11 {p : Prop} (h : p := by rw [List.length_append, List.length_replicate]; omega) : p := h
theorem zlx12 {p : Prop} (h : p := by ( have h9 := dlX_ b l q om; have h8 := h9.s; have h7 := h9.x; have h6 := h9.t; have h5 := h9.c; have h4 := h9.d; have h3 := h9.e; have h2 := h9.f; have h1 := rnt_c (dlX b l q); have q1 := dl_3 hR om om om om; rw [q1] at h; exact absurd h (by decide))) : p := h
theorem zlx13 {p : Prop} (h : p := by ( have q1 := dl_0 hR om; rw [q1]; first | done | rfl)) : p := h
theorem zlx14 {p : Prop} (h : p := by ( have h9 := dlX_ b l q om; have h8 := h9.s; have h7 := h9.x; have h6 := h9.t; have h5 := h9.c; have h4 := h9.d; have h3 := h9.e; have h2 := h9.f; have h1 := rnt_c (dlX b l q); have q1 := dl_3 hR om om om om; rw [q1]; first | done | rfl)) : p := h
theorem zlx15 {p : Prop} (h : p := by (simp only [fm_length (k := 2) (fun (c : Nat × Nat) => (rfl : (mdD c).length = 2)), Nat.zero_add, Bool.true_and, Bool.and_true, Nat.beq_refl, cond_true]; rw [Bool.and_eq_true]; exact ⟨Nat.ble_eq_true_of_le (Nat.le_refl _), cl_fm (fun _ => rfl) _⟩)) : p := h
theorem zlx16 {p : Prop} (h : p := by exact (And.intro (D.sim.slw rfl ((seg_fm (f := mdD) (k := 2) (fun _ => rfl) (mdL l) (0) (List.length (mdL l)) (0) (List.length (mdL l) * 2) (by first | rfl | omega) (by first | rfl | omega)).trans (by (simp; done)))) (And.intro (D.sim.refl _) (And.intro (D.sim.refl _) trivial)))) : p := h
theorem zlx17 {p : Prop} (h : p := by ((refine and_tI ?_ ?_) <;> (repeat' (first | (refine and_tI ?_ ?_) | (with_reducible rfl) | (refine decide_eq_true ?_) | (refine Nat.ble_eq_true_of_le ?_) | (refine nbeq ?_))) <;> (omega))) : p := h
theorem zlx18 {p : Prop} (h : p := by ( have h9 := dlX_ b l q om; have h8 := h9.s; have h7 := h9.x; have h6 := h9.t; have h5 := h9.c; have h4 := h9.d; have h3 := h9.e; have h2 := h9.f; have h1 := rnt_c (dlX b l q); exact rv_16 om om)) : p := h
theorem zlx19 {p : Prop} (h : p := by ( have h9 := dlX_ b l q om; have h8 := h9.s; have h7 := h9.x; have h6 := h9.t; have h5 := h9.c; have h4 := h9.d; have h3 := h9.e; have h2 := h9.f; have h1 := rnt_c (dlX b l q); exact rv_1 (r := dlX b l q) om)) : p := h
theorem zlx20 {p : Prop} (h : p := by ( have h9 := dlX_ b l q om; have h8 := h9.s; have h7 := h9.x; have h6 := h9.t; have h5 := h9.c; have h4 := h9.d; have h3 := h9.e; have h2 := h9.f; have h1 := rnt_c (dlX b l q); exact rv_z om)) : p := h
def dlX (b l : List UInt8) (p : Nat) : Rn := ⟨(nxR b l p).1, tkV b (nxR b l p).2.1 (rb (nxR b l p).1)⟩
def dlF (b l : List UInt8) (N : Nat) : Nat → Nat → List UInt8 → List UInt8 × Nat × Nat
 | 0, p, o => (o, p, 0)
 | k + 1, p, o => if N ≤ o.length then (o, p, 0) else if (nxR b l p).2.2 ≠ 0 then ([], 0, (nxR b l p).2.2)
  else if tkE b (nxR b l p).2.1 (rb (nxR b l p).1) ≠ 0 then ([], 0, tkE b (nxR b l p).2.1 (rb (nxR b l p).1))
  else if (dlX b l p).s = 16 ∧ o.length = 0 ∨ N < o.length + rnT (dlX b l p) then ([], 0, 132)
  else dlF b l N k ((nxR b l p).2.1 + rb (nxR b l p).1) (o ++ List.replicate (rnT (dlX b l p)) (rnV (dlX b l p) o))
def dlR (b l : List UInt8) (N p : Nat) : List UInt8 × Nat × Nat := lk b (dlF b l N N p [])
theorem dlR_eq (b l : List UInt8) (N p : Nat) : dlR b l N p = dlF b l N N p [] := lk_eq _ _
theorem dl_end {b l : List UInt8} {N k p : Nat} {o : List UInt8} (h : N ≤ o.length) : dlF b l N k p o = (o, p, 0) := by
 cases k with
 | zero => rfl
 | succ k => rw [dlF, if_pos h]
theorem dl_fuel (b l : List UInt8) (N : Nat) : ∀ (k m p : Nat) (o : List UInt8), N - o.length ≤ k → N - o.length ≤ m → dlF b l N k p o = dlF b l N m p o
 | 0, m, p, o, h, _ => by rw [dl_end (k := m) (by omega)]; rfl
 | k + 1, 0, p, o, _, h => by rw [dl_end (k := k + 1) (by omega)]; rfl
 | k + 1, m + 1, p, o, h1, h2 => by
  rw [dlF, dlF]
  split
  ·rfl
  ·split
   ·rfl
   ·split
    ·rfl
    ·split
     ·rfl
     ·have := rnT_pos (dlX b l p)
      exact dl_fuel b l N k m _ _ zlx11 zlx11
section
variable {b l : List UInt8} {N p : Nat} {o : List UInt8} {R : List UInt8 × Nat × Nat} (hR : dlF b l N (N - o.length) p o = R)
include hR
theorem dl_0 (h : N ≤ o.length) : R = (o, p, 0) := by rw [← hR, dl_end h]
theorem dl_1 (h : ¬ N ≤ o.length) (h1 : (nxR b l p).2.2 ≠ 0) : R = ([], 0, (nxR b l p).2.2) := by
 rw [← hR, show N - o.length = (N - o.length - 1) + 1 from by omega, dlF, if_neg h, if_pos h1]
theorem dl_2 (h : ¬ N ≤ o.length) (h1 : (nxR b l p).2.2 = 0) (h2 : tkE b (nxR b l p).2.1 (rb (nxR b l p).1) ≠ 0) : R = ([], 0, tkE b (nxR b l p).2.1 (rb (nxR b l p).1)) := by
 rw [← hR, show N - o.length = (N - o.length - 1) + 1 from by omega, dlF, if_neg h, if_neg (by omega), if_pos h2]
theorem dl_3 (h : ¬ N ≤ o.length) (h1 : (nxR b l p).2.2 = 0) (h2 : tkE b (nxR b l p).2.1 (rb (nxR b l p).1) = 0) (h3 : (nxR b l p).1 = 16 ∧ o.length = 0 ∨ N < o.length + rnT (dlX b l p)) : R = ([], 0, 132) := by
 rw [← hR, show N - o.length = (N - o.length - 1) + 1 from by omega, dlF, if_neg h, if_neg (by omega), if_neg (by omega), if_pos (show (dlX b l p).s = 16 ∧ o.length = 0 ∨ N < o.length + rnT (dlX b l p) from h3)]
theorem dl_4 (h : ¬ N ≤ o.length) (h1 : (nxR b l p).2.2 = 0) (h2 : tkE b (nxR b l p).2.1 (rb (nxR b l p).1) = 0) (h3 : ¬ ((nxR b l p).1 = 16 ∧ o.length = 0 ∨ N < o.length + rnT (dlX b l p))) : dlF b l N (N - (o ++ List.replicate (rnT (dlX b l p)) (rnV (dlX b l p) o)).length) ((nxR b l p).2.1 + rb (nxR b l p).1) (o ++ List.replicate (rnT (dlX b l p)) (rnV (dlX b l p) o)) = R := by
 have := rnT_pos (dlX b l p)
 rw [← hR, show N - o.length = (N - o.length - 1) + 1 from by omega, dlF, if_neg h, if_neg (by omega), if_neg (by omega), if_neg (show ¬ ((dlX b l p).s = 16 ∧ o.length = 0 ∨ N < o.length + rnT (dlX b l p)) from h3)]
 exact dl_fuel b l N _ _ _ _ (Nat.le_refl _) zlx11
end
theorem dl_ln (b l : List UInt8) (hl : l.length ≤ 19) (N : Nat) : ∀ (k p : Nat) (o : List UInt8) (r : List Rn) (many : Nat), many = o.length → N - many ≤ k → many ≤ N → (r.length = 0 ↔ o.length = 0) → (∀ q, strF N (r ++ q) [] = strF N q o) →
  ((lnF b l N k (rs0 p) many r).1.e = 0 → strF N (lnF b l N k (rs0 p) many r).2 [] = ((dlF b l N k p o).1, 0) ∧ (dlF b l N k p o).2 = ((lnF b l N k (rs0 p) many r).1.p, 0)) ∧ ((lnF b l N k (rs0 p) many r).1.e ≠ 0 → dlF b l N k p o = ([], 0, (lnF b l N k (rs0 p) many r).1.e))
 | 0, p, o, r, many, hm, h1, h2, h3, h4 => by
  have e : o.length = N := by omega
  have h5 := h4 []
  rw [List.append_nil, strF, if_pos e] at h5
  exact ⟨fun _ => ⟨h5, rfl⟩, fun q => absurd rfl q⟩
 | k + 1, p, o, r, many, hm, h1, h2, h3, h4 => by
  rw [lnF, dlF]
  by_cases c1 : N ≤ many
  ·rw [if_pos (.inl c1), if_pos (by omega)]
   have h5 := h4 []
   rw [List.append_nil, strF, if_pos (by omega)] at h5
   exact ⟨fun _ => ⟨h5, rfl⟩, fun q => absurd rfl q⟩
  ·rw [if_neg (fun q => q.elim c1 (fun q => q rfl)), if_neg (by omega)]
   have s1 : syS b l (rs0 p) = ⟨(nxR b l p).2.1, (nxR b l p).2.2⟩ := syS_0 rfl
   have n1 : syN b l (rs0 p) = (nxR b l p).1 := syN_0 rfl
   by_cases c2 : (nxR b l p).2.2 = 0
   ·rw [if_neg (by omega)]
    have s1 : syS b l (rs0 p) = rs0 (nxR b l p).2.1 := by rw [s1, c2]
    have s2 : tkS b (rb (syN b l (rs0 p))) (syS b l (rs0 p)) = ⟨(nxR b l p).2.1 + rb (nxR b l p).1, tkE b (nxR b l p).2.1 (rb (nxR b l p).1)⟩ := by rw [s1, n1, tkS_0 rfl]
    have x1 : lnX b l (rs0 p) = dlX b l p := by unfold lnX dlX; rw [s1, n1, tkN_0 rfl]
    by_cases c3 : tkE b (nxR b l p).2.1 (rb (nxR b l p).1) = 0
    ·rw [if_neg (by omega)]
     have s3 : ∀ c : Bool, fl (tkS b (rb (syN b l (rs0 p))) (syS b l (rs0 p))) c 132 = fl (rs0 ((nxR b l p).2.1 + rb (nxR b l p).1)) c 132 := fun c => by rw [s2, c3]
     have hx := nxR_bd b l p
     have hv := tkV_lt b (nxR b l p).2.1 (rb (nxR b l p).1)
     have hp := rnT_pos (dlX b l p)
     have es : (dlX b l p).s = (nxR b l p).1 := rfl
     by_cases c4 : (dlX b l p).s = 16 ∧ o.length = 0 ∨ N < o.length + rnT (dlX b l p)
     ·rw [if_pos c4]
      have hb : lnB N many r.length (lnX b l (rs0 p)) = false := by
       rw [x1]; unfold lnB
       rw [Bool.and_eq_false_iff, Bool.or_eq_false_iff, decide_eq_false_iff_not, decide_eq_false_iff_not, decide_eq_false_iff_not]
       rcases c4 with c4 | c4
       ·right; refine ⟨by omega, ?_⟩; have := h3.2 c4.2; omega
       ·left; omega
      have hc : lnC b l N (rs0 p) many r.length = ⟨(nxR b l p).2.1 + rb (nxR b l p).1, 132⟩ := by
       unfold lnC; rw [hb, s3, fl_f rfl]
      rw [hc, lnF_end (.inr (by show (132 : Nat) ≠ 0; decide))]
      exact ⟨fun q => absurd q (by show (132 : Nat) ≠ 0; decide), fun _ => rfl⟩
     ·rw [if_neg c4]
      have c5 : ¬ ((dlX b l p).s = 16 ∧ o.length = 0) := fun q => c4 (.inl q)
      have hb : lnB N many r.length (lnX b l (rs0 p)) = true := by
       rw [x1]; unfold lnB
       rw [Bool.and_eq_true, Bool.or_eq_true, decide_eq_true_eq, decide_eq_true_eq, decide_eq_true_eq]
       refine ⟨by omega, ?_⟩
       by_cases q : (dlX b l p).s = 16
       ·right
        have : r.length ≠ 0 := fun z => c5 ⟨q, h3.1 z⟩
        omega
       ·exact .inl q
      have hc : lnC b l N (rs0 p) many r.length = rs0 ((nxR b l p).2.1 + rb (nxR b l p).1) := by
       unfold lnC; rw [hb, s3, fl_t]
      rw [hc, x1]
      refine dl_ln b l hl N k _ _ (r ++ [dlX b l p]) (many + rnT (dlX b l p)) (by rw [List.length_append, List.length_replicate, hm]) (by omega) (by omega) ?_ (fun q => ?_)
      ·rw [List.length_append, List.length_append, List.length_replicate, List.length_singleton]; omega
      ·rw [List.append_assoc, h4, List.singleton_append, strF, if_neg, if_neg c5, if_neg (by omega)]
       intro z
       rcases z with z | z
       ·omega
       ·have : p2 (dlX b l p).s = 2 ^ rb (nxR b l p).1 := rfl
        have e2 : (dlX b l p).x = tkV b (nxR b l p).2.1 (rb (nxR b l p).1) := rfl
        omega
    ·rw [if_pos c3]
     have hc : lnC b l N (rs0 p) many r.length = ⟨(nxR b l p).2.1 + rb (nxR b l p).1, tkE b (nxR b l p).2.1 (rb (nxR b l p).1)⟩ := by
      unfold lnC; rw [s2]; exact fl_x c3
     rw [hc, lnF_end (.inr c3)]
     exact ⟨fun q => absurd q c3, fun _ => rfl⟩
   ·rw [if_pos c2]
    have hc : lnC b l N (rs0 p) many r.length = ⟨(nxR b l p).2.1, (nxR b l p).2.2⟩ := by
     unfold lnC; rw [s1]
     have z : tkS b (rb (syN b l (rs0 p))) ⟨(nxR b l p).2.1, (nxR b l p).2.2⟩ = ⟨(nxR b l p).2.1, (nxR b l p).2.2⟩ := tkS_x c2
     rw [z]; exact fl_x c2
    rw [hc, lnF_end (.inr c2)]
    exact ⟨fun q => absurd q c2, fun _ => rfl⟩
theorem dl_lnR (b l : List UInt8) (hl : l.length ≤ 19) (N p : Nat) : ((lnS b l N (rs0 p)).e = 0 → dlR b l N p = (lnO b l N (rs0 p), (lnS b l N (rs0 p)).p, 0)) ∧ ((lnS b l N (rs0 p)).e ≠ 0 → dlR b l N p = ([], 0, (lnS b l N (rs0 p)).e)) := by
 have h := dl_ln b l hl N N p [] [] 0 rfl (by omega) (Nat.zero_le _) (by simp) (fun q => by rw [List.nil_append])
 rw [dlR_eq]
 unfold lnS lnO
 rw [lnR_eq, strR_eq]
 by_cases c : (lnF b l N N (rs0 p) 0 []).1.e = 0
 ·obtain ⟨h1, h2⟩ := h.1 c
  have e : fl (lnF b l N N (rs0 p) 0 []).1 ((((strF N (lnF b l N N (rs0 p) 0 []).2 []).2 : Nat) : Int) == 0) 132 = (lnF b l N N (rs0 p) 0 []).1 := by rw [h1]; exact fl_t
  rw [e]
  refine ⟨fun _ => ?_, fun q => absurd c q⟩
  rw [h1, ← h2]
 ·rw [fl_x c]
  exact ⟨fun q => absurd q c, fun q => h.2 q⟩
theorem rb_16 {s : Nat} (h : s = 16) : rb s = 2 := by rw [h]; rfl
theorem rb_17 {s : Nat} (h : s = 17) : rb s = 3 := by rw [h]; rfl
theorem rb_18 {s : Nat} (h : s = 18) : rb s = 7 := by rw [h]; rfl
theorem rb_0 {s : Nat} (h : s ≠ 16) (h2 : s ≠ 17) (h3 : s ≠ 18) : rb s = 0 := by unfold rb; rw [if_neg h, if_neg h2, if_neg h3]
theorem rBt (s : Nat) (hs : s ≤ 18) : SpecH false Try.prog 118 [nD s] [] (.tup [nD (rb s), iD 0]) [] := by
 refine SpecH.run T_ok mixed Try.func118 rfl rfl rfl trivial rfl 1000 64 (fun R ok => (.s 12 (.f (decide (18 < (↑s : Int))) (by (refine decide_eq_false ?_; (omega))) (.s 3 (.br ((↑s : Int) == 16) (fun p0 => have p0f := eq_of_beq p0; (.s 2 (.out [] [] (D.tup [iD 2, iD 0]) [] R (ok _ _ (by ( rw [rb_16 om]; rfl)) wr)))) (fun p0 => have p0f := of_beq_f p0; (.s 3 (.br ((↑s : Int) == 17) (fun p1 => have p1f := eq_of_beq p1; (.s 2 (.out [] [] (D.tup [iD 3, iD 0]) [] R (ok _ _ (by ( rw [rb_17 om]; rfl)) wr)))) (fun p1 => have p1f := of_beq_f p1; (.s 3 (.br ((↑s : Int) == 18) (fun p2 => have p2f := eq_of_beq p2; (.s 2 (.out [] [] (D.tup [iD 7, iD 0]) [] R (ok _ _ (by ( rw [rb_18 om]; rfl)) wr)))) (fun p2 => have p2f := of_beq_f p2; (.s 2 (.out [] [] (D.tup [iD 0, iD 0]) [] R (ok _ _ (by ( rw [rb_0 om om om]; rfl)) wr))))))))))))))) (by kernel_rfl)
theorem tm_ {s x : Nat} {a : Int} {c : Bool} (h : ((rnT ⟨s, x⟩ : Nat) : Int) = a) (h2 : decide ((s : Int) = 16) = c) : D.tup [iD a, bD c] = D.tup [nD (rnT ⟨s, x⟩), bD (decide ((s : Int) = 16))] := by rw [← h, ← h2]
theorem rTm (s x : Nat) (hs : s ≤ 18) (hx : x ≤ 1000000) : SpecH false Try.prog 119 [.agg [nD s, nD x]] [] (.tup [nD (rnT ⟨s, x⟩), bD (decide ((s : Int) = 16))]) [] := by
 refine SpecH.run T_ok mixed Try.func119 rfl rfl rfl trivial rfl 1000 64 (fun R ok => (.s 12 (.br ((↑s : Int) == 16) (fun p0 => have p0f := eq_of_beq p0; (.s 8 (.ow ((↑x : Int) + 3) (.s 2 (.out [] [] (D.tup [iD ((↑x : Int) + 3), D.v (.bool true)]) [] R (ok _ _ zlx9 wr)))))) (fun p0 => have p0f := of_beq_f p0; (.s 8 (.br ((↑s : Int) == 17) (fun p1 => have p1f := eq_of_beq p1; (.s 8 (.ow ((↑x : Int) + 3) (.s 2 (.out [] [] (D.tup [iD ((↑x : Int) + 3), D.v (.bool false)]) [] R (ok _ _ zlx9 wr)))))) (fun p1 => have p1f := of_beq_f p1; (.s 8 (.br ((↑s : Int) == 18) (fun p2 => have p2f := eq_of_beq p2; (.s 8 (.ow ((↑x : Int) + 11) (.s 2 (.out [] [] (D.tup [iD ((↑x : Int) + 11), D.v (.bool false)]) [] R (ok _ _ zlx9 wr)))))) (fun p2 => have p2f := of_beq_f p2; (.s 2 (.out [] [] (D.tup [iD 1, D.v (.bool false)]) [] R (ok _ _ zlx9 wr))))))))))))) (by kernel_rfl)
theorem dlF_0 (b l : List UInt8) (N p : Nat) {r : List UInt8 × Nat × Nat} (hr : dlR b l N p = r) : dlF b l N (N - ([] : List UInt8).length) p [] = r := by rw [← hr, dlR_eq]; rfl
structure DlX (b l : List UInt8) (q : Nat) : Prop where
 s : (dlX b l q).s = (nxR b l q).1
 x : (dlX b l q).x = tkV b (nxR b l q).2.1 (rb (nxR b l q).1)
 t : rnT ⟨(nxR b l q).1, tkV b (nxR b l q).2.1 (rb (nxR b l q).1)⟩ = rnT (dlX b l q)
 c : (dlX b l q).x < 128
 d : (nxR b l q).1 ≤ 18
 e : rnT (dlX b l q) ≤ 140
 f : rb (nxR b l q).1 ≤ 7
theorem dlX_ (b l : List UInt8) (q : Nat) (hl : l.length ≤ 19) : DlX b l q := by
 have h3 := rb_le (nxR b l q).1
 have hc : (dlX b l q).x < 128 := by
  have h1 := tkV_lt b (nxR b l q).2.1 (rb (nxR b l q).1)
  have h4 : 2 ^ rb (nxR b l q).1 ≤ 2 ^ 7 := Nat.pow_le_pow_right (by decide) h3.2
  show tkV b (nxR b l q).2.1 (rb (nxR b l q).1) < 128
  omega
 have h5 := rnt_c (dlX b l q)
 have h6 := nxR_bd b l q
 exact ⟨rfl, rfl, rfl, hc, by omega, by omega, h3.2⟩
theorem rLen_o (b : List UInt8) (n : Nat) (hn : n = b.length) (hN : n ≤ 1000000) (l : List UInt8) (k : Nat) (hk : k = l.length) (hl : k ≤ 19) (hT : canE l 15 = 0) (p : Nat) (hp : p ≤ 8 * n) (N : Nat) (hNN : N ≤ 320) (r : List UInt8 × Nat × Nat) (hr : dlR b l N p = r) (h : r.2.2 = 0) : SpecH false Try.prog 86 [.sl false k 1 (l.map dB), .sl false n 1 (b.map dB), nD p, nD N] [] (.tup [.ref 0 0 0 r.1.length 1, nD r.2.1, iD 0]) [⟨r.1.map dB, 5, true⟩] := by
 refine SpecH.run T_ok mixed Try.func86 rfl rfl rfl ⟨pl_bytes _, trivial⟩ rfl 1000 64 (fun R ok => (.s 5 (.cl 63 false [] (.fn q63 (@rMade (l) (k) om om)) (.s 2 (.nils 12 56 1 5 (Hn.inl T_ok mixed false 103 0 (loopAt Try.prog 86 0) (fun (x : (q : Nat) ×' (hq : q ≤ 8 * n) ×' (o : List UInt8) ×' (ho : o.length ≤ N) ×' (hR : dlF b l N (N - o.length) q o = r) ×' Unit) => match x with | ⟨q, hq, o, ho, hR, _⟩ => CutS.mk [(1, D.sl false n 1 (List.map dB b)), (2, nD q), (3, nD N), (11, D.ref 0 0 0 (List.length (mdL l)) 2), (12, (D.ref 8 8 0 (o.length) 1))] [⟨0, 0, 32, 32, .b ⟨List.flatMap mdD (mdL l), 160, true⟩⟩, ⟨8, 8, 56, 56, .b ⟨o.map dB, 5, true⟩⟩] 16) (fun (x : (q : Nat) ×' (hq : q ≤ 8 * n) ×' (o : List UInt8) ×' (ho : o.length ≤ N) ×' (hR : dlF b l N (N - o.length) q o = r) ×' Unit) => match x with | ⟨q, hq, o, ho, hR, _⟩ => N - o.length) [⟨Unit, .exit 0, fun x => match x with | () => CutS.mk [(1, D.sl false n 1 (List.map dB b)), (2, nD r.2.1), (3, nD N), (11, D.ref 0 0 0 (List.length (mdL l)) 2), (12, (D.ref 8 8 0 (r.1.length) 1))] [⟨0, 0, 32, 32, .b ⟨List.flatMap mdD (mdL l), 160, true⟩⟩, ⟨8, 8, 56, 56, .b ⟨r.1.map dB, 5, true⟩⟩] 16⟩] 1000 64 (fun | ⟨q, hq, o, ho, hR, _⟩, Q, next1, last1 => (.s 5 (.br (decide ((↑(List.length o) : Int) < (↑N : Int))) (fun p0 => have p0f := odt p0; (.s 4 (.call 62 false [] (true && (true && Nat.ble (0 + List.length (mdL l) * 2) (List.length (List.flatMap mdD (mdL l))) && true && closedL (bif true && Nat.beq (List.length (mdL l) * 2) (List.length (List.flatMap mdD (mdL l))) then List.flatMap mdD (mdL l) else List.take (List.length (mdL l) * 2) (List.drop 0 (List.flatMap mdD (mdL l))))) && true) zlx15 ([D.sl (Nat.ble 1 (List.length (mdL l))) (List.length (mdL l)) 2 (bif true && Nat.beq (List.length (mdL l) * 2) (List.length (List.flatMap mdD (mdL l))) then List.flatMap mdD (mdL l) else List.take (List.length (mdL l) * 2) (List.drop 0 (List.flatMap mdD (mdL l)))), D.sl false n 1 (List.map dB b), nD q]) _ zlx16 (true) wr _ _ _ (CallOk.fn (FnOk.of Try.func62 rfl rfl) (@rRead (l) (List.length (mdL l)) (by (exact mdL_len _)) (by (rw [mdL_len]; omega)) om (b) (n) om om (q) om)) (.s 13 (.br ((↑(Prod.snd (Prod.snd (nxR b l q))) : Int) != 0) (fun p1 => have p1f := of_bne_t p1; (.abs (by ( have q1 := dl_1 hR om om; rw [q1] at h; exact absurd (show (nxR b l q).2.2 = 0 from h) om)))) (fun p1 => have p1f := of_bne_f p1; (.s 2 (.cl 118 false [] (.fn q118 (@rBt (Prod.fst (nxR b l q)) zlx10)) (.s 11 (.cl 51 false [] (.fn q51 (@rTake (b) (n) om om (Prod.fst (Prod.snd (nxR b l q))) (rb (Prod.fst (nxR b l q))) zlx10 (by ( have q1 := nxR_ok (b := b) (l := l) (p := q) om; omega)))) (.s 10 (.br ((↑(tkE b (Prod.fst (Prod.snd (nxR b l q))) (rb (Prod.fst (nxR b l q)))) : Int) != 0) (fun p2 => have p2f := of_bne_t p2; (.abs (by ( have q1 := dl_2 hR om om om; rw [q1] at h; exact absurd (show tkE b (nxR b l q).2.1 (rb (nxR b l q).1) = 0 from h) om)))) (fun p2 => have p2f := of_bne_f p2; (.s 4 (.op ((↑(Prod.fst (Prod.snd (nxR b l q))) : Int) + (↑(rb (Prod.fst (nxR b l q))) : Int)) zlx0 (.s 4 (.op (↑(tkV b (Prod.fst (Prod.snd (nxR b l q))) (rb (Prod.fst (nxR b l q)))) : Int) zlx0 (.s 3 (.cl 119 false [] (.fn q119 (@rTm (Prod.fst (nxR b l q)) (tkV b (Prod.fst (Prod.snd (nxR b l q))) (rb (Prod.fst (nxR b l q)))) zlx0 zlx0)) (.s 10 (.br (decide ((↑(Prod.fst (nxR b l q)) : Int) = 16)) (fun p3 => have p3f := odt p3; (.s 8 (.br ((↑(List.length o) : Int) == 0) (fun p4 => have p4f := eq_of_beq p4; (.abs zlx12)) (fun p4 => have p4f := of_beq_f p4; (.s 7 (.op ((↑(List.length o) : Int) + (↑(rnT (Rn.mk (Prod.fst (nxR b l q)) (tkV b (Prod.fst (Prod.snd (nxR b l q))) (rb (Prod.fst (nxR b l q)))))) : Int)) zlx0 (.s 6 (.br (decide ((↑N : Int) < (↑(List.length o) : Int) + (↑(rnT (Rn.mk (Prod.fst (nxR b l q)) (tkV b (Prod.fst (Prod.snd (nxR b l q))) (rb (Prod.fst (nxR b l q)))))) : Int))) (fun p5 => have p5f := odt p5; (.abs zlx12)) (fun p5 => have p5f := odf p5; (.s 2 (.t (decide ((↑(Prod.fst (nxR b l q)) : Int) = 16)) p3 (.s 5 (.ow ((↑(List.length o) : Int) - 1) (.s 1 (.chk (decide (0 ≤ (↑(List.length o) : Int) - 1) && decide ((↑(List.length o) : Int) - 1 < (↑(List.length o) : Int))) zlx17 (.s 2 (.opt ((List.map dB o)[0 + Int.toNat ((↑(List.length o) : Int) - 1) * 1]?) (dB (List.getD o (0 + Int.toNat ((↑(List.length o) : Int) - 1) * 1) default)) (map_get _ _ om) (.s 2 (.val 12 (D.ref 8 8 0 (List.length o) 1) (D.ref 8 8 0 (List.length (repO o (rnV (dlX b l q) o) 0)) 1) (by exact rfl) (.val 22 (D.v (Value.int .u8 (↑(UInt8.toNat (List.getD o (0 + Int.toNat ((↑(List.length o) : Int) - 1) * 1) default)) : Int))) (D.v (Value.int .u8 (↑(UInt8.toNat (rnV (dlX b l q) o)) : Int))) zlx18 (.blk 8 8 (Blk.mk (List.map dB o) 5 true) (Blk.mk (List.map dB (repO o (rnV (dlX b l q) o) 0)) 5 true) (by exact rfl) (Hn.inl T_ok mixed false 103 0 (loopAt Try.prog 86 1) (fun (x : (j : Nat) ×' (hj : j ≤ (rnT (dlX b l q))) ×' Unit) => match x with | ⟨j, hj, _⟩ => CutS.mk [(1, D.sl false n 1 (List.map dB b)), (2, iD ((↑(Prod.fst (Prod.snd (nxR b l q))) : Int) + (↑(rb (Prod.fst (nxR b l q))) : Int))), (3, nD N), (11, D.ref 0 0 0 (List.length (mdL l)) 2), (12, (D.ref 8 8 0 ((repO o (rnV (dlX b l q) o) j).length) 1)), (20, nD (rnT (Rn.mk (Prod.fst (nxR b l q)) (tkV b (Prod.fst (Prod.snd (nxR b l q))) (rb (Prod.fst (nxR b l q))))))), (22, dB (rnV (dlX b l q) o)), (23, nD j)] [⟨0, 0, 0, 0, .b ⟨List.flatMap mdD (mdL l), 160, true⟩⟩, ⟨8, 8, 8, 8, .b ⟨(repO o (rnV (dlX b l q) o) j).map dB, 5, true⟩⟩] 16) (fun (x : (j : Nat) ×' (hj : j ≤ (rnT (dlX b l q))) ×' Unit) => match x with | ⟨j, hj, _⟩ => (rnT (dlX b l q)) - j) [⟨Unit, .exit 2, fun x => match x with | () => CutS.mk [(1, D.sl false n 1 (List.map dB b)), (2, iD ((↑(Prod.fst (Prod.snd (nxR b l q))) : Int) + (↑(rb (Prod.fst (nxR b l q))) : Int))), (3, nD N), (11, D.ref 0 0 0 (List.length (mdL l)) 2), (12, (D.ref 8 8 0 ((o ++ List.replicate (rnT (dlX b l q)) (rnV (dlX b l q) o)).length) 1)), (20, nD (rnT (Rn.mk (Prod.fst (nxR b l q)) (tkV b (Prod.fst (Prod.snd (nxR b l q))) (rb (Prod.fst (nxR b l q))))))), (23, nD (rnT (dlX b l q)))] [⟨0, 0, 0, 0, .b ⟨List.flatMap mdD (mdL l), 160, true⟩⟩, ⟨8, 8, 8, 8, .b ⟨(o ++ List.replicate (rnT (dlX b l q)) (rnV (dlX b l q) o)).map dB, 5, true⟩⟩] 16⟩] 1000 64 (fun | ⟨j, hj, _⟩, Q, next2, last2 => (.s 4 (.br (decide ((↑j : Int) < (↑(rnT (Rn.mk (Prod.fst (nxR b l q)) (tkV b (Prod.fst (Prod.snd (nxR b l q))) (rb (Prod.fst (nxR b l q)))))) : Int))) (fun p6 => have p6f := odt p6; (.s 5 (.chk (true && Nat.beq (List.length (repO o (rnV (dlX b l q) o) j) * 1) (List.length (List.map dB (repO o (rnV (dlX b l q) o) j))) && true && true && true && true && Nat.ble ((List.length (repO o (rnV (dlX b l q) o) j) + 1) * 1) 140737488355328) zlx3 (.s 4 (.ow ((↑j : Int) + 1) (.s 1 (.val 12 (D.ref 64 64 0 (List.length (repO o (rnV (dlX b l q) o) j) + 1) 1) (D.ref 64 64 0 (List.length (repO o (rnV (dlX b l q) o) (j + 1))) 1) (by (exact rp_ln)) (.val 23 (iD ((↑j : Int) + 1)) (nD (j + 1)) zlx1 (.blk 64 64 (Blk.mk (List.map dB (repO o (rnV (dlX b l q) o) j) ++ [D.v (Value.int .u8 (↑(UInt8.toNat (rnV (dlX b l q) o)) : Int))]) 5 true) (Blk.mk (List.map dB (repO o (rnV (dlX b l q) o) (j + 1))) 5 true) (by (refine blk_eq rp_blk)) (Hn.next next2 ⟨(j + 1), zlx0, ⟨⟩⟩ zlx4 [(0, 0), (64, 64)] ro)))))))))) (fun p6 => have p6f := odf p6; (.val 12 (D.ref 8 8 0 (List.length (repO o (rnV (dlX b l q) o) j)) 1) (D.ref 8 8 0 (List.length (o ++ List.replicate (rnT (Rn.mk (Prod.fst (nxR b l q)) (tkV b (Prod.fst (Prod.snd (nxR b l q))) (rb (Prod.fst (nxR b l q)))))) (rnV (dlX b l q) o))) 1) zlx2 (.val 23 (nD j) (nD (rnT (Rn.mk (Prod.fst (nxR b l q)) (tkV b (Prod.fst (Prod.snd (nxR b l q))) (rb (Prod.fst (nxR b l q))))))) zlx5 (.blk 8 8 (Blk.mk (List.map dB (repO o (rnV (dlX b l q) o) j)) 5 true) (Blk.mk (List.map dB (o ++ List.replicate (rnT (Rn.mk (Prod.fst (nxR b l q)) (tkV b (Prod.fst (Prod.snd (nxR b l q))) (rb (Prod.fst (nxR b l q)))))) (rnV (dlX b l q) o))) 5 true) zlx2 (Hn.last last2 0 (() : Unit) rfl [(0, 0), (8, 8)] ro)))))))) (fun | ⟨j, hj, _⟩ => by kernel_rfl) ⟨(0), om, ⟨⟩⟩ [(0, 0), (8, 8)] ro (hs1 (fun | () => (.val 2 (iD ((↑(Prod.fst (Prod.snd (nxR b l q))) : Int) + (↑(rb (Prod.fst (nxR b l q))) : Int))) (nD (Prod.fst (Prod.snd (nxR b l q)) + rb (Prod.fst (nxR b l q)))) zlx1 (Hn.next next1 ⟨((nxR b l q).2.1 + rb (nxR b l q).1), zlx0, (o ++ List.replicate (rnT (dlX b l q)) (rnV (dlX b l q) o)), zlx6, zlx7, ⟨⟩⟩ zlx8 [(0, 0), (8, 8)] ro)))))))))))))))))))))))))) (fun p3 => have p3f := odf p3; (.s 15 (.op ((↑(List.length o) : Int) + (↑(rnT (Rn.mk (Prod.fst (nxR b l q)) (tkV b (Prod.fst (Prod.snd (nxR b l q))) (rb (Prod.fst (nxR b l q)))))) : Int)) zlx0 (.s 6 (.br (decide ((↑N : Int) < (↑(List.length o) : Int) + (↑(rnT (Rn.mk (Prod.fst (nxR b l q)) (tkV b (Prod.fst (Prod.snd (nxR b l q))) (rb (Prod.fst (nxR b l q)))))) : Int))) (fun p7 => have p7f := odt p7; (.abs zlx12)) (fun p7 => have p7f := odf p7; (.s 2 (.f (decide ((↑(Prod.fst (nxR b l q)) : Int) = 16)) p3 (.s 3 (.br (decide ((↑(Prod.fst (nxR b l q)) : Int) < 16)) (fun p8 => have p8f := odt p8; (.s 2 (.opt (wrapO .u8 (↑(Prod.fst (nxR b l q)) : Int)) (D.v (Value.int .u8 (↑(Prod.fst (nxR b l q)) : Int))) (wrapO_u8 om) (.s 2 (.val 12 (D.ref 8 8 0 (List.length o) 1) (D.ref 8 8 0 (List.length (repO o (rnV (dlX b l q) o) 0)) 1) (by exact rfl) (.val 22 (D.v (Value.int .u8 (↑(Prod.fst (nxR b l q)) : Int))) (D.v (Value.int .u8 (↑(UInt8.toNat (rnV (dlX b l q) o)) : Int))) zlx19 (.blk 8 8 (Blk.mk (List.map dB o) 5 true) (Blk.mk (List.map dB (repO o (rnV (dlX b l q) o) 0)) 5 true) (by exact rfl) (Hn.inl T_ok mixed false 103 0 (loopAt Try.prog 86 1) (fun (x : (j : Nat) ×' (hj : j ≤ (rnT (dlX b l q))) ×' Unit) => match x with | ⟨j, hj, _⟩ => CutS.mk [(1, D.sl false n 1 (List.map dB b)), (2, iD ((↑(Prod.fst (Prod.snd (nxR b l q))) : Int) + (↑(rb (Prod.fst (nxR b l q))) : Int))), (3, nD N), (11, D.ref 0 0 0 (List.length (mdL l)) 2), (12, (D.ref 8 8 0 ((repO o (rnV (dlX b l q) o) j).length) 1)), (20, nD (rnT (Rn.mk (Prod.fst (nxR b l q)) (tkV b (Prod.fst (Prod.snd (nxR b l q))) (rb (Prod.fst (nxR b l q))))))), (22, dB (rnV (dlX b l q) o)), (23, nD j)] [⟨0, 0, 0, 0, .b ⟨List.flatMap mdD (mdL l), 160, true⟩⟩, ⟨8, 8, 8, 8, .b ⟨(repO o (rnV (dlX b l q) o) j).map dB, 5, true⟩⟩] 16) (fun (x : (j : Nat) ×' (hj : j ≤ (rnT (dlX b l q))) ×' Unit) => match x with | ⟨j, hj, _⟩ => (rnT (dlX b l q)) - j) [⟨Unit, .exit 2, fun x => match x with | () => CutS.mk [(1, D.sl false n 1 (List.map dB b)), (2, iD ((↑(Prod.fst (Prod.snd (nxR b l q))) : Int) + (↑(rb (Prod.fst (nxR b l q))) : Int))), (3, nD N), (11, D.ref 0 0 0 (List.length (mdL l)) 2), (12, (D.ref 8 8 0 ((o ++ List.replicate (rnT (dlX b l q)) (rnV (dlX b l q) o)).length) 1)), (20, nD (rnT (Rn.mk (Prod.fst (nxR b l q)) (tkV b (Prod.fst (Prod.snd (nxR b l q))) (rb (Prod.fst (nxR b l q))))))), (23, nD (rnT (dlX b l q)))] [⟨0, 0, 0, 0, .b ⟨List.flatMap mdD (mdL l), 160, true⟩⟩, ⟨8, 8, 8, 8, .b ⟨(o ++ List.replicate (rnT (dlX b l q)) (rnV (dlX b l q) o)).map dB, 5, true⟩⟩] 16⟩] 1000 64 (fun | ⟨j, hj, _⟩, Q, next2, last2 => (.s 4 (.br (decide ((↑j : Int) < (↑(rnT (Rn.mk (Prod.fst (nxR b l q)) (tkV b (Prod.fst (Prod.snd (nxR b l q))) (rb (Prod.fst (nxR b l q)))))) : Int))) (fun p9 => have p9f := odt p9; (.s 5 (.chk (true && Nat.beq (List.length (repO o (rnV (dlX b l q) o) j) * 1) (List.length (List.map dB (repO o (rnV (dlX b l q) o) j))) && true && true && true && true && Nat.ble ((List.length (repO o (rnV (dlX b l q) o) j) + 1) * 1) 140737488355328) zlx3 (.s 4 (.ow ((↑j : Int) + 1) (.s 1 (.val 12 (D.ref 64 64 0 (List.length (repO o (rnV (dlX b l q) o) j) + 1) 1) (D.ref 64 64 0 (List.length (repO o (rnV (dlX b l q) o) (j + 1))) 1) (by (exact rp_ln)) (.val 23 (iD ((↑j : Int) + 1)) (nD (j + 1)) zlx1 (.blk 64 64 (Blk.mk (List.map dB (repO o (rnV (dlX b l q) o) j) ++ [D.v (Value.int .u8 (↑(UInt8.toNat (rnV (dlX b l q) o)) : Int))]) 5 true) (Blk.mk (List.map dB (repO o (rnV (dlX b l q) o) (j + 1))) 5 true) (by (refine blk_eq rp_blk)) (Hn.next next2 ⟨(j + 1), zlx0, ⟨⟩⟩ zlx4 [(0, 0), (64, 64)] ro)))))))))) (fun p9 => have p9f := odf p9; (.val 12 (D.ref 8 8 0 (List.length (repO o (rnV (dlX b l q) o) j)) 1) (D.ref 8 8 0 (List.length (o ++ List.replicate (rnT (Rn.mk (Prod.fst (nxR b l q)) (tkV b (Prod.fst (Prod.snd (nxR b l q))) (rb (Prod.fst (nxR b l q)))))) (rnV (dlX b l q) o))) 1) zlx2 (.val 23 (nD j) (nD (rnT (Rn.mk (Prod.fst (nxR b l q)) (tkV b (Prod.fst (Prod.snd (nxR b l q))) (rb (Prod.fst (nxR b l q))))))) zlx5 (.blk 8 8 (Blk.mk (List.map dB (repO o (rnV (dlX b l q) o) j)) 5 true) (Blk.mk (List.map dB (o ++ List.replicate (rnT (Rn.mk (Prod.fst (nxR b l q)) (tkV b (Prod.fst (Prod.snd (nxR b l q))) (rb (Prod.fst (nxR b l q)))))) (rnV (dlX b l q) o))) 5 true) zlx2 (Hn.last last2 0 (() : Unit) rfl [(0, 0), (8, 8)] ro)))))))) (fun | ⟨j, hj, _⟩ => by kernel_rfl) ⟨(0), om, ⟨⟩⟩ [(0, 0), (8, 8)] ro (hs1 (fun | () => (.val 2 (iD ((↑(Prod.fst (Prod.snd (nxR b l q))) : Int) + (↑(rb (Prod.fst (nxR b l q))) : Int))) (nD (Prod.fst (Prod.snd (nxR b l q)) + rb (Prod.fst (nxR b l q)))) zlx1 (Hn.next next1 ⟨((nxR b l q).2.1 + rb (nxR b l q).1), zlx0, (o ++ List.replicate (rnT (dlX b l q)) (rnV (dlX b l q) o)), zlx6, zlx7, ⟨⟩⟩ zlx8 [(0, 0), (8, 8)] ro)))))))))))) (fun p8 => have p8f := odf p8; (.s 1 (.val 12 (D.ref 8 8 0 (List.length o) 1) (D.ref 8 8 0 (List.length (repO o (rnV (dlX b l q) o) 0)) 1) (by exact rfl) (.val 22 (D.v (Value.int .u8 0)) (D.v (Value.int .u8 (↑(UInt8.toNat (rnV (dlX b l q) o)) : Int))) zlx20 (.blk 8 8 (Blk.mk (List.map dB o) 5 true) (Blk.mk (List.map dB (repO o (rnV (dlX b l q) o) 0)) 5 true) (by exact rfl) (Hn.inl T_ok mixed false 103 0 (loopAt Try.prog 86 1) (fun (x : (j : Nat) ×' (hj : j ≤ (rnT (dlX b l q))) ×' Unit) => match x with | ⟨j, hj, _⟩ => CutS.mk [(1, D.sl false n 1 (List.map dB b)), (2, iD ((↑(Prod.fst (Prod.snd (nxR b l q))) : Int) + (↑(rb (Prod.fst (nxR b l q))) : Int))), (3, nD N), (11, D.ref 0 0 0 (List.length (mdL l)) 2), (12, (D.ref 8 8 0 ((repO o (rnV (dlX b l q) o) j).length) 1)), (20, nD (rnT (Rn.mk (Prod.fst (nxR b l q)) (tkV b (Prod.fst (Prod.snd (nxR b l q))) (rb (Prod.fst (nxR b l q))))))), (22, dB (rnV (dlX b l q) o)), (23, nD j)] [⟨0, 0, 0, 0, .b ⟨List.flatMap mdD (mdL l), 160, true⟩⟩, ⟨8, 8, 8, 8, .b ⟨(repO o (rnV (dlX b l q) o) j).map dB, 5, true⟩⟩] 16) (fun (x : (j : Nat) ×' (hj : j ≤ (rnT (dlX b l q))) ×' Unit) => match x with | ⟨j, hj, _⟩ => (rnT (dlX b l q)) - j) [⟨Unit, .exit 2, fun x => match x with | () => CutS.mk [(1, D.sl false n 1 (List.map dB b)), (2, iD ((↑(Prod.fst (Prod.snd (nxR b l q))) : Int) + (↑(rb (Prod.fst (nxR b l q))) : Int))), (3, nD N), (11, D.ref 0 0 0 (List.length (mdL l)) 2), (12, (D.ref 8 8 0 ((o ++ List.replicate (rnT (dlX b l q)) (rnV (dlX b l q) o)).length) 1)), (20, nD (rnT (Rn.mk (Prod.fst (nxR b l q)) (tkV b (Prod.fst (Prod.snd (nxR b l q))) (rb (Prod.fst (nxR b l q))))))), (23, nD (rnT (dlX b l q)))] [⟨0, 0, 0, 0, .b ⟨List.flatMap mdD (mdL l), 160, true⟩⟩, ⟨8, 8, 8, 8, .b ⟨(o ++ List.replicate (rnT (dlX b l q)) (rnV (dlX b l q) o)).map dB, 5, true⟩⟩] 16⟩] 1000 64 (fun | ⟨j, hj, _⟩, Q, next2, last2 => (.s 4 (.br (decide ((↑j : Int) < (↑(rnT (Rn.mk (Prod.fst (nxR b l q)) (tkV b (Prod.fst (Prod.snd (nxR b l q))) (rb (Prod.fst (nxR b l q)))))) : Int))) (fun p10 => have p10f := odt p10; (.s 5 (.chk (true && Nat.beq (List.length (repO o (rnV (dlX b l q) o) j) * 1) (List.length (List.map dB (repO o (rnV (dlX b l q) o) j))) && true && true && true && true && Nat.ble ((List.length (repO o (rnV (dlX b l q) o) j) + 1) * 1) 140737488355328) zlx3 (.s 4 (.ow ((↑j : Int) + 1) (.s 1 (.val 12 (D.ref 64 64 0 (List.length (repO o (rnV (dlX b l q) o) j) + 1) 1) (D.ref 64 64 0 (List.length (repO o (rnV (dlX b l q) o) (j + 1))) 1) (by (exact rp_ln)) (.val 23 (iD ((↑j : Int) + 1)) (nD (j + 1)) zlx1 (.blk 64 64 (Blk.mk (List.map dB (repO o (rnV (dlX b l q) o) j) ++ [D.v (Value.int .u8 (↑(UInt8.toNat (rnV (dlX b l q) o)) : Int))]) 5 true) (Blk.mk (List.map dB (repO o (rnV (dlX b l q) o) (j + 1))) 5 true) (by (refine blk_eq rp_blk)) (Hn.next next2 ⟨(j + 1), zlx0, ⟨⟩⟩ zlx4 [(0, 0), (64, 64)] ro)))))))))) (fun p10 => have p10f := odf p10; (.val 12 (D.ref 8 8 0 (List.length (repO o (rnV (dlX b l q) o) j)) 1) (D.ref 8 8 0 (List.length (o ++ List.replicate (rnT (Rn.mk (Prod.fst (nxR b l q)) (tkV b (Prod.fst (Prod.snd (nxR b l q))) (rb (Prod.fst (nxR b l q)))))) (rnV (dlX b l q) o))) 1) zlx2 (.val 23 (nD j) (nD (rnT (Rn.mk (Prod.fst (nxR b l q)) (tkV b (Prod.fst (Prod.snd (nxR b l q))) (rb (Prod.fst (nxR b l q))))))) zlx5 (.blk 8 8 (Blk.mk (List.map dB (repO o (rnV (dlX b l q) o) j)) 5 true) (Blk.mk (List.map dB (o ++ List.replicate (rnT (Rn.mk (Prod.fst (nxR b l q)) (tkV b (Prod.fst (Prod.snd (nxR b l q))) (rb (Prod.fst (nxR b l q)))))) (rnV (dlX b l q) o))) 5 true) zlx2 (Hn.last last2 0 (() : Unit) rfl [(0, 0), (8, 8)] ro)))))))) (fun | ⟨j, hj, _⟩ => by kernel_rfl) ⟨(0), om, ⟨⟩⟩ [(0, 0), (8, 8)] ro (hs1 (fun | () => (.val 2 (iD ((↑(Prod.fst (Prod.snd (nxR b l q))) : Int) + (↑(rb (Prod.fst (nxR b l q))) : Int))) (nD (Prod.fst (Prod.snd (nxR b l q)) + rb (Prod.fst (nxR b l q)))) zlx1 (Hn.next next1 ⟨((nxR b l q).2.1 + rb (nxR b l q).1), zlx0, (o ++ List.replicate (rnT (dlX b l q)) (rnV (dlX b l q) o)), zlx6, zlx7, ⟨⟩⟩ zlx8 [(0, 0), (8, 8)] ro))))))))))))))))))))))))))))))))))))))))) (fun p0 => have p0f := odf p0; (.val 2 (nD q) (nD (Prod.fst (Prod.snd r))) zlx13 (.val 12 (D.ref 8 8 0 (List.length o) 1) (D.ref 8 8 0 (List.length (Prod.fst r)) 1) zlx13 (.blk 8 8 (Blk.mk (List.map dB o) 5 true) (Blk.mk (List.map dB (Prod.fst r)) 5 true) zlx13 (Hn.last last1 0 (() : Unit) rfl [(0, 0), (8, 8)] ro)))))))) (fun | ⟨q, hq, o, ho, hR, _⟩ => by kernel_rfl) ⟨(p), om, ([]), (by (simp; done)), (by (exact dlF_0 b l N p hr)), ⟨⟩⟩ [(32, 32), (56, 56)] ro (hs1 (fun | () => (.s 5 (.out [8] [8] (D.tup [D.ref 0 0 0 (List.length (Prod.fst r)) 1, nD (Prod.fst (Prod.snd r)), iD 0]) [Blk.mk (List.map dB (Prod.fst r)) 5 true] R (ok _ _ wr wr))))))))))) (by kernel_rfl)
theorem rLen_e (b : List UInt8) (n : Nat) (hn : n = b.length) (hN : n ≤ 1000000) (l : List UInt8) (k : Nat) (hk : k = l.length) (hl : k ≤ 19) (hT : canE l 15 = 0) (p : Nat) (hp : p ≤ 8 * n) (N : Nat) (hNN : N ≤ 320) (r : List UInt8 × Nat × Nat) (hr : dlR b l N p = r) (h : r.2.2 ≠ 0) : SpecH false Try.prog 86 [.sl false k 1 (l.map dB), .sl false n 1 (b.map dB), nD p, nD N] [] (.tup [nilD, iD 0, nD r.2.2]) [] := by
 refine SpecH.run T_ok mixed Try.func86 rfl rfl rfl trivial rfl 1000 64 (fun R ok => (.s 5 (.cl 63 false [] (.fn q63 (@rMade (l) (k) om om)) (.s 2 (.nils 12 56 1 5 (Hn.inl T_ok mixed false 103 0 (loopAt Try.prog 86 0) (fun (x : (q : Nat) ×' (hq : q ≤ 8 * n) ×' (o : List UInt8) ×' (ho : o.length ≤ N) ×' (hR : dlF b l N (N - o.length) q o = r) ×' Unit) => match x with | ⟨q, hq, o, ho, hR, _⟩ => CutS.mk [(1, D.sl false n 1 (List.map dB b)), (2, nD q), (3, nD N), (11, D.ref 0 0 0 (List.length (mdL l)) 2), (12, (D.ref 8 8 0 (o.length) 1))] [⟨0, 0, 32, 32, .b ⟨List.flatMap mdD (mdL l), 160, true⟩⟩, ⟨8, 8, 56, 56, .b ⟨o.map dB, 5, true⟩⟩] 16) (fun (x : (q : Nat) ×' (hq : q ≤ 8 * n) ×' (o : List UInt8) ×' (ho : o.length ≤ N) ×' (hR : dlF b l N (N - o.length) q o = r) ×' Unit) => match x with | ⟨q, hq, o, ho, hR, _⟩ => N - o.length) [⟨Unit, .ret, fun x => match x with | () => CutS.mk [(8, nilD), (9, iD 0), (10, nD r.2.2)] [⟨0, 0, 32, 32, .b ⟨List.flatMap mdD (mdL l), 160, true⟩⟩] 16⟩] 1000 64 (fun | ⟨q, hq, o, ho, hR, _⟩, Q, next1, last1 => (.s 5 (.br (decide ((↑(List.length o) : Int) < (↑N : Int))) (fun p0 => have p0f := odt p0; (.s 4 (.call 62 false [] (true && (true && Nat.ble (0 + List.length (mdL l) * 2) (List.length (List.flatMap mdD (mdL l))) && true && closedL (bif true && Nat.beq (List.length (mdL l) * 2) (List.length (List.flatMap mdD (mdL l))) then List.flatMap mdD (mdL l) else List.take (List.length (mdL l) * 2) (List.drop 0 (List.flatMap mdD (mdL l))))) && true) zlx15 ([D.sl (Nat.ble 1 (List.length (mdL l))) (List.length (mdL l)) 2 (bif true && Nat.beq (List.length (mdL l) * 2) (List.length (List.flatMap mdD (mdL l))) then List.flatMap mdD (mdL l) else List.take (List.length (mdL l) * 2) (List.drop 0 (List.flatMap mdD (mdL l)))), D.sl false n 1 (List.map dB b), nD q]) _ zlx16 (true) wr _ _ _ (CallOk.fn (FnOk.of Try.func62 rfl rfl) (@rRead (l) (List.length (mdL l)) (by (exact mdL_len _)) (by (rw [mdL_len]; omega)) om (b) (n) om om (q) om)) (.s 13 (.br ((↑(Prod.snd (Prod.snd (nxR b l q))) : Int) != 0) (fun p1 => have p1f := of_bne_t p1; (.s 4 (.val 10 (nD (Prod.snd (Prod.snd (nxR b l q)))) (nD (Prod.snd (Prod.snd r))) (by ( have q1 := dl_1 hR om om; rw [q1]; first | done | rfl)) (Hn.last last1 0 (() : Unit) rfl [(0, 0)] ro)))) (fun p1 => have p1f := of_bne_f p1; (.s 2 (.cl 118 false [] (.fn q118 (@rBt (Prod.fst (nxR b l q)) zlx10)) (.s 11 (.cl 51 false [] (.fn q51 (@rTake (b) (n) om om (Prod.fst (Prod.snd (nxR b l q))) (rb (Prod.fst (nxR b l q))) zlx10 (by ( have q1 := nxR_ok (b := b) (l := l) (p := q) om; omega)))) (.s 10 (.br ((↑(tkE b (Prod.fst (Prod.snd (nxR b l q))) (rb (Prod.fst (nxR b l q)))) : Int) != 0) (fun p2 => have p2f := of_bne_t p2; (.s 4 (.val 10 (nD (tkE b (Prod.fst (Prod.snd (nxR b l q))) (rb (Prod.fst (nxR b l q))))) (nD (Prod.snd (Prod.snd r))) (by ( have q1 := dl_2 hR om om om; rw [q1]; first | done | rfl)) (Hn.last last1 0 (() : Unit) rfl [(0, 0)] ro)))) (fun p2 => have p2f := of_bne_f p2; (.s 4 (.op ((↑(Prod.fst (Prod.snd (nxR b l q))) : Int) + (↑(rb (Prod.fst (nxR b l q))) : Int)) zlx0 (.s 4 (.op (↑(tkV b (Prod.fst (Prod.snd (nxR b l q))) (rb (Prod.fst (nxR b l q)))) : Int) zlx0 (.s 3 (.cl 119 false [] (.fn q119 (@rTm (Prod.fst (nxR b l q)) (tkV b (Prod.fst (Prod.snd (nxR b l q))) (rb (Prod.fst (nxR b l q)))) zlx0 zlx0)) (.s 10 (.br (decide ((↑(Prod.fst (nxR b l q)) : Int) = 16)) (fun p3 => have p3f := odt p3; (.s 8 (.br ((↑(List.length o) : Int) == 0) (fun p4 => have p4f := eq_of_beq p4; (.s 15 (.val 10 (iD 132) (nD (Prod.snd (Prod.snd r))) zlx14 (Hn.last last1 0 (() : Unit) rfl [(0, 0)] ro)))) (fun p4 => have p4f := of_beq_f p4; (.s 7 (.op ((↑(List.length o) : Int) + (↑(rnT (Rn.mk (Prod.fst (nxR b l q)) (tkV b (Prod.fst (Prod.snd (nxR b l q))) (rb (Prod.fst (nxR b l q)))))) : Int)) zlx0 (.s 6 (.br (decide ((↑N : Int) < (↑(List.length o) : Int) + (↑(rnT (Rn.mk (Prod.fst (nxR b l q)) (tkV b (Prod.fst (Prod.snd (nxR b l q))) (rb (Prod.fst (nxR b l q)))))) : Int))) (fun p5 => have p5f := odt p5; (.s 3 (.val 10 (iD 132) (nD (Prod.snd (Prod.snd r))) zlx14 (Hn.last last1 0 (() : Unit) rfl [(0, 0)] ro)))) (fun p5 => have p5f := odf p5; (.s 2 (.t (decide ((↑(Prod.fst (nxR b l q)) : Int) = 16)) p3 (.s 5 (.ow ((↑(List.length o) : Int) - 1) (.s 1 (.chk (decide (0 ≤ (↑(List.length o) : Int) - 1) && decide ((↑(List.length o) : Int) - 1 < (↑(List.length o) : Int))) zlx17 (.s 2 (.opt ((List.map dB o)[0 + Int.toNat ((↑(List.length o) : Int) - 1) * 1]?) (dB (List.getD o (0 + Int.toNat ((↑(List.length o) : Int) - 1) * 1) default)) (map_get _ _ om) (.s 2 (.val 12 (D.ref 8 8 0 (List.length o) 1) (D.ref 8 8 0 (List.length (repO o (rnV (dlX b l q) o) 0)) 1) (by exact rfl) (.val 22 (D.v (Value.int .u8 (↑(UInt8.toNat (List.getD o (0 + Int.toNat ((↑(List.length o) : Int) - 1) * 1) default)) : Int))) (D.v (Value.int .u8 (↑(UInt8.toNat (rnV (dlX b l q) o)) : Int))) zlx18 (.blk 8 8 (Blk.mk (List.map dB o) 5 true) (Blk.mk (List.map dB (repO o (rnV (dlX b l q) o) 0)) 5 true) (by exact rfl) (Hn.inl T_ok mixed false 103 0 (loopAt Try.prog 86 1) (fun (x : (j : Nat) ×' (hj : j ≤ (rnT (dlX b l q))) ×' Unit) => match x with | ⟨j, hj, _⟩ => CutS.mk [(1, D.sl false n 1 (List.map dB b)), (2, iD ((↑(Prod.fst (Prod.snd (nxR b l q))) : Int) + (↑(rb (Prod.fst (nxR b l q))) : Int))), (3, nD N), (11, D.ref 0 0 0 (List.length (mdL l)) 2), (12, (D.ref 8 8 0 ((repO o (rnV (dlX b l q) o) j).length) 1)), (20, nD (rnT (Rn.mk (Prod.fst (nxR b l q)) (tkV b (Prod.fst (Prod.snd (nxR b l q))) (rb (Prod.fst (nxR b l q))))))), (22, dB (rnV (dlX b l q) o)), (23, nD j)] [⟨0, 0, 0, 0, .b ⟨List.flatMap mdD (mdL l), 160, true⟩⟩, ⟨8, 8, 8, 8, .b ⟨(repO o (rnV (dlX b l q) o) j).map dB, 5, true⟩⟩] 16) (fun (x : (j : Nat) ×' (hj : j ≤ (rnT (dlX b l q))) ×' Unit) => match x with | ⟨j, hj, _⟩ => (rnT (dlX b l q)) - j) [⟨Unit, .exit 2, fun x => match x with | () => CutS.mk [(1, D.sl false n 1 (List.map dB b)), (2, iD ((↑(Prod.fst (Prod.snd (nxR b l q))) : Int) + (↑(rb (Prod.fst (nxR b l q))) : Int))), (3, nD N), (11, D.ref 0 0 0 (List.length (mdL l)) 2), (12, (D.ref 8 8 0 ((o ++ List.replicate (rnT (dlX b l q)) (rnV (dlX b l q) o)).length) 1)), (20, nD (rnT (Rn.mk (Prod.fst (nxR b l q)) (tkV b (Prod.fst (Prod.snd (nxR b l q))) (rb (Prod.fst (nxR b l q))))))), (23, nD (rnT (dlX b l q)))] [⟨0, 0, 0, 0, .b ⟨List.flatMap mdD (mdL l), 160, true⟩⟩, ⟨8, 8, 8, 8, .b ⟨(o ++ List.replicate (rnT (dlX b l q)) (rnV (dlX b l q) o)).map dB, 5, true⟩⟩] 16⟩] 1000 64 (fun | ⟨j, hj, _⟩, Q, next2, last2 => (.s 4 (.br (decide ((↑j : Int) < (↑(rnT (Rn.mk (Prod.fst (nxR b l q)) (tkV b (Prod.fst (Prod.snd (nxR b l q))) (rb (Prod.fst (nxR b l q)))))) : Int))) (fun p6 => have p6f := odt p6; (.s 5 (.chk (true && Nat.beq (List.length (repO o (rnV (dlX b l q) o) j) * 1) (List.length (List.map dB (repO o (rnV (dlX b l q) o) j))) && true && true && true && true && Nat.ble ((List.length (repO o (rnV (dlX b l q) o) j) + 1) * 1) 140737488355328) zlx3 (.s 4 (.ow ((↑j : Int) + 1) (.s 1 (.val 12 (D.ref 64 64 0 (List.length (repO o (rnV (dlX b l q) o) j) + 1) 1) (D.ref 64 64 0 (List.length (repO o (rnV (dlX b l q) o) (j + 1))) 1) (by (exact rp_ln)) (.val 23 (iD ((↑j : Int) + 1)) (nD (j + 1)) zlx1 (.blk 64 64 (Blk.mk (List.map dB (repO o (rnV (dlX b l q) o) j) ++ [D.v (Value.int .u8 (↑(UInt8.toNat (rnV (dlX b l q) o)) : Int))]) 5 true) (Blk.mk (List.map dB (repO o (rnV (dlX b l q) o) (j + 1))) 5 true) (by (refine blk_eq rp_blk)) (Hn.next next2 ⟨(j + 1), zlx0, ⟨⟩⟩ zlx4 [(0, 0), (64, 64)] ro)))))))))) (fun p6 => have p6f := odf p6; (.val 12 (D.ref 8 8 0 (List.length (repO o (rnV (dlX b l q) o) j)) 1) (D.ref 8 8 0 (List.length (o ++ List.replicate (rnT (Rn.mk (Prod.fst (nxR b l q)) (tkV b (Prod.fst (Prod.snd (nxR b l q))) (rb (Prod.fst (nxR b l q)))))) (rnV (dlX b l q) o))) 1) zlx2 (.val 23 (nD j) (nD (rnT (Rn.mk (Prod.fst (nxR b l q)) (tkV b (Prod.fst (Prod.snd (nxR b l q))) (rb (Prod.fst (nxR b l q))))))) zlx5 (.blk 8 8 (Blk.mk (List.map dB (repO o (rnV (dlX b l q) o) j)) 5 true) (Blk.mk (List.map dB (o ++ List.replicate (rnT (Rn.mk (Prod.fst (nxR b l q)) (tkV b (Prod.fst (Prod.snd (nxR b l q))) (rb (Prod.fst (nxR b l q)))))) (rnV (dlX b l q) o))) 5 true) zlx2 (Hn.last last2 0 (() : Unit) rfl [(0, 0), (8, 8)] ro)))))))) (fun | ⟨j, hj, _⟩ => by kernel_rfl) ⟨(0), om, ⟨⟩⟩ [(0, 0), (8, 8)] ro (hs1 (fun | () => (.val 2 (iD ((↑(Prod.fst (Prod.snd (nxR b l q))) : Int) + (↑(rb (Prod.fst (nxR b l q))) : Int))) (nD (Prod.fst (Prod.snd (nxR b l q)) + rb (Prod.fst (nxR b l q)))) zlx1 (Hn.next next1 ⟨((nxR b l q).2.1 + rb (nxR b l q).1), zlx0, (o ++ List.replicate (rnT (dlX b l q)) (rnV (dlX b l q) o)), zlx6, zlx7, ⟨⟩⟩ zlx8 [(0, 0), (8, 8)] ro)))))))))))))))))))))))))) (fun p3 => have p3f := odf p3; (.s 15 (.op ((↑(List.length o) : Int) + (↑(rnT (Rn.mk (Prod.fst (nxR b l q)) (tkV b (Prod.fst (Prod.snd (nxR b l q))) (rb (Prod.fst (nxR b l q)))))) : Int)) zlx0 (.s 6 (.br (decide ((↑N : Int) < (↑(List.length o) : Int) + (↑(rnT (Rn.mk (Prod.fst (nxR b l q)) (tkV b (Prod.fst (Prod.snd (nxR b l q))) (rb (Prod.fst (nxR b l q)))))) : Int))) (fun p7 => have p7f := odt p7; (.s 3 (.val 10 (iD 132) (nD (Prod.snd (Prod.snd r))) zlx14 (Hn.last last1 0 (() : Unit) rfl [(0, 0)] ro)))) (fun p7 => have p7f := odf p7; (.s 2 (.f (decide ((↑(Prod.fst (nxR b l q)) : Int) = 16)) p3 (.s 3 (.br (decide ((↑(Prod.fst (nxR b l q)) : Int) < 16)) (fun p8 => have p8f := odt p8; (.s 2 (.opt (wrapO .u8 (↑(Prod.fst (nxR b l q)) : Int)) (D.v (Value.int .u8 (↑(Prod.fst (nxR b l q)) : Int))) (wrapO_u8 om) (.s 2 (.val 12 (D.ref 8 8 0 (List.length o) 1) (D.ref 8 8 0 (List.length (repO o (rnV (dlX b l q) o) 0)) 1) (by exact rfl) (.val 22 (D.v (Value.int .u8 (↑(Prod.fst (nxR b l q)) : Int))) (D.v (Value.int .u8 (↑(UInt8.toNat (rnV (dlX b l q) o)) : Int))) zlx19 (.blk 8 8 (Blk.mk (List.map dB o) 5 true) (Blk.mk (List.map dB (repO o (rnV (dlX b l q) o) 0)) 5 true) (by exact rfl) (Hn.inl T_ok mixed false 103 0 (loopAt Try.prog 86 1) (fun (x : (j : Nat) ×' (hj : j ≤ (rnT (dlX b l q))) ×' Unit) => match x with | ⟨j, hj, _⟩ => CutS.mk [(1, D.sl false n 1 (List.map dB b)), (2, iD ((↑(Prod.fst (Prod.snd (nxR b l q))) : Int) + (↑(rb (Prod.fst (nxR b l q))) : Int))), (3, nD N), (11, D.ref 0 0 0 (List.length (mdL l)) 2), (12, (D.ref 8 8 0 ((repO o (rnV (dlX b l q) o) j).length) 1)), (20, nD (rnT (Rn.mk (Prod.fst (nxR b l q)) (tkV b (Prod.fst (Prod.snd (nxR b l q))) (rb (Prod.fst (nxR b l q))))))), (22, dB (rnV (dlX b l q) o)), (23, nD j)] [⟨0, 0, 0, 0, .b ⟨List.flatMap mdD (mdL l), 160, true⟩⟩, ⟨8, 8, 8, 8, .b ⟨(repO o (rnV (dlX b l q) o) j).map dB, 5, true⟩⟩] 16) (fun (x : (j : Nat) ×' (hj : j ≤ (rnT (dlX b l q))) ×' Unit) => match x with | ⟨j, hj, _⟩ => (rnT (dlX b l q)) - j) [⟨Unit, .exit 2, fun x => match x with | () => CutS.mk [(1, D.sl false n 1 (List.map dB b)), (2, iD ((↑(Prod.fst (Prod.snd (nxR b l q))) : Int) + (↑(rb (Prod.fst (nxR b l q))) : Int))), (3, nD N), (11, D.ref 0 0 0 (List.length (mdL l)) 2), (12, (D.ref 8 8 0 ((o ++ List.replicate (rnT (dlX b l q)) (rnV (dlX b l q) o)).length) 1)), (20, nD (rnT (Rn.mk (Prod.fst (nxR b l q)) (tkV b (Prod.fst (Prod.snd (nxR b l q))) (rb (Prod.fst (nxR b l q))))))), (23, nD (rnT (dlX b l q)))] [⟨0, 0, 0, 0, .b ⟨List.flatMap mdD (mdL l), 160, true⟩⟩, ⟨8, 8, 8, 8, .b ⟨(o ++ List.replicate (rnT (dlX b l q)) (rnV (dlX b l q) o)).map dB, 5, true⟩⟩] 16⟩] 1000 64 (fun | ⟨j, hj, _⟩, Q, next2, last2 => (.s 4 (.br (decide ((↑j : Int) < (↑(rnT (Rn.mk (Prod.fst (nxR b l q)) (tkV b (Prod.fst (Prod.snd (nxR b l q))) (rb (Prod.fst (nxR b l q)))))) : Int))) (fun p9 => have p9f := odt p9; (.s 5 (.chk (true && Nat.beq (List.length (repO o (rnV (dlX b l q) o) j) * 1) (List.length (List.map dB (repO o (rnV (dlX b l q) o) j))) && true && true && true && true && Nat.ble ((List.length (repO o (rnV (dlX b l q) o) j) + 1) * 1) 140737488355328) zlx3 (.s 4 (.ow ((↑j : Int) + 1) (.s 1 (.val 12 (D.ref 64 64 0 (List.length (repO o (rnV (dlX b l q) o) j) + 1) 1) (D.ref 64 64 0 (List.length (repO o (rnV (dlX b l q) o) (j + 1))) 1) (by (exact rp_ln)) (.val 23 (iD ((↑j : Int) + 1)) (nD (j + 1)) zlx1 (.blk 64 64 (Blk.mk (List.map dB (repO o (rnV (dlX b l q) o) j) ++ [D.v (Value.int .u8 (↑(UInt8.toNat (rnV (dlX b l q) o)) : Int))]) 5 true) (Blk.mk (List.map dB (repO o (rnV (dlX b l q) o) (j + 1))) 5 true) (by (refine blk_eq rp_blk)) (Hn.next next2 ⟨(j + 1), zlx0, ⟨⟩⟩ zlx4 [(0, 0), (64, 64)] ro)))))))))) (fun p9 => have p9f := odf p9; (.val 12 (D.ref 8 8 0 (List.length (repO o (rnV (dlX b l q) o) j)) 1) (D.ref 8 8 0 (List.length (o ++ List.replicate (rnT (Rn.mk (Prod.fst (nxR b l q)) (tkV b (Prod.fst (Prod.snd (nxR b l q))) (rb (Prod.fst (nxR b l q)))))) (rnV (dlX b l q) o))) 1) zlx2 (.val 23 (nD j) (nD (rnT (Rn.mk (Prod.fst (nxR b l q)) (tkV b (Prod.fst (Prod.snd (nxR b l q))) (rb (Prod.fst (nxR b l q))))))) zlx5 (.blk 8 8 (Blk.mk (List.map dB (repO o (rnV (dlX b l q) o) j)) 5 true) (Blk.mk (List.map dB (o ++ List.replicate (rnT (Rn.mk (Prod.fst (nxR b l q)) (tkV b (Prod.fst (Prod.snd (nxR b l q))) (rb (Prod.fst (nxR b l q)))))) (rnV (dlX b l q) o))) 5 true) zlx2 (Hn.last last2 0 (() : Unit) rfl [(0, 0), (8, 8)] ro)))))))) (fun | ⟨j, hj, _⟩ => by kernel_rfl) ⟨(0), om, ⟨⟩⟩ [(0, 0), (8, 8)] ro (hs1 (fun | () => (.val 2 (iD ((↑(Prod.fst (Prod.snd (nxR b l q))) : Int) + (↑(rb (Prod.fst (nxR b l q))) : Int))) (nD (Prod.fst (Prod.snd (nxR b l q)) + rb (Prod.fst (nxR b l q)))) zlx1 (Hn.next next1 ⟨((nxR b l q).2.1 + rb (nxR b l q).1), zlx0, (o ++ List.replicate (rnT (dlX b l q)) (rnV (dlX b l q) o)), zlx6, zlx7, ⟨⟩⟩ zlx8 [(0, 0), (8, 8)] ro)))))))))))) (fun p8 => have p8f := odf p8; (.s 1 (.val 12 (D.ref 8 8 0 (List.length o) 1) (D.ref 8 8 0 (List.length (repO o (rnV (dlX b l q) o) 0)) 1) (by exact rfl) (.val 22 (D.v (Value.int .u8 0)) (D.v (Value.int .u8 (↑(UInt8.toNat (rnV (dlX b l q) o)) : Int))) zlx20 (.blk 8 8 (Blk.mk (List.map dB o) 5 true) (Blk.mk (List.map dB (repO o (rnV (dlX b l q) o) 0)) 5 true) (by exact rfl) (Hn.inl T_ok mixed false 103 0 (loopAt Try.prog 86 1) (fun (x : (j : Nat) ×' (hj : j ≤ (rnT (dlX b l q))) ×' Unit) => match x with | ⟨j, hj, _⟩ => CutS.mk [(1, D.sl false n 1 (List.map dB b)), (2, iD ((↑(Prod.fst (Prod.snd (nxR b l q))) : Int) + (↑(rb (Prod.fst (nxR b l q))) : Int))), (3, nD N), (11, D.ref 0 0 0 (List.length (mdL l)) 2), (12, (D.ref 8 8 0 ((repO o (rnV (dlX b l q) o) j).length) 1)), (20, nD (rnT (Rn.mk (Prod.fst (nxR b l q)) (tkV b (Prod.fst (Prod.snd (nxR b l q))) (rb (Prod.fst (nxR b l q))))))), (22, dB (rnV (dlX b l q) o)), (23, nD j)] [⟨0, 0, 0, 0, .b ⟨List.flatMap mdD (mdL l), 160, true⟩⟩, ⟨8, 8, 8, 8, .b ⟨(repO o (rnV (dlX b l q) o) j).map dB, 5, true⟩⟩] 16) (fun (x : (j : Nat) ×' (hj : j ≤ (rnT (dlX b l q))) ×' Unit) => match x with | ⟨j, hj, _⟩ => (rnT (dlX b l q)) - j) [⟨Unit, .exit 2, fun x => match x with | () => CutS.mk [(1, D.sl false n 1 (List.map dB b)), (2, iD ((↑(Prod.fst (Prod.snd (nxR b l q))) : Int) + (↑(rb (Prod.fst (nxR b l q))) : Int))), (3, nD N), (11, D.ref 0 0 0 (List.length (mdL l)) 2), (12, (D.ref 8 8 0 ((o ++ List.replicate (rnT (dlX b l q)) (rnV (dlX b l q) o)).length) 1)), (20, nD (rnT (Rn.mk (Prod.fst (nxR b l q)) (tkV b (Prod.fst (Prod.snd (nxR b l q))) (rb (Prod.fst (nxR b l q))))))), (23, nD (rnT (dlX b l q)))] [⟨0, 0, 0, 0, .b ⟨List.flatMap mdD (mdL l), 160, true⟩⟩, ⟨8, 8, 8, 8, .b ⟨(o ++ List.replicate (rnT (dlX b l q)) (rnV (dlX b l q) o)).map dB, 5, true⟩⟩] 16⟩] 1000 64 (fun | ⟨j, hj, _⟩, Q, next2, last2 => (.s 4 (.br (decide ((↑j : Int) < (↑(rnT (Rn.mk (Prod.fst (nxR b l q)) (tkV b (Prod.fst (Prod.snd (nxR b l q))) (rb (Prod.fst (nxR b l q)))))) : Int))) (fun p10 => have p10f := odt p10; (.s 5 (.chk (true && Nat.beq (List.length (repO o (rnV (dlX b l q) o) j) * 1) (List.length (List.map dB (repO o (rnV (dlX b l q) o) j))) && true && true && true && true && Nat.ble ((List.length (repO o (rnV (dlX b l q) o) j) + 1) * 1) 140737488355328) zlx3 (.s 4 (.ow ((↑j : Int) + 1) (.s 1 (.val 12 (D.ref 64 64 0 (List.length (repO o (rnV (dlX b l q) o) j) + 1) 1) (D.ref 64 64 0 (List.length (repO o (rnV (dlX b l q) o) (j + 1))) 1) (by (exact rp_ln)) (.val 23 (iD ((↑j : Int) + 1)) (nD (j + 1)) zlx1 (.blk 64 64 (Blk.mk (List.map dB (repO o (rnV (dlX b l q) o) j) ++ [D.v (Value.int .u8 (↑(UInt8.toNat (rnV (dlX b l q) o)) : Int))]) 5 true) (Blk.mk (List.map dB (repO o (rnV (dlX b l q) o) (j + 1))) 5 true) (by (refine blk_eq rp_blk)) (Hn.next next2 ⟨(j + 1), zlx0, ⟨⟩⟩ zlx4 [(0, 0), (64, 64)] ro)))))))))) (fun p10 => have p10f := odf p10; (.val 12 (D.ref 8 8 0 (List.length (repO o (rnV (dlX b l q) o) j)) 1) (D.ref 8 8 0 (List.length (o ++ List.replicate (rnT (Rn.mk (Prod.fst (nxR b l q)) (tkV b (Prod.fst (Prod.snd (nxR b l q))) (rb (Prod.fst (nxR b l q)))))) (rnV (dlX b l q) o))) 1) zlx2 (.val 23 (nD j) (nD (rnT (Rn.mk (Prod.fst (nxR b l q)) (tkV b (Prod.fst (Prod.snd (nxR b l q))) (rb (Prod.fst (nxR b l q))))))) zlx5 (.blk 8 8 (Blk.mk (List.map dB (repO o (rnV (dlX b l q) o) j)) 5 true) (Blk.mk (List.map dB (o ++ List.replicate (rnT (Rn.mk (Prod.fst (nxR b l q)) (tkV b (Prod.fst (Prod.snd (nxR b l q))) (rb (Prod.fst (nxR b l q)))))) (rnV (dlX b l q) o))) 5 true) zlx2 (Hn.last last2 0 (() : Unit) rfl [(0, 0), (8, 8)] ro)))))))) (fun | ⟨j, hj, _⟩ => by kernel_rfl) ⟨(0), om, ⟨⟩⟩ [(0, 0), (8, 8)] ro (hs1 (fun | () => (.val 2 (iD ((↑(Prod.fst (Prod.snd (nxR b l q))) : Int) + (↑(rb (Prod.fst (nxR b l q))) : Int))) (nD (Prod.fst (Prod.snd (nxR b l q)) + rb (Prod.fst (nxR b l q)))) zlx1 (Hn.next next1 ⟨((nxR b l q).2.1 + rb (nxR b l q).1), zlx0, (o ++ List.replicate (rnT (dlX b l q)) (rnV (dlX b l q) o)), zlx6, zlx7, ⟨⟩⟩ zlx8 [(0, 0), (8, 8)] ro))))))))))))))))))))))))))))))))))))))))) (fun p0 => have p0f := odf p0; (.abs (by ( have q1 := dl_0 hR om; rw [q1] at h; exact absurd rfl h))))))) (fun | ⟨q, hq, o, ho, hR, _⟩ => by kernel_rfl) ⟨(p), om, ([]), (by (simp; done)), (by (exact dlF_0 b l N p hr)), ⟨⟩⟩ [(32, 32), (56, 56)] ro (hs1 (fun | () => (.out [] [] (D.tup [nilD, iD 0, nD (Prod.snd (Prod.snd r))]) [] R (ok _ _ wr wr)))))))))) (by kernel_rfl)
theorem dl_nil {b l : List UInt8} {N : Nat} : ∀ (k p : Nat) (o : List UInt8), (dlF b l N k p o).2.2 ≠ 0 → dlF b l N k p o = ([], 0, (dlF b l N k p o).2.2)
 | 0, p, o, h => absurd rfl h
 | k + 1, p, o, h => by
  rw [dlF] at h ⊢
  split at h
  ·exact absurd rfl h
  ·next c1 =>
   rw [if_neg c1]
   split at h
   ·next c2 => rw [if_pos c2]
   ·next c2 =>
    rw [if_neg c2]
    split at h
    ·next c3 => rw [if_pos c3]
    ·next c3 =>
     rw [if_neg c3]
     split at h
     ·next c4 => rw [if_pos c4]
     ·next c4 => rw [if_neg c4]; exact dl_nil k _ _ h
theorem rLen_t (b : List UInt8) (n : Nat) (hn : n = b.length) (hN : n ≤ 1000000) (l : List UInt8) (k : Nat) (hk : k = l.length) (hl : k ≤ 19) (hT : canE l 15 = 0) (p : Nat) (hp : p ≤ 8 * n) (N : Nat) (hNN : N ≤ 320) (r : List UInt8 × Nat × Nat) (hr : dlR b l N p = r) : SpecH false Try.prog 86 [.sl false k 1 (l.map dB), .sl false n 1 (b.map dB), nD p, nD N] [] (.tup [.ref 0 0 0 r.1.length 1, nD r.2.1, nD r.2.2]) [⟨r.1.map dB, 5, true⟩] := by
 by_cases h : r.2.2 = 0
 ·have h1 := rLen_o b n hn hN l k hk hl hT p hp N hNN r hr h
  rw [h]; exact h1
 ·have h1 := rLen_e b n hn hN l k hk hl hT p hp N hNN r hr h
  have e : r = ([], 0, r.2.2) := by
   rw [← hr, dlR_eq] at h ⊢; exact dl_nil _ _ _ h
  rw [e]
  exact SpecH.nilA h1 _ (simN.tup ⟨simN.nil 0 1, simN.refl 0 _, simN.refl 0 _, trivial⟩)
end Vp
end Go.Proofs.Ytegjeagfcfhbeaa
namespace Go.Proofs.Ytegjeagfcfhbeaa
open Go.RowKit Go.Bw Go.Vx
namespace Vp
end Vp
end Go.Proofs.Ytegjeagfcfhbeaa
namespace Go.Proofs.Ytegjeagfcfhbeaa
open Go.RowKit Go.Bw Go.Vx
namespace Vp
structure Pre (c b : List UInt8) : Prop where
 l : c.length ≤ b.length
 g : ∀ i, i < c.length → c.getD i default = b.getD i default
theorem Pre.take (b : List UInt8) (n : Nat) : Pre (b.take n) b := by
 refine ⟨by rw [List.length_take]; omega, fun i h => ?_⟩
 rw [List.length_take] at h
 rw [List.getD_eq_getElem?_getD, List.getD_eq_getElem?_getD, List.getElem?_take_of_lt (by omega)]
section
variable {c b : List UInt8} (P : Pre c b)
include P
theorem Pre.num (p : Nat) : ∀ m, p + m ≤ 8 * c.length → numB c p m = numB b p m
 | 0, _ => rfl
 | m + 1, h => by
  rw [numB, numB, Pre.num p m (by omega)]
  unfold bitB
  rw [P.g ((p + m) / 8) (by omega)]
theorem Pre.tk (p m : Nat) : tkE c p m = 10 ∨ (tkE c p m = tkE b p m ∧ tkV c p m = tkV b p m) := by
 by_cases h : 8 * c.length < p + m
 ·exact .inl (tkE_0 h)
 ·have := P.l
  right
  rw [tkE_1 h, tkE_1 (by omega), tkV_1 h, tkV_1 (by omega)]
  exact ⟨rfl, P.num p m (by omega)⟩
theorem Pre.take_ (m : Nat) (s : Rs) : (tkS c m s).e = 10 ∨ (tkS c m s = tkS b m s ∧ tkN c m s = tkN b m s) := by
 by_cases h : s.e = 0
 ·rw [tkS_0 h, tkS_0 h, tkN_0 h, tkN_0 h]
  rcases P.tk s.p m with q | ⟨q1, q2⟩
  ·exact .inl q
  ·exact .inr ⟨by rw [q1], q2⟩
 ·rw [tkS_x h, tkS_x h, tkN_x h, tkN_x h]; exact .inr ⟨rfl, rfl⟩
theorem Pre.nxF (l : List UInt8) : ∀ (k a d p : Nat), (nxF c l k a d p).2.2 = 10 ∨ nxF c l k a d p = nxF b l k a d p
 | 0, _, _, _ => .inr rfl
 | k + 1, a, d, p => by
  rw [Vp.nxF, Vp.nxF]
  split
  ·exact .inr rfl
  ·rcases P.tk p 1 with q | ⟨q1, q2⟩
   ·rw [if_pos (by omega)]; exact .inl rfl
   ·rw [q1, q2]
    split
    ·exact .inl rfl
    ·split
     ·exact .inr rfl
     ·exact Pre.nxF l k _ _ _
theorem Pre.sy (l : List UInt8) (s : Rs) : (syS c l s).e = 10 ∨ (syS c l s = syS b l s ∧ syN c l s = syN b l s) := by
 by_cases h : s.e = 0
 ·rw [syS_0 h, syS_0 h, syN_0 h, syN_0 h, nxR_eq, nxR_eq]
  rcases P.nxF l 16 0 0 s.p with q | q
  ·exact .inl q
  ·rw [q]; exact .inr ⟨rfl, rfl⟩
 ·rw [syS_x h, syS_x h, syN_x h, syN_x h]; exact .inr ⟨rfl, rfl⟩
theorem Pre.nb (far : Bool) (y : Nat) (s : Rs) : (nbS c far y s).e = 10 ∨ (nbS c far y s = nbS b far y s ∧ nbN c far y s = nbN b far y s) := by
 by_cases h : s.e = 0
 ·have hT : (nbT c far y s).e = 10 ∨ (nbT c far y s = nbT b far y s ∧ nbX c far y s = nbX b far y s) := P.take_ _ _
  rcases hT with q | ⟨q1, q2⟩
  ·rw [(nbS_1 h (by omega)).1]; exact .inl q
  ·right
   by_cases h1 : (nbT c far y s).e = 0
   ·rw [(nbS_2 h h1).1, (nbS_2 h h1).2, (nbS_2 h (by rw [← q1]; exact h1)).1, (nbS_2 h (by rw [← q1]; exact h1)).2, q1, q2]; exact ⟨rfl, rfl⟩
   ·rw [(nbS_1 h h1).1, (nbS_1 h h1).2, (nbS_1 h (by rw [← q1]; exact h1)).1, (nbS_1 h (by rw [← q1]; exact h1)).2, q1]; exact ⟨rfl, rfl⟩
 ·rw [(nbS_x h).1, (nbS_x h).1, (nbS_x h).2, (nbS_x h).2]; exact .inr ⟨rfl, rfl⟩
theorem Pre.st (kd le : Nat) (l1 l2 : List UInt8) (s : Rs) : (stR c kd le l1 l2 s).1.e = 10 ∨ stR c kd le l1 l2 s = stR b kd le l1 l2 s := by
 by_cases h0 : kd = 0
 ·by_cases h1 : 0 < le
  ·rw [st_a h0 h1, st_a h0 h1]
   rcases P.take_ 8 s with q | ⟨q1, q2⟩
   ·exact .inl q
   ·rw [q1, q2]; exact .inr rfl
  ·rw [st_b h0 h1, st_b h0 h1]; exact .inr rfl
 ·rcases P.sy l1 s with q | ⟨q1, q2⟩
  ·rw [st_c h0 (by omega)]; exact .inl q
  ·by_cases h1 : (syS c l1 s).e = 0
   ·have h2 : (syS b l1 s).e = 0 := by rw [← q1]; exact h1
    rcases Nat.lt_trichotomy (syN c l1 s) 256 with h3 | h3 | h3
    ·rw [st_d h0 h1 h3, st_d h0 h2 (by rw [← q2]; exact h3), q1, q2]; exact .inr rfl
    ·rw [st_e h0 h1 h3, st_e h0 h2 (by rw [← q2]; exact h3), q1]; exact .inr rfl
    ·rw [st_f h0 h1 h3, st_f h0 h2 (by rw [← q2]; exact h3)]
     have e1 : (st2 c l1 s).e = 10 ∨ (st2 c l1 s = st2 b l1 s ∧ nbN c false (syN c l1 s) (syS c l1 s) = nbN b false (syN b l1 s) (syS b l1 s)) := by
      show (nbS c false (syN c l1 s) (syS c l1 s)).e = 10 ∨ (nbS c false (syN c l1 s) (syS c l1 s) = nbS b false (syN b l1 s) (syS b l1 s) ∧ _)
      rw [← q1, ← q2]; exact P.nb _ _ _
     rcases e1 with e1 | ⟨e1, e2⟩
     ·left
      show (nbS c true _ (syS c l2 (st2 c l1 s))).e = 10
      rw [syS_x (by omega), (nbS_x (by omega)).1]; exact e1
     ·rcases P.sy l2 (st2 c l1 s) with e3 | ⟨e3, e4⟩
      ·left
       show (nbS c true _ (syS c l2 (st2 c l1 s))).e = 10
       rw [(nbS_x (by omega)).1]; exact e3
      ·rcases P.nb true (syN c l2 (st2 c l1 s)) (syS c l2 (st2 c l1 s)) with e5 | ⟨e5, e6⟩
       ·exact .inl e5
       ·right
        rw [e5, e6, e3, e4, e1, e2]
   ·rw [st_c h0 h1, st_c h0 (by rw [← q1]; exact h1), q1]; exact .inr rfl
theorem Pre.rw (s : Rs) : ∀ i, (rwS c s i).e = 10 ∨ (rwS c s i = rwS b s i ∧ rwL c s i = rwL b s i)
 | 0 => .inr ⟨rfl, rfl⟩
 | i + 1 => by
  rw [rwS, rwS, rwL, rwL]
  rcases Pre.rw s i with q | ⟨q1, q2⟩
  ·left; rw [tkS_x (by omega)]; exact q
  ·rcases P.take_ 3 (rwS c s i) with e | ⟨e1, e2⟩
   ·exact .inl e
   ·right; rw [e1, e2, q1, q2]; exact ⟨rfl, rfl⟩
theorem Pre.lnC (l : List UInt8) (N : Nat) (s : Rs) (many k : Nat) : (lnC c l N s many k).e = 10 ∨ (lnC c l N s many k = lnC b l N s many k ∧ lnX c l s = lnX b l s) := by
 unfold Vp.lnC lnX
 rcases P.sy l s with q | ⟨q1, q2⟩
 ·left; rw [tkS_x (by omega), fl_x (by omega)]; exact q
 ·rcases P.take_ (rb (syN c l s)) (syS c l s) with e | ⟨e1, e2⟩
  ·left; rw [fl_x (by omega)]; exact e
  ·right; rw [e2, e1, q1, q2]; exact ⟨rfl, rfl⟩
theorem Pre.lnF (l : List UInt8) (N : Nat) : ∀ (k : Nat) (s : Rs) (many : Nat) (r : List Rn), (lnF c l N k s many r).1.e = 10 ∨ lnF c l N k s many r = lnF b l N k s many r
 | 0, _, _, _ => .inr rfl
 | k + 1, s, many, r => by
  rw [Vp.lnF, Vp.lnF]
  split
  ·exact .inr rfl
  ·rcases P.lnC l N s many r.length with q | ⟨q1, q2⟩
   ·left; rw [lnF_end (.inr (by omega))]; exact q
   ·rw [q1, q2]; exact Pre.lnF l N k _ _ _
theorem Pre.ln (l : List UInt8) (N : Nat) (s : Rs) : (lnS c l N s).e = 10 ∨ (lnS c l N s = lnS b l N s ∧ lnO c l N s = lnO b l N s) := by
 unfold lnS lnO
 rw [lnR_eq, lnR_eq]
 rcases P.lnF l N N s 0 [] with q | q
 ·left; rw [fl_x (by omega)]; exact q
 ·rw [q]; exact .inr ⟨rfl, rfl⟩
end
def dyG (b : List UInt8) (g f : Nat) (s5 : Rs) (W : List UInt8) : Rs × List UInt8 × List UInt8 :=
 let t := okL W 7
 let s6 := fl s5 (((canE W 7 : Nat) : Int) == 0) 132
 let s7 := fl s6 (decide ((1 : Int) < (((symsL t).length : Nat) : Int))) 132
 let N := g + 257 + (f + 1)
 let o := lnO b t N s7
 let s8 := lnS b t N s7
 if s8.e ≠ 0 then (s8, [], []) else
 let L1 := (o.drop 0).take (g + 257)
 let L2 := (o.drop (g + 257)).take (N - (g + 257))
 let s9 := fl s8 (decide ((0 : Int) < (((o.getD 256 default).toNat : Nat) : Int))) 132
 let s10 := fl s9 (((canE L1 15 : Nat) : Int) == 0) 132
 let s11 := fl s10 (((canE L1 15 : Nat) : Int) == 0) 132
 let s12 := fl s11 (((canE L2 15 : Nat) : Int) == 0) 132
 (s12, okL L1 15, okL L2 15)
def dyS4 (b : List UInt8) (s : Rs) : Rs := fl (tkS b 4 (tkS b 5 (tkS b 5 s))) (decide (tkN b 5 s + 257 ≤ 286) && decide (tkN b 5 (tkS b 5 s) + 1 ≤ 30)) 132
theorem dyR_g (b : List UInt8) (s : Rs) : dyR b s = dyG b (tkN b 5 s) (tkN b 5 (tkS b 5 s)) (rwS b (dyS4 b s) (tkN b 4 (tkS b 5 (tkS b 5 s)) + 4)) (rwL b (dyS4 b s) (tkN b 4 (tkS b 5 (tkS b 5 s)) + 4)) := rfl
theorem lnS_x {b l : List UInt8} {N : Nat} {s : Rs} (h : s.e ≠ 0) : lnS b l N s = s := by
 unfold lnS
 have : (lnR b l N s).1 = s := by rw [lnR_eq, lnF_end (.inr h)]
 rw [this, fl_x h]
theorem rwS_x {b : List UInt8} {s : Rs} (h : s.e ≠ 0) : ∀ i, rwS b s i = s
 | 0 => rfl
 | i + 1 => by rw [rwS, rwS_x h i, tkS_x h]
theorem dyG_x {b : List UInt8} {g f : Nat} {s : Rs} {W : List UInt8} (h : s.e ≠ 0) : dyG b g f s W = (s, [], []) := by
 unfold dyG
 dsimp only
 have e : ∀ (c d : Bool) (t : List UInt8) (N : Nat), lnS b t N (fl (fl s c 132) d 132) = s := fun c d t N => by rw [fl_x h, fl_x h, lnS_x h]
 rw [e, if_pos h]
section
variable {c b : List UInt8} (P : Pre c b)
include P
theorem Pre.dyG (g f : Nat) (s : Rs) (W : List UInt8) : (dyG c g f s W).1.e = 10 ∨ dyG c g f s W = dyG b g f s W := by
 unfold Vp.dyG
 dsimp only
 generalize fl (fl s _ 132) _ 132 = s7
 generalize okL W 7 = t
 generalize g + 257 + (f + 1) = N
 rcases P.ln t N s7 with q | ⟨q1, q2⟩
 ·left; rw [if_pos (by omega)]; exact q
 ·rw [q1, q2]; exact .inr rfl
theorem Pre.dy (s : Rs) : (dyR c s).1.e = 10 ∨ dyR c s = dyR b s := by
 rw [dyR_g, dyR_g]
 have a1 := P.take_ 5 s
 rcases a1 with q | ⟨p1, p2⟩
 ·left
  have e : dyS4 c s = tkS c 5 s := by unfold dyS4; rw [tkS_x (s := tkS c 5 s) (by omega), tkS_x (s := tkS c 5 s) (by omega), fl_x (by omega)]
  rw [e, rwS_x (by omega), dyG_x (by omega)]; exact q
 ·rw [p2, p1]
  have a2 := P.take_ 5 (tkS b 5 s)
  rcases a2 with q | ⟨p3, p4⟩
  ·left
   have e : dyS4 c s = tkS c 5 (tkS b 5 s) := by unfold dyS4; rw [p1, tkS_x (s := tkS c 5 (tkS b 5 s)) (by omega), fl_x (by omega)]
   rw [e, rwS_x (by omega), dyG_x (by omega)]; exact q
  ·rw [p4, p3]
   have a3 := P.take_ 4 (tkS b 5 (tkS b 5 s))
   rcases a3 with q | ⟨p5, p6⟩
   ·left
    have e : dyS4 c s = tkS c 4 (tkS b 5 (tkS b 5 s)) := by unfold dyS4; rw [p1, p3, fl_x (by omega)]
    rw [e, rwS_x (by omega), dyG_x (by omega)]; exact q
   ·rw [p6]
    have e : dyS4 c s = dyS4 b s := by unfold dyS4; rw [p1, p2, p3, p4, p5]
    rw [e]
    rcases P.rw (dyS4 b s) (tkN b 4 (tkS b 5 (tkS b 5 s)) + 4) with q | ⟨q1, q2⟩
    ·left; rw [dyG_x (by omega)]; exact q
    ·rw [q1, q2]; exact P.dyG _ _ _ _
theorem Pre.hd (s : Rs) : (hdR c s).s.e = 10 ∨ hdR c s = hdR b s := by
 rw [hdR_eq, hdR_eq]
 unfold hdD
 dsimp only
 rcases P.take_ 1 s with q | ⟨p1, p2⟩
 ·left
  have e : ∀ d : Bool, fl (tkS c 2 (tkS c 1 s)) d 130 = tkS c 1 s := fun d => by rw [tkS_x (by omega), fl_x (by omega)]
  rw [e, if_pos (by omega)]; exact q
 ·rw [p1, p2]
  rcases P.take_ 2 (tkS b 1 s) with q | ⟨p3, p4⟩
  ·left
   have e : ∀ d : Bool, fl (tkS c 2 (tkS b 1 s)) d 130 = tkS c 2 (tkS b 1 s) := fun d => by rw [fl_x (by omega)]
   rw [e, if_pos (by omega)]; exact q
  ·rw [p3, p4]
   generalize fl (tkS b 2 (tkS b 1 s)) (decide (((tkN b 2 (tkS b 1 s) : Nat) : Int) ≤ 2)) 130 = s3
   split
   ·exact .inr rfl
   ·split
    ·rcases P.take_ 16 ⟨(s3.p + 7) / 8 * 8, 0⟩ with q | ⟨p5, p6⟩
     ·left
      show (fl (tkS c 16 (tkS c 16 _)) _ 131).e = 10
      rw [tkS_x (s := tkS c 16 _) (by omega), fl_x (by omega)]; exact q
     ·rw [p5, p6]
      rcases P.take_ 16 (tkS b 16 ⟨(s3.p + 7) / 8 * 8, 0⟩) with q | ⟨p7, p8⟩
      ·left
       show (fl (tkS c 16 (tkS b 16 _)) _ 131).e = 10
       rw [fl_x (by omega)]; exact q
      ·rw [p7, p8]; exact .inr rfl
    ·split
     ·exact .inr rfl
     ·rcases P.dy s3 with q | q
      ·exact .inl q
      ·rw [q]; exact .inr rfl
end
theorem cpF_pre (d : Nat) (o : List UInt8) : ∀ k, o <+: cpF d k o
 | 0 => List.prefix_refl o
 | k + 1 => by rw [cpF]; exact (cpF_pre d o k).trans (List.prefix_append _ _)
theorem plT_pre (lit d long : Nat) (o : List UInt8) : o <+: plT lit d long o := by
 unfold plT; split
 ·exact List.prefix_append _ _
 ·exact cpF_pre d o _
theorem tl_pre (b : List UInt8) (most : Int) : ∀ (k : Nat) (m : Option Kb) (s : Rs) (o : List UInt8), o <+: (tlF b most k m s o).2
 | 0, _, _, _ => List.prefix_refl _
 | k + 1, none, s, o => by rw [tlF]; exact tl_pre b most k _ _ _
 | k + 1, some K, s, o => by
  rw [tlF]
  split
  ·split
   ·exact List.prefix_refl _
   ·exact tl_pre b most k _ _ _
  ·split
   ·exact List.prefix_refl _
   ·exact (plT_pre _ _ _ o).trans (tl_pre b most k _ _ _)
theorem Pre.tl {c b : List UInt8} (P : Pre c b) (most : Int) : ∀ (k : Nat) (m : Option Kb) (s : Rs) (o : List UInt8), ((tlF c most k m s o).1.e = 10 ∧ (tlF c most k m s o).2 <+: (tlF b most k m s o).2) ∨ tlF c most k m s o = tlF b most k m s o
 | 0, _, _, _ => .inr rfl
 | k + 1, none, s, o => by
  rcases P.hd s with q | q
  ·left
   have e : tlF c most (k + 1) none s o = ((hdR c s).s, o) := by rw [tlF, tl_err _ _ _ _ (by omega)]
   rw [e]
   exact ⟨q, tl_pre b most (k + 1) none s o⟩
  ·rw [tlF, tlF]
   unfold kbH
   rw [q]
   exact Pre.tl P most k _ _ _
 | k + 1, some K, s, o => by
  rcases P.st K.kd K.le K.l1 K.l2 s with q | q
  ·left
   have e : tlF c most (k + 1) (some K) s o = ((stK c K s).1, o) := by
    have q0 : (stK c K s).1.e ≠ 0 := by show (stR c K.kd K.le K.l1 K.l2 s).1.e ≠ 0; omega
    rw [tlF, if_pos (.inl q0), if_pos (.inl q0)]
   rw [e]
   exact ⟨q, tl_pre b most (k + 1) (some K) s o⟩
  ·have q : stK c K s = stK b K s := q
   rw [tlF, tlF, q]
   split
   ·split
    ·exact .inr rfl
    ·exact Pre.tl P most k _ _ _
   ·split
    ·exact .inr rfl
    ·exact Pre.tl P most k _ _ _
theorem Pre.all {c b : List UInt8} (P : Pre c b) (most : Int) : ((allR c most 0).1.e = 10 ∧ (allR c most 0).2 <+: (allR b most 0).2) ∨ allR c most 0 = allR b most 0 := by
 unfold allR
 rw [tlR_eq, tlR_eq]
 have h1 := P.l
 have e : tlF c most (mu c none (s0 0)) none (s0 0) [] = tlF c most (mu b none (s0 0)) none (s0 0) [] := by
  refine tl_fuel _ _ _ _ _ (fun _ => Nat.zero_le _) (Nat.le_refl _) ?_
  rw [mu_none rfl, mu_none rfl]
  show 2 * (8 * c.length + 1 - 0) ≤ 2 * (8 * b.length + 1 - 0)
  omega
 rw [e]
 exact P.tl most _ _ _ _
end Vp
end Go.Proofs.Ytegjeagfcfhbeaa
namespace Go.Proofs.Ytegjeagfcfhbeaa
open Go.RowKit Go.Bw Go.Vx
namespace Vp
theorem zmx0 {p : Prop} (h : p := by ( rw [show i = h from by omega])) : p := h
theorem zmx1 {p : Prop} (h : p := by exact (And.intro (D.sim.refl _) (And.intro (D.sim.of_eq (by (refine iv_eq ?_; (omega)))) (And.intro (D.sim.refl _) trivial)))) : p := h
theorem zmx2 {p : Prop} (h : p := by (exact Nat.le_trans (Nat.add_le_add hp (Nat.mul_le_mul_left 3 (Nat.le_trans hi hh))) om)) : p := h
theorem zmx3 {p : Prop} (h : p := by (simp only [Bool.true_and, List.length_map, rwL_len]; refine Nat.ble_eq_true_of_le ?_; have h9 := ord_lt i; omega)) : p := h
theorem zmx4 {p : Prop} (h : p := by ( have q := tkV_lt b (p + 3 * i) 3; refine blk_eq (sh_b hS (by simp only [Nat.mul_one, Nat.zero_add]) om))) : p := h
theorem zmx5 {p : Prop} (h : p := by exact (And.intro (D.sim.slw rfl (cond_t (by (simp [hl]; done)) |>.trans rfl)) (And.intro (D.sim.refl _) trivial))) : p := h
theorem zmx6 {p : Prop} (h : p := by exact (And.intro (D.sim.slw rfl (cond_t (by (simp [hl]; done)) |>.trans rfl)) trivial)) : p := h
theorem tkE_10 {b : List UInt8} {p m : Nat} (h : tkE b p m ≠ 0) : tkE b p m = 10 := by
 rcases Nat.lt_or_ge (8 * b.length) (p + m) with q | q
 ·exact tkE_0 q
 ·exact absurd (tkE_1 (by omega)) h
theorem rwS_st {b : List UInt8} {s : Rs} {i : Nat} (h : (rwS b s i).e ≠ 0) : ∀ k, rwS b s (i + k) = rwS b s i
 | 0 => rfl
 | k + 1 => by rw [← Nat.add_assoc, rwS, rwS_st h k, tkS_x h]
def shR (b : List UInt8) (p h : Nat) : List UInt8 × Nat × Nat := lk b (if (rwS b (rs0 p) h).e ≠ 0 then ([], 0, 10) else if canE (rwL b (rs0 p) h) 7 ≠ 0 ∨ kraft (rwL b (rs0 p) h) ≠ 32768 then ([], 0, 132) else (rwL b (rs0 p) h, p + 3 * h, 0))
section
variable {b : List UInt8} {p h i : Nat} {r : List UInt8 × Nat × Nat} (hr : shR b p h = r)
include hr
theorem sh_1 (h1 : (rwS b (rs0 p) h).e ≠ 0) : r = ([], 0, 10) := by rw [← hr]; exact (lk_eq _ _).trans (if_pos h1)
theorem sh_2 (h1 : (rwS b (rs0 p) h).e = 0) (h2 : canE (rwL b (rs0 p) h) 7 ≠ 0 ∨ kraft (rwL b (rs0 p) h) ≠ 32768) : r = ([], 0, 132) := by rw [← hr]; exact (lk_eq _ _).trans ((if_neg (by omega)).trans (if_pos h2))
theorem sh_3 (h1 : (rwS b (rs0 p) h).e = 0) (h2 : canE (rwL b (rs0 p) h) 7 = 0) (h3 : kraft (rwL b (rs0 p) h) = 32768) : r = (rwL b (rs0 p) h, p + 3 * h, 0) := by rw [← hr]; exact (lk_eq _ _).trans ((if_neg (by omega)).trans (if_neg (by omega)))
theorem sh_e (hi : i < h) (hS : rwS b (rs0 p) i = rs0 (p + 3 * i)) (he : tkE b (p + 3 * i) 3 ≠ 0) : r = ([], 0, tkE b (p + 3 * i) 3) := by
 have e1 : rwS b (rs0 p) (i + 1) = ⟨p + 3 * i + 3, tkE b (p + 3 * i) 3⟩ := by rw [rwS, hS, tkS_0 rfl]
 have e2 := rwS_st (b := b) (s := rs0 p) (i := i + 1) (by rw [e1]; exact he) (h - (i + 1))
 rw [show i + 1 + (h - (i + 1)) = h from by omega, e1] at e2
 rw [tkE_10 he]
 exact sh_1 hr (by rw [e2]; exact he)
end
theorem sh_s {b : List UInt8} {p i : Nat} (hS : rwS b (rs0 p) i = rs0 (p + 3 * i)) (he : tkE b (p + 3 * i) 3 = 0) : rwS b (rs0 p) (i + 1) = rs0 (p + 3 * (i + 1)) := by
 rw [rwS, hS, tkS_0 rfl, he]
 show (⟨p + 3 * i + 3, 0⟩ : Rs) = ⟨p + 3 * (i + 1), 0⟩
 rw [show p + 3 * i + 3 = p + 3 * (i + 1) from by omega]
theorem sh_b {b : List UInt8} {p i o : Nat} {x : Int} (hS : rwS b (rs0 p) i = rs0 (p + 3 * i)) (ho : o = ordN i) (hx : x = ((tkV b (p + 3 * i) 3 : Nat) : Int)) : setSeg ((rwL b (rs0 p) i).map dB) o [D.v (.int .u8 x)] = (rwL b (rs0 p) (i + 1)).map dB := by
 refine rw_set ho ?_
 have h := tkV_lt b (p + 3 * i) 3
 have e : tkN b 3 (rs0 (p + 3 * i)) = tkV b (p + 3 * i) 3 := tkN_0 rfl
 rw [hS, e, hx]
 unfold dB
 rw [UInt8.toNat_ofNat', Nat.mod_eq_of_lt (by omega)]
structure ShF (W : List UInt8) (r : List UInt8 × Nat × Nat) (p h : Nat) : Prop where
 a : canE W 7 ≠ 0 → r = ([], 0, 132)
 b : canE W 7 = 0 → overB W 15 = false
 c : canE W 7 = 0 → kraft W ≠ 32768 → r = ([], 0, 132)
 d : canE W 7 = 0 → kraft W = 32768 → r = (W, p + 3 * h, 0)
theorem shF {b : List UInt8} {p h i : Nat} {r : List UInt8 × Nat × Nat} (hr : shR b p h = r) (hi : i = h) (hS : rwS b (rs0 p) i = rs0 (p + 3 * i)) : ShF (rwL b (rs0 p) h) r p h := by
 subst hi
 have h0 : (rwS b (rs0 p) i).e = 0 := by rw [hS]
 refine ⟨?_, ?_, ?_, ?_⟩
 ·exact fun q => sh_2 hr h0 (.inl q)
 ·exact fun q => over_up (canE_0 q).2.1 (by decide)
 ·exact fun q q2 => sh_2 hr h0 (.inr q2)
 ·exact fun q q2 => sh_3 hr h0 q q2
theorem rSh_o (b : List UInt8) (n : Nat) (hn : n = b.length) (hN : n ≤ 1000000) (p : Nat) (hp : p ≤ 8 * n) (h : Nat) (hh : h ≤ 19) (r : List UInt8 × Nat × Nat) (hr : shR b p h = r) (h0 : r.2.2 = 0) : SpecH false Try.prog 85 [.sl false n 1 (b.map dB), nD p, nD h] [] (.tup [.ref 0 0 0 19 1, nD r.2.1, iD 0]) [⟨r.1.map dB, 5, true⟩] := by
 refine SpecH.run T_ok mixed Try.func85 rfl rfl rfl ⟨pl_bytes _, trivial⟩ rfl 1000 64 (fun R ok => (.s 24 (Hn.inl T_ok mixed false 53 0 (loopAt Try.prog 85 0) (fun (x : (i : Nat) ×' (hi : i ≤ h) ×' (hS : rwS b (rs0 p) i = rs0 (p + 3 * i)) ×' Unit) => match x with | ⟨i, hi, hS, _⟩ => CutS.mk [(0, D.sl false n 1 (List.map dB b)), (1, nD p), (2, nD h), (9, D.ref 0 0 0 19 1), (10, D.ptr 8 8 0), (11, nD i)] [⟨0, 0, 24, 24, .b ⟨(rwL b (rs0 p) i).map dB, 5, true⟩⟩, ⟨8, 8, 80, 80, .b ⟨[iD 16, iD 17, iD 18, iD 0, iD 8, iD 7, iD 9, iD 6, iD 10, iD 5, iD 11, iD 4, iD 12, iD 3, iD 13, iD 2, iD 14, iD 1, iD 15], 142, false⟩⟩] 16) (fun (x : (i : Nat) ×' (hi : i ≤ h) ×' (hS : rwS b (rs0 p) i = rs0 (p + 3 * i)) ×' Unit) => match x with | ⟨i, hi, hS, _⟩ => h - i) [⟨(W : List UInt8) ×' (hl : W.length = 19) ×' (hF : ShF W r p h) ×' Unit, .exit 0, fun x => match x with | ⟨W, hl, hF, _⟩ => CutS.mk [(0, D.sl false n 1 (List.map dB b)), (1, nD p), (2, nD h), (9, D.ref 0 0 0 19 1), (10, D.ptr 8 8 0), (11, nD h)] [⟨0, 0, 24, 24, .b ⟨W.map dB, 5, true⟩⟩, ⟨8, 8, 80, 80, .b ⟨[iD 16, iD 17, iD 18, iD 0, iD 8, iD 7, iD 9, iD 6, iD 10, iD 5, iD 11, iD 4, iD 12, iD 3, iD 13, iD 2, iD 14, iD 1, iD 15], 142, false⟩⟩] 16⟩] 1000 64 (fun | ⟨i, hi, hS, _⟩, Q, next1, last1 => (.s 4 (.br (decide ((↑i : Int) < (↑h : Int))) (fun p0 => have p0f := odt p0; (.s 5 (.ow (3 * (↑i : Int)) (.s 2 (.ow ((↑p : Int) + 3 * (↑i : Int)) (.s 1 (.call 51 false [] (true) wr ([D.sl false n 1 (List.map dB b), iD ((↑p : Int) + 3 * (↑i : Int)), iD 3]) _ zmx1 (true) wr _ _ _ (CallOk.fn (FnOk.of Try.func51 rfl rfl) (@rTake (b) (n) om om (p + 3 * i) (3) (by (simp; done)) zmx2)) (.s 10 (.br ((↑(tkE b (p + 3 * i) 3) : Int) != 0) (fun p1 => have p1f := of_bne_t p1; (.abs (by ( have q := sh_e hr om hS om; rw [q] at h0; exact absurd (show tkE b (p + 3 * i) 3 = 0 from h0) om)))) (fun p1 => have p1f := of_bne_f p1; (.s 3 (.chk (true && decide ((↑i : Int) < (↑19 : Int))) (by (refine decide_eq_true ?_; (omega))) (.s 3 (.opt ((List.map nD ordL)[0 + i * 1]?) (nD (ordN i)) (@ord_z i om) (.s 2 (.opt (wrapO .u8 (↑(tkV b (p + 3 * i) 3) : Int)) (D.v (Value.int .u8 ((↑(tkV b (p + 3 * i) 3) : Int) % 256))) (wrapO_eq _ _) (.s 1 (.chk (true && decide ((↑(ordN i) : Int) < (↑19 : Int))) (by (refine decide_eq_true ?_;  have h9 := ord_lt i; omega)) (.s 1 (.chk (true && Nat.ble (0 + ordN i * 1 + 1) (List.length (List.map dB (rwL b (Rs.mk p 0) i)))) zmx3 (.lst (setSeg (List.map dB (rwL b (Rs.mk p 0) i)) (0 + ordN i * 1) [D.v (Value.int .u8 ((↑(tkV b (p + 3 * i) 3) : Int) % 256))]) (setSeg (List.map dB (rwL b (Rs.mk p 0) i)) (ordN i) [D.v (Value.int .u8 ((↑(tkV b (p + 3 * i) 3) : Int) % 256))]) (by (simp; done)) (.s 3 (.ow ((↑i : Int) + 1) (.s 1 (.val 11 (iD ((↑i : Int) + 1)) (nD (i + 1)) (by (refine iv_eq ?_; (omega))) (.blk 0 0 (Blk.mk (setSeg (List.map dB (rwL b (Rs.mk p 0) i)) (ordN i) [D.v (Value.int .u8 ((↑(tkV b (p + 3 * i) 3) : Int) % 256))]) 5 true) (Blk.mk (List.map dB (rwL b (Rs.mk p 0) (i + 1))) 5 true) zmx4 (Hn.next next1 ⟨(i + 1), om, (by ( exact sh_s hS om)), ⟨⟩⟩ (by show h - (i + 1) < h - i; clear next1 last1; omega) [(0, 0), (8, 8)] ro))))))))))))))))))))))))))) (fun p0 => have p0f := odf p0; (.val 11 (nD i) (nD h) zmx0 (.blk 0 0 (Blk.mk (List.map dB (rwL b (Rs.mk p 0) i)) 5 true) (Blk.mk (List.map dB (rwL b (Rs.mk p 0) h)) 5 true) zmx0 (Hn.last last1 0 (⟨(rwL b (rs0 p) h), (by (exact rwL_len _ _ _)), (by ( exact shF hr om hS)), ⟨⟩⟩ : (W : List UInt8) ×' (hl : W.length = 19) ×' (hF : ShF W r p h) ×' Unit) rfl [(0, 0), (8, 8)] ro))))))) (fun | ⟨i, hi, hS, _⟩ => by kernel_rfl) ⟨(0), om, (by exact rfl), ⟨⟩⟩ [(24, 24), (80, 80)] ro (hs1 (fun | ⟨W, hl, hF, _⟩ => (.s 2 (.call 87 false [] (true && (true && Nat.ble 19 (List.length (List.map dB W)) && true && closedL (bif true && Nat.beq 19 (List.length (List.map dB W)) then List.map dB W else List.take 19 (List.drop 0 (List.map dB W)))) && true) (by (simp [hl]; done)) ([D.sl true 19 1 (bif true && Nat.beq 19 (List.length (List.map dB W)) then List.map dB W else List.take 19 (List.drop 0 (List.map dB W))), iD 7]) _ zmx5 (true) wr _ _ _ (CallOk.fn (FnOk.of Try.func87 rfl rfl) (@rCan (W) (19) om om (7) (by (simp [hl]; done)))) (.s 4 (.br ((↑(canE W 7) : Int) != 0) (fun p2 => have p2f := of_bne_t p2; (.abs (by ( have q := hF.a om; rw [q] at h0; exact absurd h0 (by decide))))) (fun p2 => have p2f := of_bne_f p2; (.s 2 (.call 117 false [] (true && (true && Nat.ble 19 (List.length (List.map dB W)) && true && closedL (bif true && Nat.beq 19 (List.length (List.map dB W)) then List.map dB W else List.take 19 (List.drop 0 (List.map dB W)))) && true) (by (simp [hl]; done)) ([D.sl true 19 1 (bif true && Nat.beq 19 (List.length (List.map dB W)) then List.map dB W else List.take 19 (List.drop 0 (List.map dB W)))]) _ zmx6 (true) wr _ _ _ (CallOk.fn (FnOk.of Try.func117 rfl rfl) (@rWhole (W) (19) om om (by ( exact hF.b om)) om)) (.s 3 (.br (!(↑(kraft W) : Int) == 32768) (fun p3 => have p3f := of_beq_f (not_t p3); (.abs (by ( have q := hF.c om om; rw [q] at h0; exact absurd h0 (by decide))))) (fun p3 => have p3f := eq_of_beq (not_f p3); (.s 5 (.ow (3 * (↑h : Int)) (.s 2 (.ow ((↑p : Int) + 3 * (↑h : Int)) (.s 3 (.out [0] [0] (D.tup [D.ref 0 0 0 19 1, iD ((↑p : Int) + 3 * (↑h : Int)), iD 0]) [Blk.mk (List.map dB W) 5 true] R (ok _ _ (by ( have q := hF.d om om; rw [q]; first | done | rfl)) (by ( have q := hF.d om om; rw [q]; first | done | rfl)))))))))))))))))))))))) (by kernel_rfl)
theorem rSh_e (b : List UInt8) (n : Nat) (hn : n = b.length) (hN : n ≤ 1000000) (p : Nat) (hp : p ≤ 8 * n) (h : Nat) (hh : h ≤ 19) (r : List UInt8 × Nat × Nat) (hr : shR b p h = r) (h0 : r.2.2 ≠ 0) : SpecH false Try.prog 85 [.sl false n 1 (b.map dB), nD p, nD h] [] (.tup [nilD, iD 0, nD r.2.2]) [] := by
 refine SpecH.run T_ok mixed Try.func85 rfl rfl rfl trivial rfl 1000 64 (fun R ok => (.s 24 (Hn.inl T_ok mixed false 53 0 (loopAt Try.prog 85 0) (fun (x : (i : Nat) ×' (hi : i ≤ h) ×' (hS : rwS b (rs0 p) i = rs0 (p + 3 * i)) ×' Unit) => match x with | ⟨i, hi, hS, _⟩ => CutS.mk [(0, D.sl false n 1 (List.map dB b)), (1, nD p), (2, nD h), (9, D.ref 0 0 0 19 1), (10, D.ptr 8 8 0), (11, nD i)] [⟨0, 0, 24, 24, .b ⟨(rwL b (rs0 p) i).map dB, 5, true⟩⟩, ⟨8, 8, 80, 80, .b ⟨[iD 16, iD 17, iD 18, iD 0, iD 8, iD 7, iD 9, iD 6, iD 10, iD 5, iD 11, iD 4, iD 12, iD 3, iD 13, iD 2, iD 14, iD 1, iD 15], 142, false⟩⟩] 16) (fun (x : (i : Nat) ×' (hi : i ≤ h) ×' (hS : rwS b (rs0 p) i = rs0 (p + 3 * i)) ×' Unit) => match x with | ⟨i, hi, hS, _⟩ => h - i) [⟨(W : List UInt8) ×' (hl : W.length = 19) ×' (hF : ShF W r p h) ×' Unit, .exit 0, fun x => match x with | ⟨W, hl, hF, _⟩ => CutS.mk [(0, D.sl false n 1 (List.map dB b)), (1, nD p), (2, nD h), (9, D.ref 0 0 0 19 1), (10, D.ptr 8 8 0), (11, nD h)] [⟨0, 0, 24, 24, .b ⟨W.map dB, 5, true⟩⟩, ⟨8, 8, 80, 80, .b ⟨[iD 16, iD 17, iD 18, iD 0, iD 8, iD 7, iD 9, iD 6, iD 10, iD 5, iD 11, iD 4, iD 12, iD 3, iD 13, iD 2, iD 14, iD 1, iD 15], 142, false⟩⟩] 16⟩, ⟨Unit, .ret, fun x => match x with | () => CutS.mk [(6, nilD), (7, iD 0), (8, nD r.2.2)] [⟨8, 8, 80, 80, .b ⟨[iD 16, iD 17, iD 18, iD 0, iD 8, iD 7, iD 9, iD 6, iD 10, iD 5, iD 11, iD 4, iD 12, iD 3, iD 13, iD 2, iD 14, iD 1, iD 15], 142, false⟩⟩] 16⟩] 1000 64 (fun | ⟨i, hi, hS, _⟩, Q, next1, last1 => (.s 4 (.br (decide ((↑i : Int) < (↑h : Int))) (fun p0 => have p0f := odt p0; (.s 5 (.ow (3 * (↑i : Int)) (.s 2 (.ow ((↑p : Int) + 3 * (↑i : Int)) (.s 1 (.call 51 false [] (true) wr ([D.sl false n 1 (List.map dB b), iD ((↑p : Int) + 3 * (↑i : Int)), iD 3]) _ zmx1 (true) wr _ _ _ (CallOk.fn (FnOk.of Try.func51 rfl rfl) (@rTake (b) (n) om om (p + 3 * i) (3) (by (simp; done)) zmx2)) (.s 10 (.br ((↑(tkE b (p + 3 * i) 3) : Int) != 0) (fun p1 => have p1f := of_bne_t p1; (.s 4 (.val 8 (nD (tkE b (p + 3 * i) 3)) (nD (Prod.snd (Prod.snd r))) (by ( rw [sh_e hr om hS om]; first | done | rfl)) (Hn.last last1 1 (() : Unit) rfl [(8, 8)] ro)))) (fun p1 => have p1f := of_bne_f p1; (.s 3 (.chk (true && decide ((↑i : Int) < (↑19 : Int))) (by (refine decide_eq_true ?_; (omega))) (.s 3 (.opt ((List.map nD ordL)[0 + i * 1]?) (nD (ordN i)) (@ord_z i om) (.s 2 (.opt (wrapO .u8 (↑(tkV b (p + 3 * i) 3) : Int)) (D.v (Value.int .u8 ((↑(tkV b (p + 3 * i) 3) : Int) % 256))) (wrapO_eq _ _) (.s 1 (.chk (true && decide ((↑(ordN i) : Int) < (↑19 : Int))) (by (refine decide_eq_true ?_;  have h9 := ord_lt i; omega)) (.s 1 (.chk (true && Nat.ble (0 + ordN i * 1 + 1) (List.length (List.map dB (rwL b (Rs.mk p 0) i)))) zmx3 (.lst (setSeg (List.map dB (rwL b (Rs.mk p 0) i)) (0 + ordN i * 1) [D.v (Value.int .u8 ((↑(tkV b (p + 3 * i) 3) : Int) % 256))]) (setSeg (List.map dB (rwL b (Rs.mk p 0) i)) (ordN i) [D.v (Value.int .u8 ((↑(tkV b (p + 3 * i) 3) : Int) % 256))]) (by (simp; done)) (.s 3 (.ow ((↑i : Int) + 1) (.s 1 (.val 11 (iD ((↑i : Int) + 1)) (nD (i + 1)) (by (refine iv_eq ?_; (omega))) (.blk 0 0 (Blk.mk (setSeg (List.map dB (rwL b (Rs.mk p 0) i)) (ordN i) [D.v (Value.int .u8 ((↑(tkV b (p + 3 * i) 3) : Int) % 256))]) 5 true) (Blk.mk (List.map dB (rwL b (Rs.mk p 0) (i + 1))) 5 true) zmx4 (Hn.next next1 ⟨(i + 1), om, (by ( exact sh_s hS om)), ⟨⟩⟩ (by show h - (i + 1) < h - i; clear next1 last1; omega) [(0, 0), (8, 8)] ro))))))))))))))))))))))))))) (fun p0 => have p0f := odf p0; (.val 11 (nD i) (nD h) zmx0 (.blk 0 0 (Blk.mk (List.map dB (rwL b (Rs.mk p 0) i)) 5 true) (Blk.mk (List.map dB (rwL b (Rs.mk p 0) h)) 5 true) zmx0 (Hn.last last1 0 (⟨(rwL b (rs0 p) h), (by (exact rwL_len _ _ _)), (by ( exact shF hr om hS)), ⟨⟩⟩ : (W : List UInt8) ×' (hl : W.length = 19) ×' (hF : ShF W r p h) ×' Unit) rfl [(0, 0), (8, 8)] ro))))))) (fun | ⟨i, hi, hS, _⟩ => by kernel_rfl) ⟨(0), om, (by exact rfl), ⟨⟩⟩ [(24, 24), (80, 80)] ro (hs2 (fun | ⟨W, hl, hF, _⟩ => (.s 2 (.call 87 false [] (true && (true && Nat.ble 19 (List.length (List.map dB W)) && true && closedL (bif true && Nat.beq 19 (List.length (List.map dB W)) then List.map dB W else List.take 19 (List.drop 0 (List.map dB W)))) && true) (by (simp [hl]; done)) ([D.sl true 19 1 (bif true && Nat.beq 19 (List.length (List.map dB W)) then List.map dB W else List.take 19 (List.drop 0 (List.map dB W))), iD 7]) _ zmx5 (true) wr _ _ _ (CallOk.fn (FnOk.of Try.func87 rfl rfl) (@rCan (W) (19) om om (7) (by (simp [hl]; done)))) (.s 4 (.br ((↑(canE W 7) : Int) != 0) (fun p2 => have p2f := of_bne_t p2; (.s 9 (.out [] [] (D.tup [nilD, iD 0, iD 132]) [] R (ok _ _ (by ( have q := hF.a om; rw [q]; first | done | rfl)) wr)))) (fun p2 => have p2f := of_bne_f p2; (.s 2 (.call 117 false [] (true && (true && Nat.ble 19 (List.length (List.map dB W)) && true && closedL (bif true && Nat.beq 19 (List.length (List.map dB W)) then List.map dB W else List.take 19 (List.drop 0 (List.map dB W)))) && true) (by (simp [hl]; done)) ([D.sl true 19 1 (bif true && Nat.beq 19 (List.length (List.map dB W)) then List.map dB W else List.take 19 (List.drop 0 (List.map dB W)))]) _ zmx6 (true) wr _ _ _ (CallOk.fn (FnOk.of Try.func117 rfl rfl) (@rWhole (W) (19) om om (by ( exact hF.b om)) om)) (.s 3 (.br (!(↑(kraft W) : Int) == 32768) (fun p3 => have p3f := of_beq_f (not_t p3); (.s 3 (.out [] [] (D.tup [nilD, iD 0, iD 132]) [] R (ok _ _ (by ( have q := hF.c om om; rw [q]; first | done | rfl)) wr)))) (fun p3 => have p3f := eq_of_beq (not_f p3); (.abs (by ( have q := hF.d om om; rw [q] at h0; exact absurd rfl h0)))))))))))))) (fun | () => (.out [] [] (D.tup [nilD, iD 0, nD (Prod.snd (Prod.snd r))]) [] R (ok _ _ wr wr))))))) (by kernel_rfl)
theorem sh_len {b : List UInt8} {p h : Nat} {r : List UInt8 × Nat × Nat} (hr : shR b p h = r) : (r.2.2 = 0 → r.1.length = 19) ∧ (r.2.2 ≠ 0 → r = ([], 0, r.2.2)) := by
 by_cases h1 : (rwS b (rs0 p) h).e = 0
 ·by_cases h2 : canE (rwL b (rs0 p) h) 7 ≠ 0 ∨ kraft (rwL b (rs0 p) h) ≠ 32768
  ·rw [sh_2 hr h1 h2]; exact ⟨fun q => absurd q (by decide), fun _ => rfl⟩
  ·rw [sh_3 hr h1 (by omega) (by omega)]; exact ⟨fun _ => rwL_len _ _ _, fun q => absurd rfl q⟩
 ·rw [sh_1 hr h1]; exact ⟨fun q => absurd q (by decide), fun _ => rfl⟩
theorem rSh_t (b : List UInt8) (n : Nat) (hn : n = b.length) (hN : n ≤ 1000000) (p : Nat) (hp : p ≤ 8 * n) (h : Nat) (hh : h ≤ 19) (r : List UInt8 × Nat × Nat) (hr : shR b p h = r) : SpecH false Try.prog 85 [.sl false n 1 (b.map dB), nD p, nD h] [] (.tup [.ref 0 0 0 r.1.length 1, nD r.2.1, nD r.2.2]) [⟨r.1.map dB, 5, true⟩] := by
 by_cases h0 : r.2.2 = 0
 ·have h1 := rSh_o b n hn hN p hp h hh r hr h0
  rw [h0, (sh_len hr).1 h0]; exact h1
 ·have h1 := rSh_e b n hn hN p hp h hh r hr h0
  rw [(sh_len hr).2 h0]
  exact SpecH.nilA h1 _ (simN.tup ⟨simN.nil 0 1, simN.refl 0 _, simN.refl 0 _, trivial⟩)
end Vp
end Go.Proofs.Ytegjeagfcfhbeaa

/- Part 8. -/
import Derived.Test.YtegjeagfcfhbeaaTm7
import Derived.Test.YtegjeagfcfhbeaaTm5
import Derived.Test.YtegjeagfcfhbeaaTm6
set_option linter.unusedVariables false
set_option linter.unusedSimpArgs false
set_option maxRecDepth 100000
set_option maxHeartbeats 4000000
namespace Go.Proofs.Ytegjeagfcfhbeaa
open Go.RowKit Go.Bw Go.Vx
namespace Vp
theorem zd0 {p : Prop} (h : p := by (refine decide_eq_false ?_; (omega))) : p := h
structure PlE (s : Rs) (p : Int) (z : Rs) : Prop where
 h : p = z.p
 e : s.e = 0
 e2 : z.e = 0
theorem takeP_16 (b : List UInt8) (n : Nat) (hn : n = b.length) (hN : n ≤ 1000000) (s : Rs) (p : Int) (z : Rs) (hp : PlE s p z) (hz : Rok n z) (x : Nat) (y : Rs) (hx : tkN b 16 z = x) (hy : tkS b 16 z = y) : SpecH true Try.prog 46 [.ptr 0 0 0, iD 16] [⟨[.sl false n 1 (b.map dB), iD p, nD s.e], 70, false⟩] (nD x) [⟨[.sl false n 1 (b.map dB), nD (y).p, nD (y).e], 70, false⟩] := by
 have h1 := takeV_16 b n hn hN z hz x y hx hy
 have e : s.e = z.e := by rw [hp.e, hp.e2]
 rw [hp.h, e]; exact h1
theorem head_e (b : List UInt8) (n : Nat) (hn : n = b.length) (hN : n ≤ 1000000) (s : Rs) (hs : Rok n s) (a kd : Nat) (s1 s2 s3 : Rs) (x1 : tkN b 1 s = a) (z1 : tkS b 1 s = s1) (x2 : tkN b 2 s1 = kd) (z2 : tkS b 2 s1 = s2) (z3 : FlE s2 (decide ((kd : Int) ≤ 2)) 130 s3) (h3 : s3.e ≠ 0) : SpecH true Try.prog 27 [.ptr 0 0 0] [⟨[.sl false n 1 (b.map dB), nD (s).p, nD (s).e], 70, false⟩] (.agg ([u8D kd, bD (((a : Nat) : Int) == 1), iD 0] ++ zeroC ++ zeroC)) [⟨[.sl false n 1 (b.map dB), nD (s3).p, nD (s3).e], 70, false⟩] := by
 have ha : a < 2 := by rw [← x1]; exact tkN_lt b 1 s
 have hk : kd < 4 := by rw [← x2]; exact tkN_lt b 2 s1
 have r1 : Rok n s1 := by rw [← z1]; subst hn; exact hs.tk _
 have r2 : Rok n s2 := by rw [← z2]; subst hn; exact r1.tk _
 have r3 : Rok n s3 := by rw [← z3.h]; exact r2.fl _ _
 refine SpecH.run T_ok mixed Try.func27 rfl rfl rfl ⟨rfl, trivial⟩ rfl 1000 64 (fun R ok => (.s 4 (.cl 46 true [0] (.fn q46 (@takeV_1 (b) (n) om om (s) om (a) (s1) asm asm)) (.s 10 (.cl 46 true [0] (.fn q46 (@takeV_2 (b) (n) om om (s1) om (kd) (s2) asm asm)) (.s 1 (.opt (wrapO .u8 (↑kd : Int)) (D.v (Value.int .u8 (↑kd : Int))) (wrapO_u8 om) (.s 16 (.cl 47 true [0] (.fn q47 (@failV_130 (b) (n) om om (s2) (decide ((↑kd : Int) ≤ 2)) (s3) asm)) (.s 11 (.t ((↑(Rs.e s3) : Int) != 0) (by (simp <;> (omega))) (.s 10 (.out [0] [0] (D.agg [D.v (Value.int .u8 (↑kd : Int)), D.v (.bool ((↑a : Int) == 1)), iD 0, iD 0, iD 0, iD 0, iD 0, iD 0, iD 0, iD 0, iD 0, iD 0, iD 0, iD 0, iD 0, iD 0, iD 0, iD 0, iD 0, nilD, iD 0, iD 0, iD 0, iD 0, iD 0, iD 0, iD 0, iD 0, iD 0, iD 0, iD 0, iD 0, iD 0, iD 0, iD 0, iD 0, nilD]) [Blk.mk [D.sl false n 1 (List.map dB b), nD (Rs.p s3), nD (Rs.e s3)] 70 false] R (ok _ _ (by exact rfl) wr)))))))))))))) (by kernel_rfl)
theorem head_s (b : List UInt8) (n : Nat) (hn : n = b.length) (hN : n ≤ 1000000) (s : Rs) (hs : Rok n s) (a kd : Nat) (s1 s2 s3 : Rs) (x1 : tkN b 1 s = a) (z1 : tkS b 1 s = s1) (x2 : tkN b 2 s1 = kd) (z2 : tkS b 2 s1 = s2) (z3 : FlE s2 (decide ((kd : Int) ≤ 2)) 130 s3) (h3 : s3.e = 0) (h0 : kd = 0) (s4 s5 s6 s7 : Rs) (le ag : Nat) (hp2 : PlE s3 ((((s3.p : Nat) : Int) + 7) / 8 * 8) s4) (x4 : tkN b 16 s4 = le) (z4 : tkS b 16 s4 = s5) (x5 : tkN b 16 s5 = ag) (z5 : tkS b 16 s5 = s6) (z6 : FlE s6 (((le : Nat) : Int) + ((ag : Nat) : Int) == 65535) 131 s7) : SpecH true Try.prog 27 [.ptr 0 0 0] [⟨[.sl false n 1 (b.map dB), nD (s).p, nD (s).e], 70, false⟩] (.agg ([u8D kd, bD (((a : Nat) : Int) == 1), nD le] ++ zeroC ++ zeroC)) [⟨[.sl false n 1 (b.map dB), nD (s7).p, nD (s7).e], 70, false⟩] := by
 have ha : a < 2 := by rw [← x1]; exact tkN_lt b 1 s
 have hk : kd < 4 := by rw [← x2]; exact tkN_lt b 2 s1
 have r1 : Rok n s1 := by rw [← z1]; subst hn; exact hs.tk _
 have r2 : Rok n s2 := by rw [← z2]; subst hn; exact r1.tk _
 have r3 : Rok n s3 := by rw [← z3.h]; exact r2.fl _ _
 have hle : le < 65536 := by rw [← x4]; exact tkN_lt b 16 s4
 have hag : ag < 65536 := by rw [← x5]; exact tkN_lt b 16 s5
 have ho3 : s3.p ≤ 8 * n := r3 h3
 have hp3 := hp2.h
 have r4 : Rok n s4 := fun _ => by omega
 have r5 : Rok n s5 := by rw [← z4]; subst hn; exact r4.tk _
 have r6 : Rok n s6 := by rw [← z5]; subst hn; exact r5.tk _
 refine SpecH.run T_ok mixed Try.func27 rfl rfl rfl ⟨rfl, trivial⟩ rfl 1000 64 (fun R ok => (.s 4 (.cl 46 true [0] (.fn q46 (@takeV_1 (b) (n) om om (s) om (a) (s1) asm asm)) (.s 10 (.cl 46 true [0] (.fn q46 (@takeV_2 (b) (n) om om (s1) om (kd) (s2) asm asm)) (.s 1 (.opt (wrapO .u8 (↑kd : Int)) (D.v (Value.int .u8 (↑kd : Int))) (wrapO_u8 om) (.s 16 (.cl 47 true [0] (.fn q47 (@failV_130 (b) (n) om om (s2) (decide ((↑kd : Int) ≤ 2)) (s3) asm)) (.s 11 (.f ((↑(Rs.e s3) : Int) != 0) (by (simp <;> (omega))) (.s 9 (.t ((↑kd : Int) == 0) (by (refine decide_eq_true ?_; (omega))) (.s 11 (.ow ((↑(Rs.p s3) : Int) + 7) (.s 2 (.opt (bitO IntKind.i64 (IntKind.wrap IntKind.i64 (Int.tdiv ((↑(Rs.p s3) : Int) + 7) 8))) (iD (((↑(Rs.p s3) : Int) + 7) / 8)) (bitO_of (@bx_quo_i64  ((↑(Rs.p s3) : Int) + 7) (8) om om)) (.s 2 (.ow (((↑(Rs.p s3) : Int) + 7) / 8 * 8) (.s 9 (.cl 46 true [0] (.fn q46 (@takeP_16 (b) (n) om om (s3) (((↑(Rs.p s3) : Int) + 7) / 8 * 8) (s4) asm om (le) (s5) asm asm)) (.s 8 (.cl 46 true [0] (.fn q46 (@takeV_16 (b) (n) om om (s5) om (ag) (s6) asm asm)) (.s 11 (.ow ((↑le : Int) + (↑ag : Int)) (.s 3 (.cl 47 true [0] (.fn q47 (@failV_131 (b) (n) om om (s6) ((↑le : Int) + (↑ag : Int) == 65535) (s7) asm)) (.s 10 (.out [0] [0] (D.agg [D.v (Value.int .u8 (↑kd : Int)), D.v (.bool ((↑a : Int) == 1)), nD le, iD 0, iD 0, iD 0, iD 0, iD 0, iD 0, iD 0, iD 0, iD 0, iD 0, iD 0, iD 0, iD 0, iD 0, iD 0, iD 0, nilD, iD 0, iD 0, iD 0, iD 0, iD 0, iD 0, iD 0, iD 0, iD 0, iD 0, iD 0, iD 0, iD 0, iD 0, iD 0, iD 0, nilD]) [Blk.mk [D.sl false n 1 (List.map dB b), nD (Rs.p s7), nD (Rs.e s7)] 70 false] R (ok _ _ (by exact rfl) wr)))))))))))))))))))))))))))))) (by kernel_rfl)
theorem head_f (b : List UInt8) (n : Nat) (hn : n = b.length) (hN : n ≤ 1000000) (s : Rs) (hs : Rok n s) (a kd : Nat) (s1 s2 s3 : Rs) (x1 : tkN b 1 s = a) (z1 : tkS b 1 s = s1) (x2 : tkN b 2 s1 = kd) (z2 : tkS b 2 s1 = s2) (z3 : FlE s2 (decide ((kd : Int) ≤ 2)) 130 s3) (h3 : s3.e = 0) (h0 : kd = 1) (L F : List UInt8) (hL : L = longsB) (hF : F = farsB) (y1 : L = List.take 288 (List.drop 0 L)) (y2 : F = List.take 32 (List.drop 0 F)) (l1 : L.length = 288) (l2 : F.length = 32) (w1 : okL L 15 = L) (w2 : okL F 15 = F) (z4 : fl s3 (((canE L 15 : Nat) : Int) == 0) 132 = s3) (z5 : fl s3 (((canE F 15 : Nat) : Int) == 0) 132 = s3) : SpecH true Try.prog 27 [.ptr 0 0 0] [⟨[.sl false n 1 (b.map dB), nD (s).p, nD (s).e], 70, false⟩] (.agg ([u8D kd, bD (((a : Nat) : Int) == 1), iD 0] ++ (c16 (cnt L) ++ [.ref 1 1 0 (symsL L).length 1]) ++ (c16 (cnt F) ++ [.ref 2 2 0 (symsL F).length 1]))) [⟨[.sl false n 1 (b.map dB), nD (s3).p, nD (s3).e], 70, false⟩, ⟨(symsL L).map nD, 3, true⟩, ⟨(symsL F).map nD, 3, true⟩] := by
 have ha : a < 2 := by rw [← x1]; exact tkN_lt b 1 s
 have hk : kd < 4 := by rw [← x2]; exact tkN_lt b 2 s1
 have r1 : Rok n s1 := by rw [← z1]; subst hn; exact hs.tk _
 have r2 : Rok n s2 := by rw [← z2]; subst hn; exact r1.tk _
 have r3 : Rok n s3 := by rw [← z3.h]; exact r2.fl _ _
 refine SpecH.run T_ok mixed Try.func27 rfl rfl rfl ⟨rfl, cl_nD _, cl_nD _, trivial⟩ rfl 1000 64 (fun R ok => (.s 4 (.cl 46 true [0] (.fn q46 (@takeV_1 (b) (n) om om (s) om (a) (s1) asm asm)) (.s 10 (.cl 46 true [0] (.fn q46 (@takeV_2 (b) (n) om om (s1) om (kd) (s2) asm asm)) (.s 1 (.opt (wrapO .u8 (↑kd : Int)) (D.v (Value.int .u8 (↑kd : Int))) (wrapO_u8 om) (.s 16 (.cl 47 true [0] (.fn q47 (@failV_130 (b) (n) om om (s2) (decide ((↑kd : Int) ≤ 2)) (s3) asm)) (.s 11 (.f ((↑(Rs.e s3) : Int) != 0) (by (simp <;> (omega))) (.s 9 (.f ((↑kd : Int) == 0) zd0 (.s 9 (.t ((↑kd : Int) == 1) (by (refine decide_eq_true ?_; (omega))) (.s 1 (.cl 48 false [] (.fn q48 (@Fixed_t (L) (F) asm asm)) (.s 10 (.call 49 true [0, 241] (true) wr ([D.ptr 0 0 0, D.ref 1 1 0 288 1, iD 15]) _ (simL.refl _) (true && (closedL (List.map dB L) && true)) (by (simp; done)) _ _ _ (CallOk.fn (FnOk.of Try.func49 rfl rfl) (@growV_15 (b) (n) om om (s3) om (L) (0) (288) om om (L) asm (L) (s3) asm asm)) (.s 3 (.call 49 true [0, 242] (true) wr ([D.ptr 0 0 0, D.ref 1 1 0 32 1, iD 15]) _ (simL.refl _) (true && (closedL (List.map dB F) && true)) (by (simp; done)) _ _ _ (CallOk.fn (FnOk.of Try.func49 rfl rfl) (@growV_15 (b) (n) om om (s3) om (F) (0) (32) om om (F) asm (F) (s3) asm asm)) (.s 22 (.out [0, 305, 329] [0, 305, 329] (D.agg [D.v (Value.int .u8 (↑kd : Int)), D.v (.bool ((↑a : Int) == 1)), iD 0, nD (cnt L 0), nD (cnt L 1), nD (cnt L 2), nD (cnt L 3), nD (cnt L 4), nD (cnt L 5), nD (cnt L 6), nD (cnt L 7), nD (cnt L 8), nD (cnt L 9), nD (cnt L 10), nD (cnt L 11), nD (cnt L 12), nD (cnt L 13), nD (cnt L 14), nD (cnt L 15), D.ref 1 1 0 (List.length (symsL L)) 1, nD (cnt F 0), nD (cnt F 1), nD (cnt F 2), nD (cnt F 3), nD (cnt F 4), nD (cnt F 5), nD (cnt F 6), nD (cnt F 7), nD (cnt F 8), nD (cnt F 9), nD (cnt F 10), nD (cnt F 11), nD (cnt F 12), nD (cnt F 13), nD (cnt F 14), nD (cnt F 15), D.ref 2 2 0 (List.length (symsL F)) 1]) [Blk.mk [D.sl false n 1 (List.map dB b), nD (Rs.p s3), nD (Rs.e s3)] 70 false, Blk.mk (List.map nD (symsL L)) 3 true, Blk.mk (List.map nD (symsL F)) 3 true] R (ok _ _ (by exact rfl) wr)))))))))))))))))))))))) (by kernel_rfl)
theorem head_de (b : List UInt8) (n : Nat) (hn : n = b.length) (hN : n ≤ 1000000) (s : Rs) (hs : Rok n s) (a kd : Nat) (s1 s2 s3 : Rs) (x1 : tkN b 1 s = a) (z1 : tkS b 1 s = s1) (x2 : tkN b 2 s1 = kd) (z2 : tkS b 2 s1 = s2) (z3 : FlE s2 (decide ((kd : Int) ≤ 2)) 130 s3) (h3 : s3.e = 0) (h0 : kd = 2) (g f h : Nat) (d1 d2 d3 d4 d5 d6 d7 d8 : Rs) (W t : List UInt8) (N : Nat) (o : List UInt8) (Dh : DyA b s3 g f h d1 d2 d3 d4 d5 d6 d7 d8 W t N o) (he : d8.e ≠ 0) : SpecH true Try.prog 27 [.ptr 0 0 0] [⟨[.sl false n 1 (b.map dB), nD (s).p, nD (s).e], 70, false⟩] (.agg ([u8D kd, bD (((a : Nat) : Int) == 1), iD 0] ++ zeroC ++ zeroC)) [⟨[.sl false n 1 (b.map dB), nD (d8).p, nD (d8).e], 70, false⟩] := by
 have ha : a < 2 := by rw [← x1]; exact tkN_lt b 1 s
 have hk : kd < 4 := by rw [← x2]; exact tkN_lt b 2 s1
 have r1 : Rok n s1 := by rw [← z1]; subst hn; exact hs.tk _
 have r2 : Rok n s2 := by rw [← z2]; subst hn; exact r1.tk _
 have r3 : Rok n s3 := by rw [← z3.h]; exact r2.fl _ _
 refine SpecH.run T_ok mixed Try.func27 rfl rfl rfl ⟨rfl, trivial⟩ rfl 1000 64 (fun R ok => (.s 4 (.cl 46 true [0] (.fn q46 (@takeV_1 (b) (n) om om (s) om (a) (s1) asm asm)) (.s 10 (.cl 46 true [0] (.fn q46 (@takeV_2 (b) (n) om om (s1) om (kd) (s2) asm asm)) (.s 1 (.opt (wrapO .u8 (↑kd : Int)) (D.v (Value.int .u8 (↑kd : Int))) (wrapO_u8 om) (.s 16 (.cl 47 true [0] (.fn q47 (@failV_130 (b) (n) om om (s2) (decide ((↑kd : Int) ≤ 2)) (s3) asm)) (.s 11 (.f ((↑(Rs.e s3) : Int) != 0) (by (simp <;> (omega))) (.s 9 (.f ((↑kd : Int) == 0) zd0 (.s 9 (.f ((↑kd : Int) == 1) zd0 (.s 2 (.cl 50 true [0, 1] (.fn q50 (@dyn_e (b) (n) om om (s3) om (kd) (0) ((↑a : Int) == 1) (g) (f) (h) (d1) (d2) (d3) (d4) (d5) (d6) (d7) (d8) (W) (t) (N) (o) asm om)) (.s 10 (.out [0] [0] (D.agg [D.v (Value.int .u8 (↑kd : Int)), D.v (.bool ((↑a : Int) == 1)), iD 0, iD 0, iD 0, iD 0, iD 0, iD 0, iD 0, iD 0, iD 0, iD 0, iD 0, iD 0, iD 0, iD 0, iD 0, iD 0, iD 0, nilD, iD 0, iD 0, iD 0, iD 0, iD 0, iD 0, iD 0, iD 0, iD 0, iD 0, iD 0, iD 0, iD 0, iD 0, iD 0, iD 0, nilD]) [Blk.mk [D.sl false n 1 (List.map dB b), nD (Rs.p d8), nD (Rs.e d8)] 70 false] R (ok _ _ (by exact rfl) wr)))))))))))))))))))) (by kernel_rfl)
theorem head_dl (b : List UInt8) (n : Nat) (hn : n = b.length) (hN : n ≤ 1000000) (s : Rs) (hs : Rok n s) (a kd : Nat) (s1 s2 s3 : Rs) (x1 : tkN b 1 s = a) (z1 : tkS b 1 s = s1) (x2 : tkN b 2 s1 = kd) (z2 : tkS b 2 s1 = s2) (z3 : FlE s2 (decide ((kd : Int) ≤ 2)) 130 s3) (h3 : s3.e = 0) (h0 : kd = 2) (g f h : Nat) (d1 d2 d3 d4 d5 d6 d7 d8 : Rs) (W t : List UInt8) (N : Nat) (o : List UInt8) (Dh : DyA b s3 g f h d1 d2 d3 d4 d5 d6 d7 d8 W t N o) (G : Nat) (eG : G = g + 257) (s9 s10 s11 s12 : Rs) (L1 L2 t1 t2 : List UInt8) (Bh : DyB G N o d8 s9 s10 s11 s12 L1 L2 t1 t2) : SpecH true Try.prog 27 [.ptr 0 0 0] [⟨[.sl false n 1 (b.map dB), nD (s).p, nD (s).e], 70, false⟩] (.agg ([u8D kd, bD (((a : Nat) : Int) == 1), iD 0] ++ (c16 (cnt t1) ++ [.ref 1 1 0 (symsL t1).length 1]) ++ (c16 (cnt t2) ++ [.ref 2 2 0 (symsL t2).length 1]))) [⟨[.sl false n 1 (b.map dB), nD (s12).p, nD (s12).e], 70, false⟩, ⟨(symsL t1).map nD, 3, true⟩, ⟨(symsL t2).map nD, 3, true⟩] := by
 have ha : a < 2 := by rw [← x1]; exact tkN_lt b 1 s
 have hk : kd < 4 := by rw [← x2]; exact tkN_lt b 2 s1
 have r1 : Rok n s1 := by rw [← z1]; subst hn; exact hs.tk _
 have r2 : Rok n s2 := by rw [← z2]; subst hn; exact r1.tk _
 have r3 : Rok n s3 := by rw [← z3.h]; exact r2.fl _ _
 refine SpecH.run T_ok mixed Try.func27 rfl rfl rfl ⟨rfl, cl_nD _, cl_nD _, trivial⟩ rfl 1000 64 (fun R ok => (.s 4 (.cl 46 true [0] (.fn q46 (@takeV_1 (b) (n) om om (s) om (a) (s1) asm asm)) (.s 10 (.cl 46 true [0] (.fn q46 (@takeV_2 (b) (n) om om (s1) om (kd) (s2) asm asm)) (.s 1 (.opt (wrapO .u8 (↑kd : Int)) (D.v (Value.int .u8 (↑kd : Int))) (wrapO_u8 om) (.s 16 (.cl 47 true [0] (.fn q47 (@failV_130 (b) (n) om om (s2) (decide ((↑kd : Int) ≤ 2)) (s3) asm)) (.s 11 (.f ((↑(Rs.e s3) : Int) != 0) (by (simp <;> (omega))) (.s 9 (.f ((↑kd : Int) == 0) zd0 (.s 9 (.f ((↑kd : Int) == 1) zd0 (.s 2 (.cl 50 true [0, 1] (.fn q50 (@dyn_l (b) (n) om om (s3) om (kd) (0) ((↑a : Int) == 1) (g) (f) (h) (d1) (d2) (d3) (d4) (d5) (d6) (d7) (d8) (W) (t) (N) (o) asm (G) asm (s9) (s10) (s11) (s12) (L1) (L2) (t1) (t2) asm)) (.s 10 (.out [0, 249, 250] [0, 249, 250] (D.agg [D.v (Value.int .u8 (↑kd : Int)), D.v (.bool ((↑a : Int) == 1)), iD 0, nD (cnt t1 0), nD (cnt t1 1), nD (cnt t1 2), nD (cnt t1 3), nD (cnt t1 4), nD (cnt t1 5), nD (cnt t1 6), nD (cnt t1 7), nD (cnt t1 8), nD (cnt t1 9), nD (cnt t1 10), nD (cnt t1 11), nD (cnt t1 12), nD (cnt t1 13), nD (cnt t1 14), nD (cnt t1 15), D.ref 1 1 0 (List.length (symsL t1)) 1, nD (cnt t2 0), nD (cnt t2 1), nD (cnt t2 2), nD (cnt t2 3), nD (cnt t2 4), nD (cnt t2 5), nD (cnt t2 6), nD (cnt t2 7), nD (cnt t2 8), nD (cnt t2 9), nD (cnt t2 10), nD (cnt t2 11), nD (cnt t2 12), nD (cnt t2 13), nD (cnt t2 14), nD (cnt t2 15), D.ref 2 2 0 (List.length (symsL t2)) 1]) [Blk.mk [D.sl false n 1 (List.map dB b), nD (Rs.p s12), nD (Rs.e s12)] 70 false, Blk.mk (List.map nD (symsL t1)) 3 true, Blk.mk (List.map nD (symsL t2)) 3 true] R (ok _ _ (by exact rfl) wr)))))))))))))))))))) (by kernel_rfl)
def dyR (b : List UInt8) (s : Rs) : Rs × List UInt8 × List UInt8 :=
 let g := tkN b 5 s
 let s1 := tkS b 5 s
 let f := tkN b 5 s1
 let s2 := tkS b 5 s1
 let h := tkN b 4 s2
 let s3 := tkS b 4 s2
 let s4 := fl s3 (decide (g + 257 ≤ 286) && decide (f + 1 ≤ 30)) 132
 let s5 := rwS b s4 (h + 4)
 let W := rwL b s4 (h + 4)
 let t := okL W 7
 let s6 := fl s5 (((canE W 7 : Nat) : Int) == 0) 132
 let s7 := fl s6 (decide ((1 : Int) < (((symsL t).length : Nat) : Int))) 132
 let N := g + 257 + (f + 1)
 let o := lnO b t N s7
 let s8 := lnS b t N s7
 if s8.e ≠ 0 then (s8, [], []) else
 let L1 := (o.drop 0).take (g + 257)
 let L2 := (o.drop (g + 257)).take (N - (g + 257))
 let s9 := fl s8 (decide ((0 : Int) < (((o.getD 256 default).toNat : Nat) : Int))) 132
 let s10 := fl s9 (((canE L1 15 : Nat) : Int) == 0) 132
 let s11 := fl s10 (((canE L1 15 : Nat) : Int) == 0) 132
 let s12 := fl s11 (((canE L2 15 : Nat) : Int) == 0) 132
 (s12, okL L1 15, okL L2 15)
structure Hd where
 s : Rs
 kd : Nat
 la : Bool
 le : Nat
 l1 : List UInt8
 l2 : List UInt8
def hdD (b : List UInt8) (s : Rs) : Hd :=
 let a := tkN b 1 s
 let s1 := tkS b 1 s
 let kd := tkN b 2 s1
 let s2 := tkS b 2 s1
 let s3 := fl s2 (decide ((kd : Int) ≤ 2)) 130
 let la := ((a : Nat) : Int) == 1
 if s3.e ≠ 0 then ⟨s3, kd, la, 0, [], []⟩ else if kd = 0 then
  let s4 : Rs := ⟨(s3.p + 7) / 8 * 8, 0⟩
  let le := tkN b 16 s4
  let s5 := tkS b 16 s4
  let ag := tkN b 16 s5
  let s6 := tkS b 16 s5
  ⟨fl s6 (((le : Nat) : Int) + ((ag : Nat) : Int) == 65535) 131, kd, la, le, [], []⟩
 else if kd = 1 then ⟨s3, kd, la, 0, longsB, farsB⟩
 else ⟨(dyR b s3).1, kd, la, 0, (dyR b s3).2.1, (dyR b s3).2.2⟩
def hdR (b : List UInt8) (s : Rs) : Hd := lk b (hdD b s)
theorem hdR_eq (b : List UInt8) (s : Rs) : hdR b s = hdD b s := lk_eq _ _
theorem zeroNL (j : Nat) : simNL j zeroC (c16 (cnt []) ++ [.ref j j 0 0 1]) := simNL.app (a := [iD 0, iD 0, iD 0, iD 0, iD 0, iD 0, iD 0, iD 0, iD 0, iD 0, iD 0, iD 0, iD 0, iD 0, iD 0, iD 0]) (simNL.refl j _) ⟨simN.nil j 1, trivial⟩
theorem nil2 {f : FuncId} {ds : List D} {hin : List Blk} {x y z : D} {B : Blk} (h : SpecH true Try.prog f ds hin (.agg ([x, y, z] ++ zeroC ++ zeroC)) [B]) : SpecH true Try.prog f ds hin (.agg ([x, y, z] ++ (c16 (cnt []) ++ [.ref 1 1 0 (symsL []).length 1]) ++ (c16 (cnt []) ++ [.ref 2 2 0 (symsL []).length 1]))) [B, ⟨(symsL []).map nD, 3, true⟩, ⟨(symsL []).map nD, 3, true⟩] := by
 have h1 := SpecH.nilA h 3 (r' := .agg ([x, y, z] ++ (c16 (cnt []) ++ [.ref 1 1 0 0 1]) ++ zeroC)) (simN.agg ((simNL.refl 1 [x, y, z]).app (zeroNL 1) |>.app (simNL.refl 1 _)))
 exact SpecH.nilA h1 3 (r' := .agg ([x, y, z] ++ (c16 (cnt []) ++ [.ref 1 1 0 0 1]) ++ (c16 (cnt []) ++ [.ref 2 2 0 0 1]))) (show simN 2 _ _ from simN.agg ((simNL.refl 2 ([x, y, z] ++ (c16 (cnt []) ++ [.ref 1 1 0 0 1]))).app (zeroNL 2)))
theorem longs_len : longsB.length = 288 := by unfold longsB; rw [List.length_append, List.length_append, List.length_append, List.length_replicate, List.length_replicate, List.length_replicate, List.length_replicate]
theorem fars_len : farsB.length = 32 := by unfold farsB; rw [List.length_replicate]
theorem longs_can : canE longsB 15 = 0 := by decide +kernel
theorem fars_can : canE farsB 15 = 0 := by decide +kernel
theorem head_f2 (L F : List UInt8) (hL : L = longsB) (hF : F = farsB) (b : List UInt8) (n : Nat) (hn : n = b.length) (hN : n ≤ 1000000) (s : Rs) (hs : Rok n s) (a kd : Nat) (s1 s2 s3 : Rs) (x1 : tkN b 1 s = a) (z1 : tkS b 1 s = s1) (x2 : tkN b 2 s1 = kd) (z2 : tkS b 2 s1 = s2) (z3 : FlE s2 (decide ((kd : Int) ≤ 2)) 130 s3) (h3 : s3.e = 0) (h0 : kd = 1) : SpecH true Try.prog 27 [.ptr 0 0 0] [⟨[.sl false n 1 (b.map dB), nD (s).p, nD (s).e], 70, false⟩] (.agg ([u8D kd, bD (((a : Nat) : Int) == 1), iD 0] ++ (c16 (cnt L) ++ [.ref 1 1 0 (symsL L).length 1]) ++ (c16 (cnt F) ++ [.ref 2 2 0 (symsL F).length 1]))) [⟨[.sl false n 1 (b.map dB), nD (s3).p, nD (s3).e], 70, false⟩, ⟨(symsL L).map nD, 3, true⟩, ⟨(symsL F).map nD, 3, true⟩] := by
 have c1 : canE L 15 = 0 := by rw [hL]; exact longs_can
 have c2 : canE F 15 = 0 := by rw [hF]; exact fars_can
 have l1 : L.length = 288 := by rw [hL]; exact longs_len
 have l2 : F.length = 32 := by rw [hF]; exact fars_len
 exact head_f b n hn hN s hs a kd s1 s2 s3 x1 z1 x2 z2 z3 h3 h0 L F hL hF (by rw [List.drop_zero, List.take_of_length_le (Nat.le_of_eq l1)]) (by rw [List.drop_zero, List.take_of_length_le (Nat.le_of_eq l2)]) l1 l2 (okL_y c1) (okL_y c2) (by rw [c1]; exact fl_t) (by rw [c2]; exact fl_t)
set_option maxRecDepth 100000 in
set_option maxHeartbeats 2000000 in
theorem head_t (b : List UInt8) (n : Nat) (hn : n = b.length) (hN : n ≤ 1000000) (s : Rs) (hs : Rok n s) : SpecH true Try.prog 27 [.ptr 0 0 0] [⟨[.sl false n 1 (b.map dB), nD (s).p, nD (s).e], 70, false⟩] (.agg ([u8D (hdR b s).kd, bD (hdR b s).la, nD (hdR b s).le] ++ (c16 (cnt (hdR b s).l1) ++ [.ref 1 1 0 (symsL (hdR b s).l1).length 1]) ++ (c16 (cnt (hdR b s).l2) ++ [.ref 2 2 0 (symsL (hdR b s).l2).length 1]))) [⟨[.sl false n 1 (b.map dB), nD ((hdR b s).s).p, nD ((hdR b s).s).e], 70, false⟩, ⟨(symsL (hdR b s).l1).map nD, 3, true⟩, ⟨(symsL (hdR b s).l2).map nD, 3, true⟩] := by
 rw [hdR_eq]
 unfold hdD
 dsimp only
 have r1 : Rok n (tkS b 1 s) := by subst hn; exact hs.tk _
 have r2 : Rok n (tkS b 2 (tkS b 1 s)) := by subst hn; exact (hs.tk _).tk _
 have hk : tkN b 2 (tkS b 1 s) < 4 := tkN_lt b 2 _
 generalize e3 : fl (tkS b 2 (tkS b 1 s)) (decide (((tkN b 2 (tkS b 1 s) : Nat) : Int) ≤ 2)) 130 = s3
 have r3 : Rok n s3 := by rw [← e3]; exact r2.fl _ _
 split
 ·next h => exact nil2 (head_e b n hn hN s hs _ _ _ _ s3 rfl rfl rfl rfl ⟨e3⟩ h)
 ·next h =>
  have h : s3.e = 0 := by omega
  have hk2 : tkN b 2 (tkS b 1 s) ≤ 2 := by
   rw [← e3] at h
   have := (fl_0 (by decide) h).2.1
   simp at this; omega
  split
  ·next h0 => exact nil2 (head_s b n hn hN s hs _ _ _ _ s3 rfl rfl rfl rfl ⟨e3⟩ h h0 ⟨(s3.p + 7) / 8 * 8, 0⟩ _ _ _ _ _ ⟨by push_cast; rfl, h, rfl⟩ rfl rfl rfl rfl ⟨rfl⟩)
  ·next h0 =>
   split
   ·next h1 => exact head_f2 _ _ rfl rfl b n hn hN s hs _ _ _ _ s3 rfl rfl rfl rfl ⟨e3⟩ h h1
   ·next h1 =>
    have h2 : tkN b 2 (tkS b 1 s) = 2 := by omega
    unfold dyR
    dsimp only
    split
    ·next h3 => exact nil2 (head_de b n hn hN s hs _ _ _ _ s3 rfl rfl rfl rfl ⟨e3⟩ h h2 _ _ _ _ _ _ _ _ _ _ _ _ _ _ _ ⟨rfl, rfl, rfl, rfl, rfl, rfl, rfl, rfl, rfl, rfl, rfl, ⟨rfl⟩, rfl, rfl, rfl⟩ h3)
    ·next h3 => exact head_dl b n hn hN s hs _ _ _ _ s3 rfl rfl rfl rfl ⟨e3⟩ h h2 _ _ _ _ _ _ _ _ _ _ _ _ _ _ _ ⟨rfl, rfl, rfl, rfl, rfl, rfl, rfl, rfl, rfl, rfl, rfl, ⟨rfl⟩, rfl, rfl, rfl⟩ _ rfl _ _ _ _ _ _ _ _ ⟨by omega, ⟨rfl⟩, rfl, rfl, ⟨rfl⟩, rfl, rfl, rfl, rfl⟩
end Vp
end Go.Proofs.Ytegjeagfcfhbeaa
namespace Go.Proofs.Ytegjeagfcfhbeaa
open Go.RowKit Go.Bw Go.Vx
namespace Vp
structure Kb where
 kd : Nat
 la : Bool
 le : Nat
 l1 : List UInt8
 l2 : List UInt8
def cpF (d : Nat) : Nat → List UInt8 → List UInt8
 | 0, o => o
 | k + 1, o => cpF d k o ++ [(cpF d k o).getD ((cpF d k o).length - d) default]
def plT (lit d long : Nat) (o : List UInt8) : List UInt8 := if long = 0 then o ++ [UInt8.ofNat lit] else cpF d long o
abbrev tkC (most : Int) (d long : Nat) (s : Rs) (o : List UInt8) : Rs := fl (fl s (decide ((d : Int) ≤ ((o.length : Nat) : Int))) 60) (decide (((o.length : Nat) : Int) + max 1 ((long : Nat) : Int) ≤ most)) 140
def kbH (b : List UInt8) (s : Rs) : Kb := ⟨(hdR b s).kd, (hdR b s).la, (hdR b s).le, (hdR b s).l1, (hdR b s).l2⟩
abbrev stK (b : List UInt8) (K : Kb) (s : Rs) := stR b K.kd K.le K.l1 K.l2 s
def tlF (b : List UInt8) (most : Int) : Nat → Option Kb → Rs → List UInt8 → Rs × List UInt8
 | 0, _, s, o => (s, o)
 | k + 1, none, s, o => tlF b most k (some (kbH b s)) (hdR b s).s o
 | k + 1, some K, s, o =>
  if (stK b K s).1.e ≠ 0 ∨ (stK b K s).2.2.2.2 = true then (if (stK b K s).1.e ≠ 0 ∨ K.la = true then ((stK b K s).1, o) else tlF b most k none (stK b K s).1 o)
  else if (tkC most (stK b K s).2.2.1 (stK b K s).2.2.2.1 (stK b K s).1 o).e ≠ 0 then (tkC most (stK b K s).2.2.1 (stK b K s).2.2.2.1 (stK b K s).1 o, o)
  else tlF b most k (some { K with le := K.le - 1 }) (tkC most (stK b K s).2.2.1 (stK b K s).2.2.2.1 (stK b K s).1 o) (plT (stK b K s).2.1 (stK b K s).2.2.1 (stK b K s).2.2.2.1 o)
def Adv (s z : Rs) : Prop := z.e = 0 → s.e = 0 ∧ s.p ≤ z.p
theorem Adv.refl (s : Rs) : Adv s s := fun h => ⟨h, Nat.le_refl _⟩
theorem Adv.trans {s z y : Rs} (h : Adv s z) (k : Adv z y) : Adv s y := fun q => by
 have h1 := k q
 have h2 := h h1.1
 exact ⟨h2.1, Nat.le_trans h2.2 h1.2⟩
theorem Adv.tk (b : List UInt8) (m : Nat) (s : Rs) : Adv s (tkS b m s) := fun q => by
 by_cases h : s.e = 0
 ·rw [tkS_0 h]; exact ⟨h, Nat.le_add_right _ _⟩
 ·rw [tkS_x h] at q; exact absurd q h
theorem Adv.fl (s : Rs) (c : Bool) {x : Nat} (hx : x ≠ 0) : Adv s (fl s c x) := fun q => by
 rw [fl_p]; exact ⟨(fl_0 hx q).1, Nat.le_refl _⟩
theorem Adv.sy (b l : List UInt8) (s : Rs) : Adv s (syS b l s) := fun q => by
 by_cases h : s.e = 0
 ·rw [syS_0 h] at q ⊢; exact ⟨h, Nat.le_of_lt (nxR_ok q).1⟩
 ·rw [syS_x h] at q; exact absurd q h
theorem sy_lt {b l : List UInt8} {s : Rs} (q : (syS b l s).e = 0) : s.e = 0 ∧ s.p < (syS b l s).p := by
 by_cases h : s.e = 0
 ·rw [syS_0 h] at q ⊢; exact ⟨h, (nxR_ok q).1⟩
 ·rw [syS_x h] at q; exact absurd q h
theorem Adv.fe (s : Rs) (x : Nat) : Adv s (Vp.fl s (((x : Nat) : Int) == 0) x) := fun q => by
 rw [fl_p]
 refine ⟨?_, Nat.le_refl _⟩
 by_cases h : s.e = 0
 ·exact h
 ·rw [fl_x h] at q; exact absurd q h
theorem Adv.nb (b : List UInt8) (far : Bool) (y : Nat) (s : Rs) : Adv s (nbS b far y s) := by
 by_cases h0 : s.e = 0
 ·by_cases h1 : (nbT b far y s).e = 0
  ·rw [(nbS_2 h0 h1).1]; exact ((Adv.fe s _).trans (Adv.tk b _ _)).trans (Adv.fe _ _)
  ·rw [(nbS_1 h0 h1).1]; exact (Adv.fe s _).trans (Adv.tk b _ _)
 ·rw [(nbS_x h0).1]; exact Adv.refl s
theorem Adv.st (b : List UInt8) (kd le : Nat) (l1 l2 : List UInt8) (s : Rs) : Adv s (stR b kd le l1 l2 s).1 := by
 unfold stR; rw [lk_eq]
 split
 ·split
  ·exact Adv.tk b _ _
  ·exact Adv.refl _
 ·split
  ·exact Adv.sy b _ _
  ·split
   ·exact Adv.sy b _ _
   ·split
    ·exact Adv.sy b _ _
    ·exact ((Adv.sy b _ _).trans (Adv.nb b _ _ _)).trans ((Adv.sy b _ _).trans (Adv.nb b _ _ _))
theorem st_lt {b : List UInt8} {kd le : Nat} {l1 l2 : List UInt8} {s : Rs} (h : (stR b kd le l1 l2 s).1.e = 0) (h2 : (stR b kd le l1 l2 s).2.2.2.2 = false) : s.e = 0 ∧ s.p < (stR b kd le l1 l2 s).1.p := by
 unfold stR at *; rw [lk_eq] at *
 split at h
 ·next q =>
  rw [if_pos q] at h2 ⊢
  split at h
  ·next q2 =>
   rw [if_pos q2] at h2 ⊢
   have := Adv.tk b 8 s h
   refine ⟨this.1, ?_⟩
   show s.p < (tkS b 8 s).p
   rw [tkS_0 this.1]; show s.p < s.p + 8; omega
  ·next q2 => rw [if_neg q2] at h2; cases h2
 ·next q =>
  rw [if_neg q] at h2 ⊢
  split at h
  ·next q2 => exact absurd h q2
  ·next q2 =>
   rw [if_neg q2] at h2 ⊢
   have q3 : (syS b l1 s).e = 0 := by omega
   have q4 := sy_lt q3
   split at h
   ·next q5 => rw [if_pos q5] at h2 ⊢; exact q4
   ·next q5 =>
    rw [if_neg q5] at h2 ⊢
    split at h
    ·next q6 => rw [if_pos q6] at h2; cases h2
    ·next q6 =>
     rw [if_neg q6] at h2 ⊢
     have := ((Adv.nb b false (syN b l1 s) (syS b l1 s)).trans ((Adv.sy b l2 _).trans (Adv.nb b true _ _))) h
     exact ⟨q4.1, Nat.lt_of_lt_of_le q4.2 this.2⟩
theorem Adv.rw (b : List UInt8) (s : Rs) : ∀ i, Adv s (rwS b s i)
 | 0 => Adv.refl s
 | i + 1 => (Adv.rw b s i).trans (Adv.tk b 3 _)
theorem Adv.lnF (b l : List UInt8) (N : Nat) : ∀ (k : Nat) (c : Rs) (many : Nat) (r : List Rn), Adv c (lnF b l N k c many r).1
 | 0, _, _, _ => Adv.refl _
 | k + 1, c, many, r => by
  rw [Vp.lnF]; split
  ·exact Adv.refl _
  ·exact (((Adv.sy b l c).trans (Adv.tk b _ _)).trans (Adv.fl _ _ (by decide))).trans (Adv.lnF b l N k _ _ _)
theorem Adv.ln (b l : List UInt8) (N : Nat) (s : Rs) : Adv s (lnS b l N s) := by
 unfold lnS; rw [lnR_eq]; exact (Adv.lnF b l N N s 0 []).trans (Adv.fl _ _ (by decide))
theorem Adv.dy (b : List UInt8) (s : Rs) : Adv s (dyR b s).1 := by
 unfold dyR; dsimp only
 have h8 : ∀ (W : List UInt8) (N : Nat) (c d e : Bool) (h : Nat), Adv s (lnS b (okL W 7) N (Vp.fl (Vp.fl (rwS b (Vp.fl (tkS b 4 (tkS b 5 (tkS b 5 s))) c 132) h) d 132) e 132)) := fun W N c d e h =>
  ((((((Adv.tk b 5 s).trans (Adv.tk b 5 _)).trans (Adv.tk b 4 _)).trans (Adv.fl _ c (by decide))).trans (Adv.rw b _ h)).trans (Adv.fl _ d (by decide))).trans (Adv.fl _ e (by decide)) |>.trans (Adv.ln b _ N _)
 split
 ·exact h8 _ _ _ _ _ _
 ·exact (((h8 _ _ _ _ _ _).trans (Adv.fl _ _ (by decide))).trans (Adv.fl _ _ (by decide))).trans ((Adv.fl _ _ (by decide)).trans (Adv.fl _ _ (by decide)))
theorem Rok.dy {b : List UInt8} {s : Rs} (h : Rok b.length s) : Rok b.length (dyR b s).1 := by
 unfold dyR; dsimp only
 have h8 : ∀ (W : List UInt8) (N : Nat) (c d e : Bool) (i : Nat), Rok b.length (lnS b (okL W 7) N (Vp.fl (Vp.fl (rwS b (Vp.fl (tkS b 4 (tkS b 5 (tkS b 5 s))) c 132) i) d 132) e 132)) := fun W N c d e i =>
  lnS_ok rfl (((((((h.tk 5).tk 5).tk 4).fl c 132).rw i).fl d 132).fl e 132)
 split
 ·exact h8 _ _ _ _ _ _
 ·exact ((((h8 _ _ _ _ _ _).fl _ _).fl _ _).fl _ _).fl _ _
theorem hd_adv (b : List UInt8) (s : Rs) (h : (hdR b s).s.e = 0) : s.e = 0 ∧ s.p + 3 ≤ (hdR b s).s.p := by
 rw [hdR_eq] at *
 unfold hdD at *
 dsimp only at *
 have h3 : ∀ c : Bool, (fl (tkS b 2 (tkS b 1 s)) c 130).e = 0 → s.e = 0 ∧ (fl (tkS b 2 (tkS b 1 s)) c 130).p = s.p + 3 := fun c q => by
  have q1 := (fl_0 (by decide) q).1
  have q2 := (Adv.tk b 2 _ q1).1
  have q3 := (Adv.tk b 1 _ q2).1
  refine ⟨q3, ?_⟩
  rw [fl_p, tkS_0 q2]
  show (tkS b 1 s).p + 2 = _
  rw [tkS_0 q3]
 have h4 := h3 (decide (((tkN b 2 (tkS b 1 s) : Nat) : Int) ≤ 2))
 generalize fl (tkS b 2 (tkS b 1 s)) (decide (((tkN b 2 (tkS b 1 s) : Nat) : Int) ≤ 2)) 130 = s3 at *
 split at h
 ·next q => exact absurd h q
 ·next q =>
  have q0 : s3.e = 0 := by omega
  have h5 := h4 q0
  rw [if_neg q]
  split at h
  ·next q2 =>
   rw [if_pos q2]
   have h6 := ((Adv.tk b 16 ⟨(s3.p + 7) / 8 * 8, 0⟩).trans ((Adv.tk b 16 _).trans (Adv.fl _ _ (by decide)))) h
   exact ⟨h5.1, Nat.le_trans (show s.p + 3 ≤ (s3.p + 7) / 8 * 8 by omega) h6.2⟩
  ·next q2 =>
   rw [if_neg q2]
   split at h
   ·next q3 => rw [if_pos q3]; exact ⟨h5.1, by show s.p + 3 ≤ s3.p; omega⟩
   ·next q3 =>
    rw [if_neg q3]
    have h6 := Adv.dy b s3 h
    exact ⟨h5.1, by show s.p + 3 ≤ (dyR b s3).1.p; omega⟩
theorem hd_ok {b : List UInt8} {s : Rs} (h : Rok b.length s) : Rok b.length (hdR b s).s := by
 rw [hdR_eq]
 unfold hdD
 dsimp only
 have h4 : Rok b.length (fl (tkS b 2 (tkS b 1 s)) (decide (((tkN b 2 (tkS b 1 s) : Nat) : Int) ≤ 2)) 130) := ((h.tk 1).tk 2).fl _ _
 generalize fl (tkS b 2 (tkS b 1 s)) (decide (((tkN b 2 (tkS b 1 s) : Nat) : Int) ≤ 2)) 130 = s3 at *
 split
 ·exact h4
 ·next q =>
  split
  ·have h5 : Rok b.length ⟨(s3.p + 7) / 8 * 8, 0⟩ := fun _ => by
    have := h4 (by omega)
    show (s3.p + 7) / 8 * 8 ≤ _
    omega
   exact ((h5.tk 16).tk 16).fl _ _
  ·split
   ·exact h4
   ·exact h4.dy
set_option maxRecDepth 100000 in
theorem hd_t (b : List UInt8) (s : Rs) : canE (hdR b s).l1 15 = 0 ∧ canE (hdR b s).l2 15 = 0 ∧ (hdR b s).kd < 4 ∧ (hdR b s).le < 65536 ∧ ((hdR b s).s.e = 0 → (hdR b s).kd ≤ 2) := by
 rw [hdR_eq]
 unfold hdD
 dsimp only
 have hk : tkN b 2 (tkS b 1 s) < 4 := tkN_lt b 2 _
 have h4 : (fl (tkS b 2 (tkS b 1 s)) (decide (((tkN b 2 (tkS b 1 s) : Nat) : Int) ≤ 2)) 130).e = 0 → tkN b 2 (tkS b 1 s) ≤ 2 := fun q => by
  have := (fl_0 (by decide) q).2.1
  simp at this; omega
 generalize fl (tkS b 2 (tkS b 1 s)) (decide (((tkN b 2 (tkS b 1 s) : Nat) : Int) ≤ 2)) 130 = s3 at *
 split
 ·next q => exact ⟨rfl, rfl, hk, by show 0 < 65536; decide, fun z => absurd z q⟩
 ·next q =>
  have q0 : s3.e = 0 := by omega
  split
  ·exact ⟨rfl, rfl, hk, tkN_lt b 16 _, fun _ => h4 q0⟩
  ·split
   ·exact ⟨longs_can, fars_can, hk, by show 0 < 65536; decide, fun _ => h4 q0⟩
   ·refine ⟨?_, ?_, hk, by show 0 < 65536; decide, fun _ => h4 q0⟩
    ·unfold dyR; dsimp only; split
     ·rfl
     ·exact okL_15 (m := 15) _ (Nat.le_refl 15)
    ·unfold dyR; dsimp only; split
     ·rfl
     ·exact okL_15 (m := 15) _ (Nat.le_refl 15)
theorem hd_x {b : List UInt8} {s : Rs} (h : s.e ≠ 0) : (hdR b s).s = s := by
 rw [hdR_eq]
 unfold hdD
 dsimp only
 have e : ∀ c : Bool, fl (tkS b 2 (tkS b 1 s)) c 130 = s := fun c => by rw [tkS_x h, tkS_x h, fl_x h]
 rw [e, if_pos h]
theorem st_x {b : List UInt8} {kd le : Nat} {l1 l2 : List UInt8} {s : Rs} (h : s.e ≠ 0) : (stR b kd le l1 l2 s).1 = s := by
 unfold stR; rw [lk_eq, syS_x h]
 split
 ·split
  ·exact tkS_x h
  ·rfl
 ·first | rfl | rw [if_pos h]
theorem tl_err {b : List UInt8} {most : Int} : ∀ (k : Nat) (m : Option Kb) (s : Rs) (o : List UInt8), s.e ≠ 0 → tlF b most k m s o = (s, o)
 | 0, _, _, _, _ => rfl
 | k + 1, none, s, o, h => by rw [tlF, hd_x h]; exact tl_err k _ s o h
 | k + 1, some K, s, o, h => by
  have e : (stK b K s).1 = s := st_x h
  rw [tlF, e, if_pos (.inl h), if_pos (.inl h)]
def mu (b : List UInt8) (m : Option Kb) (s : Rs) : Nat := if s.e ≠ 0 then 0 else 2 * (8 * b.length + 1 - s.p) + (match m with | none => 0 | some _ => 1)
theorem mu_none {b : List UInt8} {s : Rs} (h : s.e = 0) : mu b none s = 2 * (8 * b.length + 1 - s.p) := if_neg (by omega)
theorem mu_some {b : List UInt8} {s : Rs} {K : Kb} (h : s.e = 0) : mu b (some K) s = 2 * (8 * b.length + 1 - s.p) + 1 := if_neg (by omega)
theorem mu_x {b : List UInt8} {s : Rs} {m : Option Kb} (h : s.e ≠ 0) : mu b m s = 0 := if_pos h
theorem tkC_p (most : Int) (d long : Nat) (s : Rs) (o : List UInt8) : (tkC most d long s o).p = s.p := by unfold tkC; rw [fl_p, fl_p]
theorem Rok.tc {n : Nat} {most : Int} {d long : Nat} {s : Rs} {o : List UInt8} (h : Rok n s) : Rok n (tkC most d long s o) := (h.fl _ _).fl _ _
theorem mu_in {b : List UInt8} {s : Rs} (hs : Rok b.length s) (h : s.e = 0) : mu b (some (kbH b s)) (hdR b s).s < mu b none s := by
 have := hs h
 rw [mu_none h]
 by_cases q : (hdR b s).s.e = 0
 ·have := hd_adv b s q
  have := hd_ok hs q
  rw [mu_some q]; omega
 ·rw [mu_x q]; omega
theorem mu_out {b : List UInt8} {K : Kb} {s : Rs} (hs : Rok b.length s) (h : (stK b K s).1.e = 0) : mu b none (stK b K s).1 < mu b (some K) s := by
 have h1 : s.e = 0 ∧ s.p ≤ (stK b K s).1.p := Adv.st b K.kd K.le K.l1 K.l2 s h
 have := hs h1.1
 rw [mu_none h, mu_some h1.1]; omega
theorem mu_go {b : List UInt8} {K K2 : Kb} {s z : Rs} (hs : Rok b.length s) (hz : Rok b.length z) (h : (stK b K s).1.e = 0) (h2 : (stK b K s).2.2.2.2 = false) (hp : z.p = (stK b K s).1.p) (he : z.e = 0) : mu b (some K2) z < mu b (some K) s := by
 have h1 : s.e = 0 ∧ s.p < (stK b K s).1.p := st_lt h h2
 have := hs h1.1
 have := hz he
 rw [mu_some he, mu_some h1.1]; omega
theorem tl_fuel {b : List UInt8} {most : Int} : ∀ (k m : Nat) (md : Option Kb) (s : Rs) (o : List UInt8), Rok b.length s → mu b md s ≤ k → mu b md s ≤ m → tlF b most k md s o = tlF b most m md s o
 | 0, m, md, s, o, _, h, _ => by
  by_cases he : s.e = 0
  ·have : 0 < mu b md s := by
    cases md with
    | none => rw [mu_none he]; have := ‹Rok b.length s› he; omega
    | some K => rw [mu_some he]; omega
   omega
  ·rw [tl_err _ _ _ _ he, tl_err _ _ _ _ he]
 | k + 1, 0, md, s, o, _, _, h => by
  by_cases he : s.e = 0
  ·have : 0 < mu b md s := by
    cases md with
    | none => rw [mu_none he]; have := ‹Rok b.length s› he; omega
    | some K => rw [mu_some he]; omega
   omega
  ·rw [tl_err _ _ _ _ he, tl_err _ _ _ _ he]
 | k + 1, m + 1, none, s, o, hs, h1, h2 => by
  by_cases he : s.e = 0
  ·have := mu_in hs he
   rw [tlF, tlF]
   exact tl_fuel k m _ _ _ (hd_ok hs) (by omega) (by omega)
  ·rw [tl_err _ _ _ _ he, tl_err _ _ _ _ he]
 | k + 1, m + 1, some K, s, o, hs, h1, h2 => by
  have hr : Rok b.length (stK b K s).1 := Rok.st hs
  rw [tlF, tlF]
  split
  ·split
   ·rfl
   ·next q =>
    have q1 : (stK b K s).1.e = 0 := by
     rcases Classical.em ((stK b K s).1.e = 0) with y | y
     ·exact y
     ·exact absurd (.inl y) q
    have := mu_out hs q1
    exact tl_fuel k m _ _ _ hr (by omega) (by omega)
  ·next q =>
   split
   ·rfl
   ·next q2 =>
    have q1 : (stK b K s).1.e = 0 := by
     rcases Classical.em ((stK b K s).1.e = 0) with y | y
     ·exact y
     ·exact absurd (.inl y) q
    have q3 : (stK b K s).2.2.2.2 = false := by
     cases y : (stK b K s).2.2.2.2
     ·rfl
     ·exact absurd (.inr y) q
    have := mu_go (K2 := { K with le := K.le - 1 }) hs hr.tc q1 q3 (tkC_p most (stK b K s).2.2.1 (stK b K s).2.2.2.1 (stK b K s).1 o) (by omega)
    exact tl_fuel k m _ _ _ hr.tc (by omega) (by omega)
def tlR (b : List UInt8) (most : Int) (m : Option Kb) (s : Rs) (o : List UInt8) : Rs × List UInt8 := lk b (tlF b most (mu b m s) m s o)
theorem tlR_eq {b : List UInt8} {most : Int} {m : Option Kb} {s : Rs} {o : List UInt8} : tlR b most m s o = tlF b most (mu b m s) m s o := lk_eq _ _
section
variable {b : List UInt8} {most : Int} {K : Kb} {s : Rs} {o : List UInt8} {R : Rs × List UInt8}
end
section
variable {b : List UInt8} {n : Nat} {most : Int} {kd le : Nat} {la : Bool} {l1 l2 : List UInt8} {s : Rs} {o : List UInt8} {R : Rs × List UInt8}
end
end Vp
end Go.Proofs.Ytegjeagfcfhbeaa
namespace Go.Proofs.Ytegjeagfcfhbeaa
open Go.RowKit Go.Bw Go.Vx
namespace Vp
abbrev s0 (p : Nat) : Rs := ⟨p, 0⟩
def allR (b : List UInt8) (most : Int) (p : Nat) : Rs × List UInt8 := tlR b most none (s0 p) []
section
variable {b : List UInt8} {x most : Int}
end
end Vp
end Go.Proofs.Ytegjeagfcfhbeaa
namespace Go.Proofs.Ytegjeagfcfhbeaa
open Go.RowKit Go.Bw Go.Vx
namespace Vp
theorem zj0 {p : Prop} (h : p := by ((refine and_tI ?_ ?_) <;> (repeat' (first | (refine and_tI ?_ ?_) | (with_reducible rfl) | (refine decide_eq_true ?_) | (refine Nat.ble_eq_true_of_le ?_) | (refine nbeq ?_))) <;> (omega))) : p := h
theorem zj1 {p : Prop} (h : p := by (refine iv_eq ?_; (omega))) : p := h
theorem zj2 {p : Prop} (h : p := by exact (And.intro (D.sim.slw rfl (cond_t (by (simp <;> (omega))) |>.trans rfl)) (And.intro (D.sim.refl _) trivial))) : p := h
def c16i (f : Nat → Int) : List D := [iD (f 0), iD (f 1), iD (f 2), iD (f 3), iD (f 4), iD (f 5), iD (f 6), iD (f 7), iD (f 8), iD (f 9), iD (f 10), iD (f 11), iD (f 12), iD (f 13), iD (f 14), iD (f 15)]
theorem get16i (f : Nat → Int) (r : List D) (n : Nat) (h : n < 16) : (c16i f ++ r)[n]? = some (iD (f n)) := by
 match n, h with
 | 0, _ => rfl | 1, _ => rfl | 2, _ => rfl | 3, _ => rfl | 4, _ => rfl | 5, _ => rfl | 6, _ => rfl | 7, _ => rfl
 | 8, _ => rfl | 9, _ => rfl | 10, _ => rfl | 11, _ => rfl | 12, _ => rfl | 13, _ => rfl | 14, _ => rfl | 15, _ => rfl
 | n + 16, h => exact absurd h (by omega)
theorem get16im (f : Nat → Int) (n : Nat) (h : n < 16) : (c16i f)[n * 1]? = some (iD (f n)) := by
 have := get16i f [] n h
 rw [Nat.mul_one]; rwa [List.append_nil] at this
def trC (f : Nat → Int) (m : Nat) (ys : List Int) : List D := c16i f ++ [.sl false m 1 (ys.map iD)]
abbrev trD (f : Nat → Int) (m : Nat) (ys : List Int) : D := .agg (trC f m ys)
theorem eq16 {f g : Nat → Int} (h : ((f 0 == g 0) && ((f 1 == g 1) && ((f 2 == g 2) && ((f 3 == g 3) && ((f 4 == g 4) && ((f 5 == g 5) && ((f 6 == g 6) && ((f 7 == g 7) && ((f 8 == g 8) && ((f 9 == g 9) && ((f 10 == g 10) && ((f 11 == g 11) && ((f 12 == g 12) && ((f 13 == g 13) && ((f 14 == g 14) && ((f 15 == g 15) && true)))))))))))))))) = true) : ∀ i, i < 16 → f i = g i := by
 simp only [Bool.and_eq_true, beq_iff_eq, and_true] at h
 obtain ⟨h0, h1, h2, h3, h4, h5, h6, h7, h8, h9, h10, h11, h12, h13, h14, h15⟩ := h
 intro i hi
 match i, hi with
 | 0, _ => exact h0 | 1, _ => exact h1 | 2, _ => exact h2 | 3, _ => exact h3 | 4, _ => exact h4 | 5, _ => exact h5 | 6, _ => exact h6 | 7, _ => exact h7
 | 8, _ => exact h8 | 9, _ => exact h9 | 10, _ => exact h10 | 11, _ => exact h11 | 12, _ => exact h12 | 13, _ => exact h13 | 14, _ => exact h14 | 15, _ => exact h15
 | n + 16, h => exact absurd h (by omega)
theorem ex_ne {ys zs : List Int} {i q : Nat} (hq : q = ys.length) (hp : q = zs.length) (hi : ¬ i < q) (h : ∀ j, j < i → ys.getD j default = zs.getD j default) : ys = zs := by
 apply List.ext_getElem?
 intro j
 rcases Nat.lt_or_ge j q with z | z
 ·have := h j (by omega)
  rw [List.getD_eq_getElem?_getD, List.getD_eq_getElem?_getD, List.getElem?_eq_getElem (by omega), List.getElem?_eq_getElem (by omega)] at this
  rw [List.getElem?_eq_getElem (by omega), List.getElem?_eq_getElem (by omega)]
  exact congrArg some this
 ·rw [List.getElem?_eq_none (by omega), List.getElem?_eq_none (by omega)]
theorem ex_nx {ys zs : List Int} {i : Nat} (h : ∀ j, j < i → ys.getD j default = zs.getD j default) (h2 : ys.getD i default = zs.getD i default) : ∀ j, j < i + 1 → ys.getD j default = zs.getD j default := fun j hj => by
 rcases Nat.lt_or_ge j i with z | z
 ·exact h j z
 ·rw [show j = i from by omega]; exact h2
theorem same_n (f g : Nat → Int) (ys zs : List Int) (q p : Nat) (hq : q = ys.length) (hp : p = zs.length) (hQ : q ≤ 1000000) (hP : p ≤ 1000000) (hne : ¬ ((∀ i, i < 16 → f i = g i) ∧ ys = zs)) : SpecH false Try.prog 35 [trD f q ys, trD g p zs] [] (bD false) [] := by
 refine SpecH.run T_ok mixed Try.func35 rfl rfl rfl trivial rfl 1000 64 (fun R ok => (.s 23 (.br (f 0 == g 0 && (f 1 == g 1 && (f 2 == g 2 && (f 3 == g 3 && (f 4 == g 4 && (f 5 == g 5 && (f 6 == g 6 && (f 7 == g 7 && (f 8 == g 8 && (f 9 == g 9 && (f 10 == g 10 && (f 11 == g 11 && (f 12 == g 12 && (f 13 == g 13 && (f 14 == g 14 && (f 15 == g 15 && true)))))))))))))))) (fun p0 => have p0f := eq_of_beq (and_t1 p0); have p0f1 := eq_of_beq (and_t1 (and_t2 p0)); have p0f2 := eq_of_beq (and_t1 (and_t2 (and_t2 p0))); have p0f3 := eq_of_beq (and_t1 (and_t2 (and_t2 (and_t2 p0)))); have p0f4 := eq_of_beq (and_t1 (and_t2 (and_t2 (and_t2 (and_t2 p0))))); have p0f5 := eq_of_beq (and_t1 (and_t2 (and_t2 (and_t2 (and_t2 (and_t2 p0)))))); have p0f6 := eq_of_beq (and_t1 (and_t2 (and_t2 (and_t2 (and_t2 (and_t2 (and_t2 p0))))))); have p0f7 := eq_of_beq (and_t1 (and_t2 (and_t2 (and_t2 (and_t2 (and_t2 (and_t2 (and_t2 p0)))))))); have p0f8 := eq_of_beq (and_t1 (and_t2 (and_t2 (and_t2 (and_t2 (and_t2 (and_t2 (and_t2 (and_t2 p0))))))))); have p0f9 := eq_of_beq (and_t1 (and_t2 (and_t2 (and_t2 (and_t2 (and_t2 (and_t2 (and_t2 (and_t2 (and_t2 p0)))))))))); have p0f10 := eq_of_beq (and_t1 (and_t2 (and_t2 (and_t2 (and_t2 (and_t2 (and_t2 (and_t2 (and_t2 (and_t2 (and_t2 p0))))))))))); have p0f11 := eq_of_beq (and_t1 (and_t2 (and_t2 (and_t2 (and_t2 (and_t2 (and_t2 (and_t2 (and_t2 (and_t2 (and_t2 (and_t2 p0)))))))))))); have p0f12 := eq_of_beq (and_t1 (and_t2 (and_t2 (and_t2 (and_t2 (and_t2 (and_t2 (and_t2 (and_t2 (and_t2 (and_t2 (and_t2 (and_t2 p0))))))))))))); have p0f13 := eq_of_beq (and_t1 (and_t2 (and_t2 (and_t2 (and_t2 (and_t2 (and_t2 (and_t2 (and_t2 (and_t2 (and_t2 (and_t2 (and_t2 (and_t2 p0)))))))))))))); have p0f14 := eq_of_beq (and_t1 (and_t2 (and_t2 (and_t2 (and_t2 (and_t2 (and_t2 (and_t2 (and_t2 (and_t2 (and_t2 (and_t2 (and_t2 (and_t2 (and_t2 p0))))))))))))))); have p0f15 := eq_of_beq (and_t1 (and_t2 (and_t2 (and_t2 (and_t2 (and_t2 (and_t2 (and_t2 (and_t2 (and_t2 (and_t2 (and_t2 (and_t2 (and_t2 (and_t2 (and_t2 p0)))))))))))))))); (.s 24 (.br ((↑q : Int) != (↑p : Int)) (fun p1 => have p1f := of_bne_t p1; (.s 3 (.out [] [] (D.v (.bool false)) [] R (ok _ _ wr wr)))) (fun p1 => have p1f := of_bne_f p1; (.s 3 (Hn.inl T_ok mixed false 26 112 (loopAt Try.prog 66 0) (fun (x : (i : Nat) ×' (hi : i ≤ q) ×' (he : ∀ j, j < i → ys.getD j default = zs.getD j default) ×' Unit) => match x with | ⟨i, hi, he, _⟩ => CutS.mk [(0, D.sl false q 1 (List.map iD ys)), (1, D.sl false p 1 (List.map iD zs)), (12, nD q), (13, nD i)] [⟨0, 0, 0, 0, .b ⟨[iD (f 0), iD (f 1), iD (f 2), iD (f 3), iD (f 4), iD (f 5), iD (f 6), iD (f 7), iD (f 8), iD (f 9), iD (f 10), iD (f 11), iD (f 12), iD (f 13), iD (f 14), iD (f 15), D.sl false q 1 (List.map iD ys)], 26, false⟩⟩, ⟨8, 8, 8, 8, .b ⟨[iD (g 0), iD (g 1), iD (g 2), iD (g 3), iD (g 4), iD (g 5), iD (g 6), iD (g 7), iD (g 8), iD (g 9), iD (g 10), iD (g 11), iD (g 12), iD (g 13), iD (g 14), iD (g 15), D.sl false p 1 (List.map iD zs)], 26, false⟩⟩] 128) (fun (x : (i : Nat) ×' (hi : i ≤ q) ×' (he : ∀ j, j < i → ys.getD j default = zs.getD j default) ×' Unit) => match x with | ⟨i, hi, he, _⟩ => q - i) [⟨Unit, .ret, fun x => match x with | () => CutS.mk [(4, bD false)] [⟨0, 0, 0, 0, .b ⟨[iD (f 0), iD (f 1), iD (f 2), iD (f 3), iD (f 4), iD (f 5), iD (f 6), iD (f 7), iD (f 8), iD (f 9), iD (f 10), iD (f 11), iD (f 12), iD (f 13), iD (f 14), iD (f 15), D.sl false q 1 (List.map iD ys)], 26, false⟩⟩, ⟨8, 8, 8, 8, .b ⟨[iD (g 0), iD (g 1), iD (g 2), iD (g 3), iD (g 4), iD (g 5), iD (g 6), iD (g 7), iD (g 8), iD (g 9), iD (g 10), iD (g 11), iD (g 12), iD (g 13), iD (g 14), iD (g 15), D.sl false p 1 (List.map iD zs)], 26, false⟩⟩] 128⟩] 1000 64 (fun | ⟨i, hi, he, _⟩, Q, next1, last1 => (.s 2 (.br (decide ((↑i : Int) < (↑q : Int))) (fun p2 => have p2f := odt p2; (.s 6 (.chk (true && decide ((↑i : Int) < (↑q : Int)) && true) zj0 (.s 2 (.opt ((List.map iD ys)[i * 1]?) (iD (List.getD ys (i * 1) default)) (map_get _ _ om) (.s 3 (.chk (true && decide ((↑i : Int) < (↑p : Int)) && true) zj0 (.s 2 (.opt ((List.map iD zs)[i * 1]?) (iD (List.getD zs (i * 1) default)) (map_get _ _ om) (.s 2 (.br (List.getD ys (i * 1) default != List.getD zs (i * 1) default) (fun p3 => have p3f := of_bne_t p3; (.s 1 (Hn.last last1 0 (() : Unit) rfl [(0, 0), (8, 8)] ro))) (fun p3 => have p3f := of_bne_f p3; (.s 2 (.ow ((↑i : Int) + 1) (.s 1 (.val 13 (iD ((↑i : Int) + 1)) (nD (i + 1)) zj1 (Hn.next next1 ⟨(i + 1), om, (by (refine ex_nx asm ?_; rw [Nat.mul_one] at *; (omega))), ⟨⟩⟩ (by show q - (i + 1) < q - i; clear next1 last1; omega) [(0, 0), (8, 8)] ro))))))))))))))))) (fun p2 => have p2f := odf p2; (.abs (by ( exact hne ⟨eq16 asm, ex_ne (i := i) hq om om asm⟩))))))) (fun | ⟨i, hi, he, _⟩ => by kernel_rfl) ⟨(0), om, om, ⟨⟩⟩ [(0, 0), (8, 8)] ro (hs1 (fun | () => (.s 2 (.out [] [] (D.v (.bool false)) [] R (ok _ _ wr wr))))))))))) (fun p0 => (.s 10 (.out [] [] (D.v (.bool false)) [] R (ok _ _ wr wr))))))) (by kernel_rfl)
theorem same_gn (L : List UInt8) (q : Nat) (hq : q = (symsL L).length) (f : Nat → Int) (ys : List Int) (p : Nat) (hp : p = ys.length) (hQ : L.length ≤ 1000000) (hP : p ≤ 1000000) (hne : ¬ ((∀ i, i < 16 → f i = (cnt L i : Int)) ∧ ys = (symsL L).map (fun (n : Nat) => (n : Int)))) : SpecH false Try.prog 35 [treeD q L, trD f p ys] [] (bD false) [] := by
 have hQ2 := symsL_le L
 have h := same_n (fun i => (cnt L i : Int)) f ((symsL L).map (fun (n : Nat) => (n : Int))) ys q p (by rw [List.length_map]; exact hq) hp (by omega) hP (fun h => hne ⟨fun i hi => (h.1 i hi).symm, h.2.symm⟩)
 unfold trD trC at h
 rw [List.map_map] at h
 exact h
theorem st_u8 {M : List UInt8} {o a : Nat} {d : D} (ha : a < 256) (ho : o < M.length) (hd : d = u8D a) : setSeg (M.map dB) o [d] = (M.set o (UInt8.ofNat a)).map dB := by
 apply List.ext_getElem?
 intro i
 rw [setSeg_get (by simp only [List.length_map, List.length_singleton]; omega), List.getElem?_map, List.getElem?_map, List.getElem?_set]
 simp only [List.length_singleton]
 by_cases hi : o = i
 ·subst hi
  rw [if_pos (by omega), if_pos rfl, if_pos ho, Nat.sub_self, hd]
  show some (D.v (.int .u8 (a : Int))) = some (dB (UInt8.ofNat a))
  unfold dB; rw [UInt8.toNat_ofNat']; congr 3; omega
 ·rw [if_neg (by omega), if_neg hi]
theorem chk_b (f : Nat → Int) (ys : List Int) (q : Nat) (hq : q = ys.length) (hQ : q ≤ 100000) (hN : ∀ l : List UInt8, l.length = 320 → canE l 15 = 0 → ¬ ((∀ i, i < 16 → f i = (cnt l i : Int)) ∧ ys = (symsL l).map (fun (n : Nat) => (n : Int)))) : SpecH false Try.prog 36 [trD f q ys] [] (iD 8) [] := by
 refine SpecH.run T_ok mixed Try.func36 rfl rfl rfl trivial rfl 1000 64 (fun R ok => (.s 12 (.br (decide (320 < (↑q : Int))) (fun p0 => have p0f := odt p0; (.s 1 (.out [] [] (iD 8) [] R (ok _ _ wr wr)))) (fun p0 => have p0f := odf p0; (.s 18 (Hn.inl T_ok mixed false 91 0 (loopAt Try.prog 36 0) (fun (x : (a : Nat) ×' (ha : a ≤ 16) ×' (L : List UInt8) ×' (hL : L.length = 320) ×' (R : List Int) ×' (r : Nat) ×' (hr : r = R.length) ×' (hr2 : r ≤ q) ×' Unit) => match x with | ⟨a, ha, L, hL, R, r, hr, hr2, _⟩ => CutS.mk [(1, D.ptr 0 0 0), (3, D.ref 8 8 0 320 1), (4, .sl false r 1 (R.map iD)), (19, D.agg [iD (f 0), iD (f 1), iD (f 2), iD (f 3), iD (f 4), iD (f 5), iD (f 6), iD (f 7), iD (f 8), iD (f 9), iD (f 10), iD (f 11), iD (f 12), iD (f 13), iD (f 14), iD (f 15)]), (20, nD a)] [⟨0, 0, 0, 0, .b ⟨[iD (f 0), iD (f 1), iD (f 2), iD (f 3), iD (f 4), iD (f 5), iD (f 6), iD (f 7), iD (f 8), iD (f 9), iD (f 10), iD (f 11), iD (f 12), iD (f 13), iD (f 14), iD (f 15), D.sl false q 1 (List.map iD ys)], 26, false⟩⟩, ⟨8, 8, 48, 48, .b ⟨L.map dB, 5, true⟩⟩] 16) (fun (x : (a : Nat) ×' (ha : a ≤ 16) ×' (L : List UInt8) ×' (hL : L.length = 320) ×' (R : List Int) ×' (r : Nat) ×' (hr : r = R.length) ×' (hr2 : r ≤ q) ×' Unit) => match x with | ⟨a, ha, L, hL, R, r, hr, hr2, _⟩ => 16 - a) [⟨(L3 : List UInt8) ×' (hL3 : L3.length = 320) ×' (R2 : List Int) ×' (r2 : Nat) ×' (hr3 : r2 ≤ q) ×' Unit, .exit 0, fun x => match x with | ⟨L3, hL3, R2, r2, hr3, _⟩ => CutS.mk [(1, D.ptr 0 0 0), (3, D.ref 8 8 0 320 1), (4, .sl false r2 1 (R2.map iD)), (19, D.agg [iD (f 0), iD (f 1), iD (f 2), iD (f 3), iD (f 4), iD (f 5), iD (f 6), iD (f 7), iD (f 8), iD (f 9), iD (f 10), iD (f 11), iD (f 12), iD (f 13), iD (f 14), iD (f 15)])] [⟨0, 0, 0, 0, .b ⟨[iD (f 0), iD (f 1), iD (f 2), iD (f 3), iD (f 4), iD (f 5), iD (f 6), iD (f 7), iD (f 8), iD (f 9), iD (f 10), iD (f 11), iD (f 12), iD (f 13), iD (f 14), iD (f 15), D.sl false q 1 (List.map iD ys)], 26, false⟩⟩, ⟨8, 8, 48, 48, .b ⟨L3.map dB, 5, true⟩⟩] 16⟩, ⟨Unit, .ret, fun x => match x with | () => CutS.mk [(2, iD 8)] [⟨0, 0, 0, 0, .b ⟨[iD (f 0), iD (f 1), iD (f 2), iD (f 3), iD (f 4), iD (f 5), iD (f 6), iD (f 7), iD (f 8), iD (f 9), iD (f 10), iD (f 11), iD (f 12), iD (f 13), iD (f 14), iD (f 15), D.sl false q 1 (List.map iD ys)], 26, false⟩⟩] 16⟩] 1000 64 (fun | ⟨a, ha, L, hL, R, r, hr, hr2, _⟩, Q, next1, last1 => (.s 2 (.br (decide ((↑a : Int) < 16)) (fun p1 => have p1f := odt p1; (.s 2 (.chk (true && decide ((↑a : Int) < (↑16 : Int))) asm (.opt ((c16i f)[a * 1]?) (iD (f a)) (@get16im f (a) om) (.s 7 (.br (decide (f a < 0)) (fun p2 => have p2f := odt p2; (.s 21 (Hn.last last1 1 (() : Unit) rfl [(0, 0)] ro))) (fun p2 => have p2f := odf p2; (.s 10 (.br (decide ((↑r : Int) < f a)) (fun p3 => have p3f := odt p3; (.s 11 (Hn.last last1 1 (() : Unit) rfl [(0, 0)] ro))) (fun p3 => have p3f := odf p3; (.s 6 (.br ((↑a : Int) == 0) (fun p4 => have p4f := eq_of_beq p4; (.s 6 (.br (decide (0 < f a)) (fun p5 => have p5f := odt p5; (.s 1 (Hn.last last1 1 (() : Unit) rfl [(0, 0)] ro))) (fun p5 => have p5f := odf p5; (.s 3 (.chk (bndOk none (some (f a)) none r && true) (by (simp <;> (omega))) (.s 2 (.val 42 (D.sl false (Int.toNat (f a)) 1 (List.take (Int.toNat (f a) * 1) (List.map iD R))) (D.sl false (Int.toNat (f a)) 1 (List.map iD (List.take (Int.toNat (f a)) R))) (by (simp; done)) (Hn.inl T_ok mixed false 91 0 (loopAt Try.prog 36 1) (fun (x : (k : Nat) ×' (hk : k ≤ (f a).toNat) ×' (M : List UInt8) ×' (hM : M.length = 320) ×' Unit) => match x with | ⟨k, hk, M, hM, _⟩ => CutS.mk [(1, D.ptr 0 0 0), (3, D.ref 8 8 0 320 1), (4, D.sl false r 1 (List.map iD R)), (5, nD a), (6, iD (f a)), (19, D.agg [iD (f 0), iD (f 1), iD (f 2), iD (f 3), iD (f 4), iD (f 5), iD (f 6), iD (f 7), iD (f 8), iD (f 9), iD (f 10), iD (f 11), iD (f 12), iD (f 13), iD (f 14), iD (f 15)]), (20, nD a), (27, iD (f a)), (28, D.sl false r 1 (List.map iD R)), (29, nD r), (30, D.v (.bool (decide ((↑r : Int) < f a)))), (33, nD a), (34, D.v (.bool ((↑a : Int) == 0))), (35, D.v (.bool true)), (36, iD (f a)), (37, D.v (.bool (decide (0 < f a)))), (38, D.v (.bool (decide (0 < f a)))), (42, .sl false (f a).toNat 1 ((R.take (f a).toNat).map iD)), (43, nD (Int.toNat (f a))), (44, nD k)] [⟨0, 0, 0, 0, .b ⟨[iD (f 0), iD (f 1), iD (f 2), iD (f 3), iD (f 4), iD (f 5), iD (f 6), iD (f 7), iD (f 8), iD (f 9), iD (f 10), iD (f 11), iD (f 12), iD (f 13), iD (f 14), iD (f 15), D.sl false q 1 (List.map iD ys)], 26, false⟩⟩, ⟨8, 8, 8, 8, .b ⟨M.map dB, 5, true⟩⟩] 16) (fun (x : (k : Nat) ×' (hk : k ≤ (f a).toNat) ×' (M : List UInt8) ×' (hM : M.length = 320) ×' Unit) => match x with | ⟨k, hk, M, hM, _⟩ => (f a).toNat - k) [⟨(L2 : List UInt8) ×' (hL2 : L2.length = 320) ×' Unit, .exit 2, fun x => match x with | ⟨L2, hL2, _⟩ => CutS.mk [(1, D.ptr 0 0 0), (3, D.ref 8 8 0 320 1), (4, D.sl false r 1 (List.map iD R)), (5, nD a), (6, iD (f a)), (19, D.agg [iD (f 0), iD (f 1), iD (f 2), iD (f 3), iD (f 4), iD (f 5), iD (f 6), iD (f 7), iD (f 8), iD (f 9), iD (f 10), iD (f 11), iD (f 12), iD (f 13), iD (f 14), iD (f 15)]), (20, nD a), (27, iD (f a)), (28, D.sl false r 1 (List.map iD R)), (29, nD r), (30, D.v (.bool (decide ((↑r : Int) < f a)))), (33, nD a), (34, D.v (.bool ((↑a : Int) == 0))), (35, D.v (.bool true)), (36, iD (f a)), (37, D.v (.bool (decide (0 < f a)))), (38, D.v (.bool (decide (0 < f a)))), (43, nD (Int.toNat (f a)))] [⟨0, 0, 0, 0, .b ⟨[iD (f 0), iD (f 1), iD (f 2), iD (f 3), iD (f 4), iD (f 5), iD (f 6), iD (f 7), iD (f 8), iD (f 9), iD (f 10), iD (f 11), iD (f 12), iD (f 13), iD (f 14), iD (f 15), D.sl false q 1 (List.map iD ys)], 26, false⟩⟩, ⟨8, 8, 8, 8, .b ⟨L2.map dB, 5, true⟩⟩] 16⟩, ⟨Unit, .ret, fun x => match x with | () => CutS.mk [(2, iD 8)] [⟨0, 0, 0, 0, .b ⟨[iD (f 0), iD (f 1), iD (f 2), iD (f 3), iD (f 4), iD (f 5), iD (f 6), iD (f 7), iD (f 8), iD (f 9), iD (f 10), iD (f 11), iD (f 12), iD (f 13), iD (f 14), iD (f 15), D.sl false q 1 (List.map iD ys)], 26, false⟩⟩] 16⟩] 1000 64 (fun | ⟨k, hk, M, hM, _⟩, Q, next2, last2 => (.s 2 (.f (decide ((↑k : Int) < (↑(Int.toNat (f a)) : Int))) (by (refine decide_eq_false ?_; (omega))) (Hn.last last2 0 (⟨(M), om, ⟨⟩⟩ : (L2 : List UInt8) ×' (hL2 : L2.length = 320) ×' Unit) rfl [(0, 0), (8, 8)] ro)))) (fun | ⟨k, hk, M, hM, _⟩ => by kernel_rfl) ⟨(0), om, (L), om, ⟨⟩⟩ [(0, 0), (8, 8)] ro (hs2 (fun | ⟨L2, hL2, _⟩ => (.s 3 (.chk (bndOk (some (f a)) none none r && true) (by (simp <;> (omega))) (.s 3 (.ow ((↑a : Int) + 1) (.s 1 (.val 4 (D.sl false (r - Int.toNat (f a)) 1 (List.drop (Int.toNat (f a) * 1) (List.map iD R))) (D.sl false (r - Int.toNat (f a)) 1 (List.map iD (List.drop (Int.toNat (f a)) R))) (by (simp; done)) (.val 20 (iD ((↑a : Int) + 1)) (nD (a + 1)) zj1 (Hn.next next1 ⟨(a + 1), om, (L2), om, (R.drop (f a).toNat), (r - (f a).toNat), (by (rw [List.length_drop]; (omega))), om, ⟨⟩⟩ (by show 16 - (a + 1) < 16 - a; clear next1 last1; omega) [(0, 0), (8, 8)] ro))))))))) (fun | () => (Hn.last last1 1 (() : Unit) rfl [(0, 0)] ro)))))))))))) (fun p4 => have p4f := of_beq_f p4; (.s 9 (.chk (bndOk none (some (f a)) none r && true) (by (simp <;> (omega))) (.s 2 (.val 42 (D.sl false (Int.toNat (f a)) 1 (List.take (Int.toNat (f a) * 1) (List.map iD R))) (D.sl false (Int.toNat (f a)) 1 (List.map iD (List.take (Int.toNat (f a)) R))) (by (simp; done)) (Hn.inl T_ok mixed false 91 0 (loopAt Try.prog 36 1) (fun (x : (k : Nat) ×' (hk : k ≤ (f a).toNat) ×' (M : List UInt8) ×' (hM : M.length = 320) ×' Unit) => match x with | ⟨k, hk, M, hM, _⟩ => CutS.mk [(1, D.ptr 0 0 0), (3, D.ref 8 8 0 320 1), (4, D.sl false r 1 (List.map iD R)), (5, nD a), (6, iD (f a)), (19, D.agg [iD (f 0), iD (f 1), iD (f 2), iD (f 3), iD (f 4), iD (f 5), iD (f 6), iD (f 7), iD (f 8), iD (f 9), iD (f 10), iD (f 11), iD (f 12), iD (f 13), iD (f 14), iD (f 15)]), (20, nD a), (27, iD (f a)), (28, D.sl false r 1 (List.map iD R)), (29, nD r), (30, D.v (.bool (decide ((↑r : Int) < f a)))), (33, nD a), (34, D.v (.bool ((↑a : Int) == 0))), (35, D.v (.bool false)), (36, D.tup []), (37, D.tup []), (38, D.v (.bool false)), (42, .sl false (f a).toNat 1 ((R.take (f a).toNat).map iD)), (43, nD (Int.toNat (f a))), (44, nD k)] [⟨0, 0, 0, 0, .b ⟨[iD (f 0), iD (f 1), iD (f 2), iD (f 3), iD (f 4), iD (f 5), iD (f 6), iD (f 7), iD (f 8), iD (f 9), iD (f 10), iD (f 11), iD (f 12), iD (f 13), iD (f 14), iD (f 15), D.sl false q 1 (List.map iD ys)], 26, false⟩⟩, ⟨8, 8, 8, 8, .b ⟨M.map dB, 5, true⟩⟩] 16) (fun (x : (k : Nat) ×' (hk : k ≤ (f a).toNat) ×' (M : List UInt8) ×' (hM : M.length = 320) ×' Unit) => match x with | ⟨k, hk, M, hM, _⟩ => (f a).toNat - k) [⟨(L2 : List UInt8) ×' (hL2 : L2.length = 320) ×' Unit, .exit 2, fun x => match x with | ⟨L2, hL2, _⟩ => CutS.mk [(1, D.ptr 0 0 0), (3, D.ref 8 8 0 320 1), (4, D.sl false r 1 (List.map iD R)), (5, nD a), (6, iD (f a)), (19, D.agg [iD (f 0), iD (f 1), iD (f 2), iD (f 3), iD (f 4), iD (f 5), iD (f 6), iD (f 7), iD (f 8), iD (f 9), iD (f 10), iD (f 11), iD (f 12), iD (f 13), iD (f 14), iD (f 15)]), (20, nD a), (27, iD (f a)), (28, D.sl false r 1 (List.map iD R)), (29, nD r), (30, D.v (.bool (decide ((↑r : Int) < f a)))), (33, nD a), (34, D.v (.bool ((↑a : Int) == 0))), (35, D.v (.bool false)), (36, D.tup []), (37, D.tup []), (38, D.v (.bool false)), (43, nD (Int.toNat (f a)))] [⟨0, 0, 0, 0, .b ⟨[iD (f 0), iD (f 1), iD (f 2), iD (f 3), iD (f 4), iD (f 5), iD (f 6), iD (f 7), iD (f 8), iD (f 9), iD (f 10), iD (f 11), iD (f 12), iD (f 13), iD (f 14), iD (f 15), D.sl false q 1 (List.map iD ys)], 26, false⟩⟩, ⟨8, 8, 8, 8, .b ⟨L2.map dB, 5, true⟩⟩] 16⟩, ⟨Unit, .ret, fun x => match x with | () => CutS.mk [(2, iD 8)] [⟨0, 0, 0, 0, .b ⟨[iD (f 0), iD (f 1), iD (f 2), iD (f 3), iD (f 4), iD (f 5), iD (f 6), iD (f 7), iD (f 8), iD (f 9), iD (f 10), iD (f 11), iD (f 12), iD (f 13), iD (f 14), iD (f 15), D.sl false q 1 (List.map iD ys)], 26, false⟩⟩] 16⟩] 1000 64 (fun | ⟨k, hk, M, hM, _⟩, Q, next2, last2 => (.s 2 (.br (decide ((↑k : Int) < (↑(Int.toNat (f a)) : Int))) (fun p6 => have p6f := odt p6; (.s 1 (.chk (true && decide ((↑k : Int) < (↑(Int.toNat (f a)) : Int)) && true) zj0 (.s 2 (.opt ((List.map iD (List.take (Int.toNat (f a)) R))[k * 1]?) (iD (List.getD (List.take (Int.toNat (f a)) R) (k * 1) default)) (map_get _ _ (by (simp <;> (omega)))) (.s 6 (.br (decide (List.getD (List.take (Int.toNat (f a)) R) (k * 1) default < 0)) (fun p7 => have p7f := odt p7; (.s 21 (Hn.last last2 1 (() : Unit) rfl [(0, 0)] ro))) (fun p7 => have p7f := odf p7; (.s 10 (.br (decide ((↑320 : Int) ≤ List.getD (List.take (Int.toNat (f a)) R) (k * 1) default)) (fun p8 => have p8f := odt p8; (.s 11 (Hn.last last2 1 (() : Unit) rfl [(0, 0)] ro))) (fun p8 => have p8f := odf p8; (.s 4 (.chk (decide (0 ≤ List.getD (List.take (Int.toNat (f a)) R) (k * 1) default) && decide (List.getD (List.take (Int.toNat (f a)) R) (k * 1) default < (↑320 : Int))) zj0 (.s 3 (.opt ((List.map dB M)[0 + Int.toNat (List.getD (List.take (Int.toNat (f a)) R) (k * 1) default) * 1]?) (dB (List.getD M (0 + Int.toNat (List.getD (List.take (Int.toNat (f a)) R) (k * 1) default) * 1) default)) (map_get _ _ om) (.s 4 (.br (decide (0 < (↑(UInt8.toNat (List.getD M (0 + Int.toNat (List.getD (List.take (Int.toNat (f a)) R) (k * 1) default) * 1) default)) : Int))) (fun p9 => have p9f := odt p9; (.s 1 (Hn.last last2 1 (() : Unit) rfl [(0, 0)] ro))) (fun p9 => have p9f := odf p9; (.s 4 (.opt (wrapO .u8 (↑a : Int)) (D.v (Value.int .u8 (↑a : Int))) (wrapO_u8 om) (.s 1 (.chk (decide (0 ≤ List.getD (List.take (Int.toNat (f a)) R) (k * 1) default) && decide (List.getD (List.take (Int.toNat (f a)) R) (k * 1) default < (↑320 : Int))) zj0 (.s 1 (.chk (true && Nat.ble (0 + Int.toNat (List.getD (List.take (Int.toNat (f a)) R) (k * 1) default) * 1 + 1) (List.length (List.map dB M))) (by clear next2 last2 next1 last1; (simp_all <;> omega)) (.lst (setSeg (List.map dB M) (0 + Int.toNat (List.getD (List.take (Int.toNat (f a)) R) (k * 1) default) * 1) [D.v (Value.int .u8 (↑a : Int))]) (setSeg (List.map dB M) (Int.toNat (List.getD (List.take (Int.toNat (f a)) R) k default)) [D.v (Value.int .u8 (↑a : Int))]) (by (simp; done)) (.s 2 (.ow ((↑k : Int) + 1) (.s 1 (.val 44 (iD ((↑k : Int) + 1)) (nD (k + 1)) zj1 (.blk 8 8 (Blk.mk (setSeg (List.map dB M) (Int.toNat (List.getD (List.take (Int.toNat (f a)) R) k default)) [D.v (Value.int .u8 (↑a : Int))]) 5 true) (Blk.mk (List.map dB (List.set M (Int.toNat (List.getD (List.take (Int.toNat (f a)) R) k default)) (UInt8.ofNat a))) 5 true) (by ( simp only [Nat.mul_one] at *; exact blk_eq (st_u8 om om rfl))) (Hn.next next2 ⟨(k + 1), om, (M.set ((R.take (f a).toNat).getD k default).toNat (UInt8.ofNat a)), (by (rw [List.length_set]; (omega))), ⟨⟩⟩ (by show Int.toNat (f a) - (k + 1) < Int.toNat (f a) - k; clear next2 last2 next1 last1; omega) [(0, 0), (8, 8)] ro))))))))))))))))))))))))))))))) (fun p6 => have p6f := odf p6; (Hn.last last2 0 (⟨(M), om, ⟨⟩⟩ : (L2 : List UInt8) ×' (hL2 : L2.length = 320) ×' Unit) rfl [(0, 0), (8, 8)] ro))))) (fun | ⟨k, hk, M, hM, _⟩ => by kernel_rfl) ⟨(0), om, (L), om, ⟨⟩⟩ [(0, 0), (8, 8)] ro (hs2 (fun | ⟨L2, hL2, _⟩ => (.s 3 (.chk (bndOk (some (f a)) none none r && true) (by (simp <;> (omega))) (.s 3 (.ow ((↑a : Int) + 1) (.s 1 (.val 4 (D.sl false (r - Int.toNat (f a)) 1 (List.drop (Int.toNat (f a) * 1) (List.map iD R))) (D.sl false (r - Int.toNat (f a)) 1 (List.map iD (List.drop (Int.toNat (f a)) R))) (by (simp; done)) (.val 20 (iD ((↑a : Int) + 1)) (nD (a + 1)) zj1 (Hn.next next1 ⟨(a + 1), om, (L2), om, (R.drop (f a).toNat), (r - (f a).toNat), (by (rw [List.length_drop]; (omega))), om, ⟨⟩⟩ (by show 16 - (a + 1) < 16 - a; clear next1 last1; omega) [(0, 0), (8, 8)] ro))))))))) (fun | () => (Hn.last last1 1 (() : Unit) rfl [(0, 0)] ro))))))))))))))))))))) (fun p1 => have p1f := odf p1; (Hn.last last1 0 (⟨(L), om, (R), (r), om, ⟨⟩⟩ : (L3 : List UInt8) ×' (hL3 : L3.length = 320) ×' (R2 : List Int) ×' (r2 : Nat) ×' (hr3 : r2 ≤ q) ×' Unit) rfl [(0, 0), (8, 8)] ro))))) (fun | ⟨a, ha, L, hL, R, r, hr, hr2, _⟩ => by kernel_rfl) ⟨(0), om, (List.replicate 320 0), (by (simp; done)), (ys), (q), om, om, ⟨⟩⟩ [(0, 0), (48, 48)] ro (hs2 (fun | ⟨L3, hL3, R2, r2, hr3, _⟩ => (.s 2 (.em (decide (canE L3 15 ≠ 0)) (fun p10 => have p10f := odt p10; (.call 67 false [] (true && (true && Nat.ble 320 (List.length (List.map dB L3)) && true && closedL (bif true && Nat.beq 320 (List.length (List.map dB L3)) then List.map dB L3 else List.take 320 (List.drop 0 (List.map dB L3)))) && true) (by (simp <;> (omega))) ([D.sl true 320 1 (bif true && Nat.beq 320 (List.length (List.map dB L3)) then List.map dB L3 else List.take 320 (List.drop 0 (List.map dB L3))), iD 15]) _ zj2 (true) wr _ _ _ (CallOk.fn (FnOk.of Try.func67 rfl rfl) (@Grow_bad (L3) (320) om om (15) (by (simp; done)) om)) (.s 16 (.t ((↑(canE L3 15) : Int) != 0) (by (simp <;> (omega))) (.s 17 (.out [] [] (iD 8) [] R (ok _ _ wr wr))))))) (fun p10 => have p10f := odf p10; (.call 67 false [] (true && (true && Nat.ble 320 (List.length (List.map dB L3)) && true && closedL (bif true && Nat.beq 320 (List.length (List.map dB L3)) then List.map dB L3 else List.take 320 (List.drop 0 (List.map dB L3)))) && true) (by (simp <;> (omega))) ([D.sl true 320 1 (bif true && Nat.beq 320 (List.length (List.map dB L3)) then List.map dB L3 else List.take 320 (List.drop 0 (List.map dB L3))), iD 15]) _ zj2 (true) wr _ _ _ (CallOk.fn (FnOk.of Try.func67 rfl rfl) (@Grow_ok (L3) (320) om om (15) (by (simp; done)) om)) (.s 25 (.br (decide (0 < (↑r2 : Int))) (fun p11 => have p11f := odt p11; (.s 9 (.out [] [] (iD 8) [] R (ok _ _ wr wr)))) (fun p11 => have p11f := odf p11; (.s 10 (.call 35 false [] (true && (true && (true && (true && (true && (true && (true && (true && (true && (true && (true && (true && (true && (true && (true && (true && (true && (true && Nat.ble (0 + List.length (symsL L3) * 1) (List.length (List.map nD (symsL L3))) && true && closedL (bif true && Nat.beq (List.length (symsL L3) * 1) (List.length (List.map nD (symsL L3))) then List.map nD (symsL L3) else List.take (List.length (symsL L3) * 1) (List.drop 0 (List.map nD (symsL L3))))) && true)))))))))))))))) && true) (by (simp; done)) ([D.agg [nD (cnt L3 0), nD (cnt L3 1), nD (cnt L3 2), nD (cnt L3 3), nD (cnt L3 4), nD (cnt L3 5), nD (cnt L3 6), nD (cnt L3 7), nD (cnt L3 8), nD (cnt L3 9), nD (cnt L3 10), nD (cnt L3 11), nD (cnt L3 12), nD (cnt L3 13), nD (cnt L3 14), nD (cnt L3 15), D.sl (Nat.ble 1 (List.length (symsL L3))) (List.length (symsL L3)) 1 (bif true && Nat.beq (List.length (symsL L3) * 1) (List.length (List.map nD (symsL L3))) then List.map nD (symsL L3) else List.take (List.length (symsL L3) * 1) (List.drop 0 (List.map nD (symsL L3))))], D.agg [iD (f 0), iD (f 1), iD (f 2), iD (f 3), iD (f 4), iD (f 5), iD (f 6), iD (f 7), iD (f 8), iD (f 9), iD (f 10), iD (f 11), iD (f 12), iD (f 13), iD (f 14), iD (f 15), D.sl false q 1 (List.map iD ys)]]) _ (by exact (And.intro (D.sim.agg (And.intro (D.sim.refl _) (And.intro (D.sim.refl _) (And.intro (D.sim.refl _) (And.intro (D.sim.refl _) (And.intro (D.sim.refl _) (And.intro (D.sim.refl _) (And.intro (D.sim.refl _) (And.intro (D.sim.refl _) (And.intro (D.sim.refl _) (And.intro (D.sim.refl _) (And.intro (D.sim.refl _) (And.intro (D.sim.refl _) (And.intro (D.sim.refl _) (And.intro (D.sim.refl _) (And.intro (D.sim.refl _) (And.intro (D.sim.refl _) (And.intro (D.sim.slw rfl (cond_t (by (simp; done)) |>.trans rfl)) trivial)))))))))))))))))) (And.intro (D.sim.refl _) trivial))) (true) wr _ _ _ (CallOk.fn (FnOk.of Try.func35 rfl rfl) (@same_gn (L3) (List.length (symsL L3)) om (f) (ys) (q) om om om (by (simp_all; done)))) (.s 5 (.out [] [] (iD 8) [] R (ok _ _ wr wr))))))))))))) (fun | () => (.out [] [] (iD 8) [] R (ok _ _ wr wr)))))))))) (by kernel_rfl)
end Vp
end Go.Proofs.Ytegjeagfcfhbeaa
namespace Go.Proofs.Ytegjeagfcfhbeaa
open Go.RowKit Go.Bw Go.Vx
namespace Vp
def u32D (x : Nat) : D := .v (.int .u32 ((x : Nat) : Int))
def halfN (x : Nat) : Nat → Nat
 | 0 => x
 | i + 1 => halfN x i / 2
theorem halfN_eq (x : Nat) : ∀ i, halfN x i = x / 2 ^ i
 | 0 => (Nat.div_one x).symm
 | i + 1 => by rw [halfN, halfN_eq x i, Nat.div_div_eq_div_mul, Nat.pow_succ]
theorem halfN_le (x : Nat) : ∀ i, halfN x i ≤ x
 | 0 => Nat.le_refl _
 | i + 1 => by rw [halfN]; have := halfN_le x i; omega
def twoN : Nat → Nat
 | 0 => 1
 | i + 1 => 2 * twoN i
theorem twoN_eq : ∀ i, twoN i = 2 ^ i
 | 0 => rfl
 | i + 1 => by rw [twoN, twoN_eq i, Nat.pow_succ, Nat.mul_comm]
theorem twoN_32 {i : Nat} (h : i ≤ 32) : twoN i ≤ 4294967296 := by rw [twoN_eq]; exact Nat.pow_le_pow_right (show 0 < 2 by decide) h
theorem bit_half (b : List UInt8) (p : Nat) : bitB b p = halfN (b.getD (p / 8) default).toNat (p % 8) % 2 := by rw [halfN_eq]; rfl
theorem rBit (b : List UInt8) (n : Nat) (hn : n = b.length) (hN : n ≤ 1000000) (p : Nat) (hp : p < 8 * n) : SpecH false Try.prog 114 [.sl false n 1 (b.map dB), nD p] [] (u32D (bitB b p)) [] := by
 refine SpecH.run T_ok mixed Try.func114 rfl rfl rfl trivial rfl 1000 64 (fun R ok => (.s 5 (.opt (bitO IntKind.i64 (IntKind.wrap IntKind.i64 (Int.tdiv (↑p : Int) 8))) (iD ((↑p : Int) / 8)) (bitO_of (@bx_quo_i64  ((↑p : Int)) (8) om om)) (.s 1 (.chk (true && decide ((↑p : Int) / 8 < (↑n : Int)) && true) (by ((refine and_tI ?_ ?_) <;> (repeat' (first | (refine and_tI ?_ ?_) | (with_reducible rfl) | (refine decide_eq_true ?_) | (refine Nat.ble_eq_true_of_le ?_) | (refine nbeq ?_))) <;> (omega))) (.s 2 (.opt ((List.map dB b)[Int.toNat ((↑p : Int) / 8) * 1]?) (dB (List.getD b (Int.toNat ((↑p : Int) / 8) * 1) default)) (map_get _ _ om) (.s 1 (.op (↑(UInt8.toNat (List.getD b (Int.toNat ((↑p : Int) / 8) * 1) default)) : Int) (by (exact u8_rng _ (by decide) (by decide))) (.s 2 (.val 5 (nD (UInt8.toNat (List.getD b (Int.toNat ((↑p : Int) / 8) * 1) default))) (nD (halfN (UInt8.toNat (List.getD b (p / 8) default)) 0)) (by (show D.v (.int .i64 _) = nD (halfN _ 0); rw [show (Int.toNat ((p : Int) / 8) * 1) = p / 8 from by omega]; rfl)) (Hn.inl T_ok mixed false 24 0 (loopAt Try.prog 114 0) (fun (x : (i : Nat) ×' (hi : i ≤ p % 8) ×' Unit) => match x with | ⟨i, hi, _⟩ => CutS.mk [(1, nD p), (5, nD (halfN (b.getD (p / 8) default).toNat i)), (6, nD i)] [] 0) (fun (x : (i : Nat) ×' (hi : i ≤ p % 8) ×' Unit) => match x with | ⟨i, hi, _⟩ => 8 - i) [⟨Unit, .exit 0, fun x => match x with | () => CutS.mk [(1, nD p), (5, nD (halfN (b.getD (p / 8) default).toNat (p % 8))), (6, nD (p % 8))] [] 0⟩] 1000 64 (fun | ⟨i, hi, _⟩, Q, next1, last1 => (.s 4 (.opt (bitO IntKind.i64 (Int.tmod (↑p : Int) 8)) (iD ((↑p : Int) % 8)) (bitO_of (@bx_rem  ((↑p : Int)) (8) om)) (.s 2 (.br (decide ((↑i : Int) < (↑p : Int) % 8)) (fun p0 => have p0f := odt p0; (.s 3 (.opt (bitO IntKind.i64 (IntKind.wrap IntKind.i64 (Int.tdiv (↑(halfN (UInt8.toNat (List.getD b (p / 8) default)) i) : Int) 2))) (iD ((↑(halfN (UInt8.toNat (List.getD b (p / 8) default)) i) : Int) / 2)) (bitO_of (@bx_quo_i64  ((↑(halfN (UInt8.toNat (List.getD b (p / 8) default)) i) : Int)) (2) (by ( have h9 := halfN_le (b.getD (p / 8) default).toNat i; have h8 := (b.getD (p / 8) default).toNat_lt; omega)) om)) (.s 4 (.ow ((↑i : Int) + 1) (.s 1 (.val 5 (iD ((↑(halfN (UInt8.toNat (List.getD b (p / 8) default)) i) : Int) / 2)) (nD (halfN (UInt8.toNat (List.getD b (p / 8) default)) (i + 1))) (by (rw [halfN]; refine iv_eq ?_; omega)) (.val 6 (iD ((↑i : Int) + 1)) (nD (i + 1)) (by (refine iv_eq ?_; (omega))) (Hn.next next1 ⟨(i + 1), om, ⟨⟩⟩ (by show 8 - (i + 1) < 8 - i; clear next1 last1; omega) [] ro))))))))) (fun p0 => have p0f := odf p0; (.val 5 (nD (halfN (UInt8.toNat (List.getD b (p / 8) default)) i)) (nD (halfN (UInt8.toNat (List.getD b (p / 8) default)) (p % 8))) (by ( rw [show i = p % 8 from by omega])) (.val 6 (nD i) (nD (p % 8)) (by ( rw [show i = p % 8 from by omega])) (Hn.last last1 0 (() : Unit) rfl [] ro))))))))) (fun | ⟨i, hi, _⟩ => by kernel_rfl) ⟨(0), om, ⟨⟩⟩ [] ro (hs1 (fun | () => (.s 3 (.opt (bitO IntKind.i64 (Int.tmod (↑(halfN (UInt8.toNat (List.getD b (p / 8) default)) (p % 8)) : Int) 2)) (iD ((↑(halfN (UInt8.toNat (List.getD b (p / 8) default)) (p % 8)) : Int) % 2)) (bitO_of (@bx_rem  ((↑(halfN (UInt8.toNat (List.getD b (p / 8) default)) (p % 8)) : Int)) (2) om)) (.s 1 (.opt (wrapO .u32 ((↑(halfN (UInt8.toNat (List.getD b (p / 8) default)) (p % 8)) : Int) % 2)) (D.v (Value.int .u32 ((↑(halfN (UInt8.toNat (List.getD b (p / 8) default)) (p % 8)) : Int) % 2))) (wrapO_u32 om) (.s 1 (.out [] [] (D.v (Value.int .u32 ((↑(halfN (UInt8.toNat (List.getD b (p / 8) default)) (p % 8)) : Int) % 2))) [] R (ok _ _ (by (rw [bit_half]; rfl)) wr))))))))))))))))))))) (by kernel_rfl)
theorem rPow (k : Nat) (hk : k ≤ 32) : SpecH false Try.prog 115 [nD k] [] (.v (.int .u64 ((twoN k : Nat) : Int))) [] := by
 refine SpecH.run T_ok mixed Try.func115 rfl rfl rfl trivial rfl 1000 64 (fun R ok => (.s 3 (Hn.inl T_ok mixed false 13 0 (loopAt Try.prog 115 0) (fun (x : (i : Nat) ×' (hi : i ≤ k) ×' Unit) => match x with | ⟨i, hi, _⟩ => CutS.mk [(0, nD k), (3, .v (.int .u64 ((twoN i : Nat) : Int))), (4, nD i)] [] 0) (fun (x : (i : Nat) ×' (hi : i ≤ k) ×' Unit) => match x with | ⟨i, hi, _⟩ => k - i) [⟨Unit, .exit 0, fun x => match x with | () => CutS.mk [(0, nD k), (3, .v (.int .u64 ((twoN k : Nat) : Int))), (4, nD k)] [] 0⟩] 1000 64 (fun | ⟨i, hi, _⟩, Q, next1, last1 => (.s 4 (.br (decide ((↑i : Int) < (↑k : Int))) (fun p0 => have p0f := odt p0; (.s 3 (.opt (wrapO .u64 (2 * (↑(twoN i) : Int))) (D.v (Value.int .u64 (2 * (↑(twoN i) : Int)))) (wrapO_u64 (by ( have h9 := twoN_32 (i := i) om; omega))) (.s 4 (.ow ((↑i : Int) + 1) (.s 1 (.val 3 (D.v (Value.int .u64 (2 * (↑(twoN i) : Int)))) (D.v (Value.int .u64 (↑(twoN (i + 1)) : Int))) (by (rw [twoN]; refine iv_eq ?_; omega)) (.val 4 (iD ((↑i : Int) + 1)) (nD (i + 1)) (by (refine iv_eq ?_; (omega))) (Hn.next next1 ⟨(i + 1), om, ⟨⟩⟩ (by show k - (i + 1) < k - i; clear next1 last1; omega) [] ro))))))))) (fun p0 => have p0f := odf p0; (.val 3 (D.v (Value.int .u64 (↑(twoN i) : Int))) (D.v (Value.int .u64 (↑(twoN k) : Int))) (by ( rw [show i = k from by omega])) (.val 4 (nD i) (nD k) (by ( rw [show i = k from by omega])) (Hn.last last1 0 (() : Unit) rfl [] ro))))))) (fun | ⟨i, hi, _⟩ => by kernel_rfl) ⟨(0), om, ⟨⟩⟩ [] ro (hs1 (fun | () => (.s 2 (.out [] [] (D.v (Value.int .u64 (↑(twoN k) : Int))) [] R (ok _ _ wr wr)))))))) (by kernel_rfl)
theorem numB_bd (b : List UInt8) (p : Nat) {i : Nat} (h : i < 32) : twoN i ≤ 2147483648 ∧ numB b p i < twoN i ∧ bitB b (p + i) < 2 ∧ twoN i * bitB b (p + i) ≤ twoN i := by
 have h1 := numB_lt b p i
 have h2 := bitB_lt b (p + i)
 rw [← twoN_eq] at h1
 refine ⟨by rw [twoN_eq]; exact Nat.pow_le_pow_right (show 0 < 2 by decide) (show i ≤ 31 by omega), h1, h2, ?_⟩
 exact Nat.le_trans (Nat.mul_le_mul_left _ (show bitB b (p + i) ≤ 1 by omega)) (Nat.le_of_eq (Nat.mul_one _))
theorem num_next (b : List UInt8) (p i : Nat) : ((numB b p (i + 1) : Nat) : Int) = (numB b p i : Int) + ((bitB b (p + i) : Nat) : Int) * ((twoN i : Nat) : Int) := by
 rw [numB, twoN_eq]; push_cast; rw [Int.mul_comm]
theorem rNum (b : List UInt8) (n : Nat) (hn : n = b.length) (hN : n ≤ 1000000) (p : Nat) (m : Nat) (hm : m ≤ 32) (hp : p + m ≤ 8 * n) : SpecH false Try.prog 84 [.sl false n 1 (b.map dB), nD p, nD m] [] (u32D (numB b p m)) [] := by
 refine SpecH.run T_ok mixed Try.func84 rfl rfl rfl trivial rfl 1000 64 (fun R ok => (.s 3 (Hn.inl T_ok mixed false 27 0 (loopAt Try.prog 84 0) (fun (x : (i : Nat) ×' (hi : i ≤ m) ×' Unit) => match x with | ⟨i, hi, _⟩ => CutS.mk [(0, D.sl false n 1 (List.map dB b)), (1, nD p), (2, nD m), (7, .v (.int .u64 ((numB b p i : Nat) : Int))), (8, nD i)] [] 0) (fun (x : (i : Nat) ×' (hi : i ≤ m) ×' Unit) => match x with | ⟨i, hi, _⟩ => m - i) [⟨Unit, .exit 0, fun x => match x with | () => CutS.mk [(0, D.sl false n 1 (List.map dB b)), (1, nD p), (2, nD m), (7, .v (.int .u64 ((numB b p m : Nat) : Int))), (8, nD m)] [] 0⟩] 1000 64 (fun | ⟨i, hi, _⟩, Q, next1, last1 => (.s 4 (.br (decide ((↑i : Int) < (↑m : Int))) (fun p0 => have p0f := odt p0; (.s 6 (.ow ((↑p : Int) + (↑i : Int)) (.s 1 (.call 114 false [] (true) wr ([D.sl false n 1 (List.map dB b), iD ((↑p : Int) + (↑i : Int))]) _ (by exact (And.intro (D.sim.refl _) (And.intro (D.sim.of_eq (by ( have q := numB_32 b p hm; refine iv_eq ?_; omega))) trivial))) (true) wr _ _ _ (CallOk.fn (FnOk.of Try.func114 rfl rfl) (@rBit (b) (n) om om (p + i) om)) (.s 1 (.opt (wrapO .u64 (↑(bitB b (p + i)) : Int)) (D.v (Value.int .u64 ((↑(bitB b (p + i)) : Int) % 18446744073709551616))) (wrapO_eq _ _) (.s 2 (.cl 115 false [] (.fn q115 (@rPow (i) om)) (.s 2 (.opt (wrapO .u64 ((↑(bitB b (p + i)) : Int) % 18446744073709551616 * (↑(twoN i) : Int))) (D.v (Value.int .u64 ((↑(bitB b (p + i)) : Int) % 18446744073709551616 * (↑(twoN i) : Int) % 18446744073709551616))) (wrapO_eq _ _) (.s 2 (.opt (wrapO .u64 ((↑(numB b p i) : Int) + (↑(bitB b (p + i)) : Int) % 18446744073709551616 * (↑(twoN i) : Int) % 18446744073709551616)) (D.v (Value.int .u64 (((↑(numB b p i) : Int) + (↑(bitB b (p + i)) : Int) % 18446744073709551616 * (↑(twoN i) : Int) % 18446744073709551616) % 18446744073709551616))) (wrapO_eq _ _) (.s 4 (.ow ((↑i : Int) + 1) (.s 1 (.val 7 (D.v (Value.int .u64 (((↑(numB b p i) : Int) + (↑(bitB b (p + i)) : Int) % 18446744073709551616 * (↑(twoN i) : Int) % 18446744073709551616) % 18446744073709551616))) (D.v (Value.int .u64 (↑(numB b p (i + 1)) : Int))) (by ( have q := numB_bd b p (i := i) om; have q2 := num_next b p i; have q3 : ((bitB b (p + i) : Nat) : Int) * ((twoN i : Nat) : Int) = ((twoN i * bitB b (p + i) : Nat) : Int) := (by push_cast; rw [Int.mul_comm]); rw [show ((bitB b (p + i) : Nat) : Int) % 18446744073709551616 = (bitB b (p + i) : Nat) from by omega, q3]; refine iv_eq ?_; omega)) (.val 8 (iD ((↑i : Int) + 1)) (nD (i + 1)) (by ( have q := numB_32 b p hm; refine iv_eq ?_; omega)) (Hn.next next1 ⟨(i + 1), om, ⟨⟩⟩ (by show m - (i + 1) < m - i; clear next1 last1; omega) [] ro))))))))))))))))))) (fun p0 => have p0f := odf p0; (.val 7 (D.v (Value.int .u64 (↑(numB b p i) : Int))) (D.v (Value.int .u64 (↑(numB b p m) : Int))) (by ( rw [show i = m from by omega])) (.val 8 (nD i) (nD m) (by ( rw [show i = m from by omega])) (Hn.last last1 0 (() : Unit) rfl [] ro))))))) (fun | ⟨i, hi, _⟩ => by kernel_rfl) ⟨(0), om, ⟨⟩⟩ [] ro (hs1 (fun | () => (.s 2 (.opt (wrapO .u32 (↑(numB b p m) : Int)) (D.v (Value.int .u32 ((↑(numB b p m) : Int) % 4294967296))) (wrapO_eq _ _) (.s 1 (.out [] [] (D.v (Value.int .u32 ((↑(numB b p m) : Int) % 4294967296))) [] R (ok _ _ (by ( have q := numB_32 b p hm; refine iv_eq ?_; omega)) wr)))))))))) (by kernel_rfl)
theorem rTake (b : List UInt8) (n : Nat) (hn : n = b.length) (hN : n ≤ 1000000) (p m : Nat) (hm : m ≤ 32) (hp : p ≤ 1000000000) : SpecH false Try.prog 51 [.sl false n 1 (b.map dB), nD p, nD m] [] (.tup [u32D (tkV b p m), nD (tkE b p m)]) [] := by
 refine SpecH.run T_ok mixed Try.func51 rfl rfl rfl trivial rfl 1000 64 (fun R ok => (.s 19 (.f (decide (32 < (↑m : Int))) (by (refine decide_eq_false ?_; (omega))) (.s 5 (.ow (8 * (↑n : Int)) (.s 4 (.br (decide (8 * (↑n : Int) < (↑p : Int))) (fun p0 => have p0f := odt p0; (.s 16 (.out [] [] (D.tup [D.v (Value.int .u32 0), iD 10]) [] R (ok _ _ (by ( rw [tkV_0 om, tkE_0 om]; rfl)) wr)))) (fun p0 => have p0f := odf p0; (.s 7 (.ow (8 * (↑n : Int)) (.s 5 (.ow (8 * (↑n : Int) - (↑p : Int)) (.s 4 (.br (decide (8 * (↑n : Int) - (↑p : Int) < (↑m : Int))) (fun p1 => have p1f := odt p1; (.s 2 (.out [] [] (D.tup [D.v (Value.int .u32 0), iD 10]) [] R (ok _ _ (by ( rw [tkV_0 om, tkE_0 om]; rfl)) wr)))) (fun p1 => have p1f := odf p1; (.s 4 (.cl 84 false [] (.fn q84 (@rNum (b) (n) om om (p) (m) om om)) (.s 2 (.out [] [] (D.tup [D.v (Value.int .u32 (↑(numB b p m) : Int)), iD 0]) [] R (ok _ _ (by ( rw [tkV_1 om, tkE_1 om]; rfl)) wr)))))))))))))))))))) (by kernel_rfl)
end Vp
end Go.Proofs.Ytegjeagfcfhbeaa
namespace Go.Proofs.Ytegjeagfcfhbeaa
open Go.RowKit Go.Bw Go.Vx
namespace Vp
theorem zdx0 {p : Prop} (h : p := by (refine iv_eq ?_; (omega))) : p := h
theorem zdx1 {p : Prop} (h : p := by ((refine and_tI ?_ ?_) <;> (repeat' (first | (refine and_tI ?_ ?_) | (with_reducible rfl) | (refine decide_eq_true ?_) | (refine Nat.ble_eq_true_of_le ?_) | (refine nbeq ?_))) <;> (omega))) : p := h
theorem zdx2 {p : Prop} (h : p := by ( have q := kr_y2 (l := l) (i := i) om ho om; refine iv_eq ?_; omega)) : p := h
theorem zdx3 {p : Prop} (h : p := by show n - (i + 1) < n - i; clear next1 last1; omega) : p := h
theorem zdx4 {p : Prop} (h : p := by ( have h9 := kraft_le (l.take i); have h8 := usedN_le (l.take i); rw [List.length_take] at h9 h8; have h7 := halfN_le 32768 (l.getD (i * 1) default).toNat; omega)) : p := h
theorem half_part {v : Nat} (h : v ≤ 15) : halfN 32768 v = 2 ^ (15 - v) := by
 rw [halfN_eq, show (32768 : Nat) = 2 ^ 15 from rfl, Nat.pow_div h (by decide)]
theorem kr_y2 {l : List UInt8} {i : Nat} (h : i < l.length) (ho : overB l 15 = false) (h1 : 0 < (l.getD (i * 1) default).toNat) : kraft (l.take (i + 1)) = kraft (l.take i) + halfN 32768 (l.getD (i * 1) default).toNat ∧ usedN (l.take (i + 1)) = usedN (l.take i) + 1 := by
 rw [Nat.mul_one] at *
 rw [kraft_snoc h, usedN_snoc h, if_neg (by omega), if_neg (by omega), half_part (over_le ho h)]; exact ⟨rfl, rfl⟩
theorem rPart (v : Nat) (hv : v < 256) : SpecH false Try.prog 93 [u8D v] [] (nD (halfN 32768 v)) [] := by
 refine SpecH.run T_ok mixed Try.func93 rfl rfl rfl trivial rfl 1000 64 (fun R ok => (.s 3 (Hn.inl T_ok mixed false 14 0 (loopAt Try.prog 93 0) (fun (x : (i : Nat) ×' (hi : i ≤ v) ×' Unit) => match x with | ⟨i, hi, _⟩ => CutS.mk [(0, D.v (Value.int .u8 (↑v : Int))), (3, nD (halfN 32768 i)), (4, nD i)] [] 0) (fun (x : (i : Nat) ×' (hi : i ≤ v) ×' Unit) => match x with | ⟨i, hi, _⟩ => v - i) [⟨Unit, .exit 0, fun x => match x with | () => CutS.mk [(0, D.v (Value.int .u8 (↑v : Int))), (3, nD (halfN 32768 v)), (4, nD v)] [] 0⟩] 1000 64 (fun | ⟨i, hi, _⟩, Q, next1, last1 => (.s 3 (.ow (↑v : Int) (.s 2 (.br (decide ((↑i : Int) < (↑v : Int))) (fun p0 => have p0f := odt p0; (.s 3 (.opt (bitO IntKind.i64 (IntKind.wrap IntKind.i64 (Int.tdiv (↑(halfN 32768 i) : Int) 2))) (iD ((↑(halfN 32768 i) : Int) / 2)) (bitO_of (@bx_quo_i64  ((↑(halfN 32768 i) : Int)) (2) (by ( have h9 := halfN_le 32768 i; omega)) om)) (.s 4 (.ow ((↑i : Int) + 1) (.s 1 (.val 3 (iD ((↑(halfN 32768 i) : Int) / 2)) (nD (halfN 32768 (i + 1))) (by (rw [halfN]; refine iv_eq ?_; omega)) (.val 4 (iD ((↑i : Int) + 1)) (nD (i + 1)) zdx0 (Hn.next next1 ⟨(i + 1), om, ⟨⟩⟩ (by show v - (i + 1) < v - i; clear next1 last1; omega) [] ro))))))))) (fun p0 => have p0f := odf p0; (.val 3 (nD (halfN 32768 i)) (nD (halfN 32768 v)) (by ( rw [show i = v from by omega])) (.val 4 (nD i) (nD v) (by ( rw [show i = v from by omega])) (Hn.last last1 0 (() : Unit) rfl [] ro))))))))) (fun | ⟨i, hi, _⟩ => by kernel_rfl) ⟨(0), om, ⟨⟩⟩ [] ro (hs1 (fun | () => (.s 2 (.out [] [] (nD (halfN 32768 v)) [] R (ok _ _ wr wr)))))))) (by kernel_rfl)
theorem rParts (l : List UInt8) (n : Nat) (hn : n = l.length) (hN : n ≤ 1000000) (ho : overB l 15 = false) (h3 : n ≤ 1000) : SpecH false Try.prog 120 [.sl false n 1 (l.map dB)] [] (.tup [nD (kraft l), nD (usedN l)]) [] := by
 refine SpecH.run T_ok mixed Try.func120 rfl rfl rfl trivial rfl 1000 64 (fun R ok => (.s 5 (Hn.inl T_ok mixed false 29 0 (loopAt Try.prog 120 0) (fun (x : (i : Nat) ×' (hi : i ≤ n) ×' Unit) => match x with | ⟨i, hi, _⟩ => CutS.mk [(0, D.sl false n 1 (List.map dB l)), (4, nD (kraft (l.take i))), (5, nD (usedN (l.take i))), (6, nD i)] [] 0) (fun (x : (i : Nat) ×' (hi : i ≤ n) ×' Unit) => match x with | ⟨i, hi, _⟩ => n - i) [⟨Unit, .exit 0, fun x => match x with | () => CutS.mk [(0, D.sl false n 1 (List.map dB l)), (4, nD (kraft l)), (5, nD (usedN l)), (6, nD n)] [] 0⟩] 1000 64 (fun | ⟨i, hi, _⟩, Q, next1, last1 => (.s 5 (.br (decide ((↑i : Int) < (↑n : Int))) (fun p0 => have p0f := odt p0; (.s 3 (.chk (true && decide ((↑i : Int) < (↑n : Int)) && true) zdx1 (.s 2 (.opt ((List.map dB l)[i * 1]?) (dB (List.getD l (i * 1) default)) (map_get _ _ om) (.s 2 (.br (decide (0 < (↑(UInt8.toNat (List.getD l (i * 1) default)) : Int))) (fun p1 => have p1f := odt p1; (.s 4 (.chk (true && decide ((↑i : Int) < (↑n : Int)) && true) zdx1 (.s 2 (.opt ((List.map dB l)[i * 1]?) (dB (List.getD l (i * 1) default)) (map_get _ _ om) (.s 1 (.cl 93 false [] (.fn q93 (@rPart (UInt8.toNat (List.getD l (i * 1) default)) (by (exact UInt8.toNat_lt _)))) (.s 2 (.op ((↑(kraft (List.take i l)) : Int) + (↑(halfN 32768 (UInt8.toNat (List.getD l (i * 1) default))) : Int)) zdx4 (.s 4 (.op ((↑(usedN (List.take i l)) : Int) + 1) zdx4 (.s 4 (.ow ((↑i : Int) + 1) (.s 1 (.val 4 (iD ((↑(kraft (List.take i l)) : Int) + (↑(halfN 32768 (UInt8.toNat (List.getD l (i * 1) default))) : Int))) (nD (kraft (List.take (i + 1) l))) zdx2 (.val 5 (iD ((↑(usedN (List.take i l)) : Int) + 1)) (nD (usedN (List.take (i + 1) l))) zdx2 (.val 6 (iD ((↑i : Int) + 1)) (nD (i + 1)) zdx2 (Hn.next next1 ⟨(i + 1), om, ⟨⟩⟩ zdx3 [] ro)))))))))))))))))) (fun p1 => have p1f := odf p1; (.s 3 (.ow ((↑i : Int) + 1) (.s 1 (.val 4 (nD (kraft (List.take i l))) (nD (kraft (List.take (i + 1) l))) (by ( rw [(kr_n (l := l) om om).1])) (.val 5 (nD (usedN (List.take i l))) (nD (usedN (List.take (i + 1) l))) (by ( rw [(kr_n (l := l) om om).2])) (.val 6 (iD ((↑i : Int) + 1)) (nD (i + 1)) zdx0 (Hn.next next1 ⟨(i + 1), om, ⟨⟩⟩ zdx3 [] ro))))))))))))))) (fun p0 => have p0f := odf p0; (.val 4 (nD (kraft (List.take i l))) (nD (kraft l)) (by (rw [List.take_of_length_le (by (omega))])) (.val 5 (nD (usedN (List.take i l))) (nD (usedN l)) (by (rw [List.take_of_length_le (by (omega))])) (.val 6 (nD i) (nD n) zdx0 (Hn.last last1 0 (() : Unit) rfl [] ro)))))))) (fun | ⟨i, hi, _⟩ => by kernel_rfl) ⟨(0), om, ⟨⟩⟩ [] ro (hs1 (fun | () => (.s 4 (.out [] [] (D.tup [nD (kraft l), nD (usedN l)]) [] R (ok _ _ wr wr)))))))) (by kernel_rfl)
theorem can_4 {l : List UInt8} {m : Nat} (h : 320 < l.length) : canE l m = 4 := by rw [canE_eq]; exact if_pos h
theorem can_2 {l : List UInt8} {m : Nat} (h : ¬ 320 < l.length) (h2 : overB l m = true) : canE l m = 2 := by rw [canE_eq]; exact (if_neg h).trans (if_pos h2)
theorem can_30 {l : List UInt8} {m : Nat} (h : ¬ 320 < l.length) (h2 : overB l m = false) (h3 : 32768 < kraft l) : canE l m = 30 := by rw [canE_eq]; exact (if_neg h).trans ((if_neg (by rw [h2]; decide)).trans (if_pos h3))
theorem can_0 {l : List UInt8} {m : Nat} (h : ¬ 320 < l.length) (h2 : overB l m = false) (h3 : ¬ 32768 < kraft l) (h4 : kraft l = 32768 ∨ usedN l = 0 ∨ usedN l = 1 ∧ kraft l = 16384) : canE l m = 0 := by rw [canE_eq]; exact (if_neg h).trans ((if_neg (by rw [h2]; decide)).trans ((if_neg h3).trans (if_pos h4)))
theorem can_31 {l : List UInt8} {m : Nat} (h : ¬ 320 < l.length) (h2 : overB l m = false) (h3 : ¬ 32768 < kraft l) (h4 : ¬ (kraft l = 32768 ∨ usedN l = 0 ∨ usedN l = 1 ∧ kraft l = 16384)) : canE l m = 31 := by rw [canE_eq]; exact (if_neg h).trans ((if_neg (by rw [h2]; decide)).trans ((if_neg h3).trans (if_neg h4)))
theorem over_up {l : List UInt8} {m k : Nat} (h : overB l m = false) (hk : m ≤ k) : overB l k = false := over_no fun i hi => Nat.le_trans (over_le h hi) hk
theorem rCan (l : List UInt8) (n : Nat) (hn : n = l.length) (hN : n ≤ 1000000) (k : Nat) (hm : 1 ≤ k ∧ k ≤ 15) : SpecH false Try.prog 87 [.sl false n 1 (l.map dB), nD k] [] (nD (canE l k)) [] := by
 refine SpecH.run T_ok mixed Try.func87 rfl rfl rfl trivial rfl 1000 64 (fun R ok => (.s 6 (.f (decide ((↑k : Int) < 1)) (by (refine decide_eq_false ?_; (omega))) (.s 4 (.f (decide (15 < (↑k : Int))) (by (refine decide_eq_false ?_; (omega))) (.s 4 (.br (decide (320 < (↑n : Int))) (fun p0 => have p0f := odt p0; (.s 1 (.out [] [] (iD 4) [] R (ok _ _ (by ( rw [can_4 om]; rfl)) wr)))) (fun p0 => have p0f := odf p0; (.s 1 (Hn.inl T_ok mixed false 51 0 (loopAt Try.prog 87 0) (fun (x : (i : Nat) ×' (hi : i ≤ n) ×' (ho : ∀ j, j < i → (l.getD j default).toNat ≤ k) ×' Unit) => match x with | ⟨i, hi, ho, _⟩ => CutS.mk [(0, D.sl false n 1 (List.map dB l)), (1, nD k), (5, nD i)] [] 0) (fun (x : (i : Nat) ×' (hi : i ≤ n) ×' (ho : ∀ j, j < i → (l.getD j default).toNat ≤ k) ×' Unit) => match x with | ⟨i, hi, ho, _⟩ => n - i) [⟨(ho2 : overB l k = false) ×' Unit, .exit 0, fun x => match x with | ⟨ho2, _⟩ => CutS.mk [(0, D.sl false n 1 (List.map dB l)), (1, nD k), (5, nD n)] [] 0⟩, ⟨(ho3 : overB l k = true) ×' Unit, .ret, fun x => match x with | ⟨ho3, _⟩ => CutS.mk [(4, iD 2)] [] 0⟩] 1000 64 (fun | ⟨i, hi, ho, _⟩, Q, next1, last1 => (.s 5 (.br (decide ((↑i : Int) < (↑n : Int))) (fun p1 => have p1f := odt p1; (.s 3 (.chk (true && decide ((↑i : Int) < (↑n : Int)) && true) zdx1 (.s 2 (.opt ((List.map dB l)[i * 1]?) (dB (List.getD l (i * 1) default)) (map_get _ _ om) (.s 1 (.op (↑(UInt8.toNat (List.getD l (i * 1) default)) : Int) (by (exact u8_rng _ (by decide) (by decide))) (.s 3 (.br (decide ((↑k : Int) < (↑(UInt8.toNat (List.getD l (i * 1) default)) : Int))) (fun p2 => have p2f := odt p2; (.s 1 (Hn.last last1 1 (⟨(by ( exact over_of (i := i) om (by rw [Nat.mul_one] at *; omega))), ⟨⟩⟩ : (ho3 : overB l k = true) ×' Unit) rfl [] ro))) (fun p2 => have p2f := odf p2; (.s 3 (.ow ((↑i : Int) + 1) (.s 1 (.val 5 (iD ((↑i : Int) + 1)) (nD (i + 1)) zdx0 (Hn.next next1 ⟨(i + 1), om, (by (exact ho_next ho asm)), ⟨⟩⟩ zdx3 [] ro))))))))))))))) (fun p1 => have p1f := odf p1; (.val 5 (nD i) (nD n) zdx0 (Hn.last last1 0 (⟨(by ( exact over_no fun j hj => ho j om)), ⟨⟩⟩ : (ho2 : overB l k = false) ×' Unit) rfl [] ro)))))) (fun | ⟨i, hi, ho, _⟩ => by kernel_rfl) ⟨(0), om, om, ⟨⟩⟩ [] ro (hs2 (fun | ⟨ho2, _⟩ => (.s 2 (.cl 120 false [] (.fn q120 (@rParts (l) (n) om om (by (exact over_up ho2 (by (omega)))) om)) (.s 10 (.br (decide (32768 < (↑(kraft l) : Int))) (fun p3 => have p3f := odt p3; (.s 1 (.out [] [] (iD 30) [] R (ok _ _ (by ( rw [can_30 om ho2 om]; rfl)) wr)))) (fun p3 => have p3f := odf p3; (.s 5 (.br ((↑(kraft l) : Int) == 32768) (fun p4 => have p4f := eq_of_beq p4; (.s 17 (.out [] [] (iD 0) [] R (ok _ _ (by ( rw [can_0 om ho2 om om]; rfl)) wr)))) (fun p4 => have p4f := of_beq_f p4; (.s 6 (.br ((↑(usedN l) : Int) == 0) (fun p5 => have p5f := eq_of_beq p5; (.s 11 (.out [] [] (iD 0) [] R (ok _ _ (by ( rw [can_0 om ho2 om om]; rfl)) wr)))) (fun p5 => have p5f := of_beq_f p5; (.s 6 (.br ((↑(usedN l) : Int) == 1) (fun p6 => have p6f := eq_of_beq p6; (.s 6 (.br ((↑(kraft l) : Int) == 16384) (fun p7 => have p7f := eq_of_beq p7; (.s 1 (.out [] [] (iD 0) [] R (ok _ _ (by ( rw [can_0 om ho2 om om]; rfl)) wr)))) (fun p7 => have p7f := of_beq_f p7; (.s 1 (.out [] [] (iD 31) [] R (ok _ _ (by ( rw [can_31 om ho2 om om]; rfl)) wr))))))) (fun p6 => have p6f := of_beq_f p6; (.s 7 (.out [] [] (iD 31) [] R (ok _ _ (by ( rw [can_31 om ho2 om om]; rfl)) wr)))))))))))))))))) (fun | ⟨ho3, _⟩ => (.out [] [] (iD 2) [] R (ok _ _ (by ( rw [can_2 om ho3]; rfl)) wr)))))))))))))) (by kernel_rfl)
theorem rWhole (l : List UInt8) (n : Nat) (hn : n = l.length) (hN : n ≤ 1000000) (ho : overB l 15 = false) (h3 : n ≤ 1000) : SpecH false Try.prog 117 [.sl false n 1 (l.map dB)] [] (.v (.bool (((kraft l : Nat) : Int) == 32768))) [] := by
 refine SpecH.run T_ok mixed Try.func117 rfl rfl rfl trivial rfl 1000 64 (fun R ok => (.s 3 (.cl 120 false [] (.fn q120 (@rParts (l) (n) om om om om)) (.s 11 (.out [] [] (D.v (.bool ((↑(kraft l) : Int) == 32768))) [] R (ok _ _ wr wr)))))) (by kernel_rfl)
end Vp
end Go.Proofs.Ytegjeagfcfhbeaa
namespace Go.Proofs.Ytegjeagfcfhbeaa
open Go.RowKit Go.Bw Go.Vx
namespace Vp
theorem zhx0 {p : Prop} (h : p := by ( have h7 := half_pos (a := a) om; have h6 := Nat.div_le_self (atK l a k) (halfN 32768 a); have h9 := atK_le (l := l) (n := a) (k := k) om om; have h8 := halfN_le 32768 a; omega)) : p := h
theorem zhx1 {p : Prop} (h : p := by ( rw [show k = n from by omega])) : p := h
theorem zhx2 {p : Prop} (h : p := by ( have q := atK_y1 (l := l) (n := a) (k := k) om om; refine iv_eq ?_; omega)) : p := h
theorem zhx3 {p : Prop} (h : p := by show n - (k + 1) < n - k; clear next2 last2 next1 last1; omega) : p := h
def atL (l : List UInt8) : Nat → Nat
 | 0 => 0
 | n + 1 => atL l n + (if n = 0 then 0 else (posT l n l.length).length * halfN 32768 n)
def atK (l : List UInt8) (n k : Nat) : Nat := lk l (atL l n + (if n = 0 then 0 else (posT l n k).length * halfN 32768 n))
theorem atK_eq (l : List UInt8) (n k : Nat) : atK l n k = atL l n + (if n = 0 then 0 else (posT l n k).length * halfN 32768 n) := lk_eq _ _
theorem atK_0 (l : List UInt8) : atK l 1 0 = 0 := by
 rw [atK_eq, if_neg (by decide)]
 have : posT l 1 0 = [] := rfl
 rw [this, List.length_nil, Nat.zero_mul]; rfl
theorem atK_up (l : List UInt8) (n : Nat) : atK l (n + 1) 0 = atK l n l.length := by
 rw [atK_eq, atK_eq, atL, if_neg (Nat.succ_ne_zero n)]
 have : posT l (n + 1) 0 = [] := rfl
 rw [this, List.length_nil, Nat.zero_mul, Nat.add_zero]
theorem atK_y {l : List UInt8} {n k : Nat} (h0 : n ≠ 0) (h : (l.getD k default).toNat = n) : atK l n (k + 1) = atK l n k + halfN 32768 n := by
 rw [atK_eq, atK_eq, if_neg h0, if_neg h0, posT_succ, if_pos h, List.length_append, List.length_singleton, Nat.succ_mul, Nat.add_assoc]
theorem atK_n {l : List UInt8} {n k : Nat} (h : (l.getD k default).toNat ≠ n) : atK l n (k + 1) = atK l n k := by
 rw [atK_eq, atK_eq, posT_succ, if_neg h, List.append_nil]
theorem atL_le (l : List UInt8) : ∀ n, atL l n ≤ n * (l.length * 32768)
 | 0 => Nat.zero_le _
 | n + 1 => by
  have h1 := atL_le l n
  have h2 := Nat.mul_le_mul (posT_le l n l.length) (halfN_le 32768 n)
  rw [atL, Nat.succ_mul]
  split
  ·omega
  ·omega
theorem atK_le {l : List UInt8} {n k : Nat} (hn : n ≤ 16) (hk : k ≤ l.length) : atK l n k ≤ 17 * (l.length * 32768) := by
 rw [atK_eq]
 have h1 := atL_le l n
 have h2 := Nat.mul_le_mul (posT_le l n k) (halfN_le 32768 n)
 have h3 : n * (l.length * 32768) ≤ 16 * (l.length * 32768) := Nat.mul_le_mul_right _ hn
 have h4 : k * 32768 ≤ l.length * 32768 := Nat.mul_le_mul_right _ hk
 split <;> omega
def cdF (l : List UInt8) (j : Nat) : Nat := atK l (l.getD j default).toNat j / halfN 32768 (l.getD j default).toNat
def mdF (l : List UInt8) (n k j : Nat) : Nat × Nat :=
 if (l.getD j default).toNat ≠ 0 ∧ ((l.getD j default).toNat < n ∨ (l.getD j default).toNat = n ∧ j < k) then (cdF l j, (l.getD j default).toNat) else (0, 0)
def md (l : List UInt8) (n k : Nat) : List (Nat × Nat) := lk l ((List.range l.length).map (mdF l n k))
theorem md_eq (l : List UInt8) (n k : Nat) : md l n k = (List.range l.length).map (mdF l n k) := lk_eq _ _
def mdL (l : List UInt8) : List (Nat × Nat) := lk l (md l 16 0)
theorem mdL_eq (l : List UInt8) : mdL l = md l 16 0 := lk_eq _ _
def mdD (c : Nat × Nat) : List D := [u32D c.1, u8D c.2]
theorem md_len (l : List UInt8) (n k : Nat) : (md l n k).length = l.length := by rw [md_eq, List.length_map, List.length_range]
theorem mdL_len (l : List UInt8) : (mdL l).length = l.length := by rw [mdL_eq, md_len]
theorem md_congr {l : List UInt8} {n k m j : Nat} (h : ∀ i, i < l.length → mdF l n k i = mdF l m j i) : md l n k = md l m j := by
 rw [md_eq, md_eq]
 exact List.map_congr_left fun i hi => h i (List.mem_range.1 hi)
theorem md_up (l : List UInt8) (n : Nat) : md l (n + 1) 0 = md l n l.length := md_congr fun i hi => by
 unfold mdF
 by_cases h : (l.getD i default).toNat ≠ 0 ∧ (l.getD i default).toNat < n + 1
 ·rw [if_pos ⟨h.1, .inl h.2⟩, if_pos ⟨h.1, by omega⟩]
 ·rw [if_neg (fun q => by omega), if_neg (fun q => by omega)]
theorem mdF_ne {l : List UInt8} {n k i : Nat} (e : i ≠ k) : mdF l n (k + 1) i = mdF l n k i := by
 unfold mdF
 by_cases q : (l.getD i default).toNat ≠ 0 ∧ ((l.getD i default).toNat < n ∨ (l.getD i default).toNat = n ∧ i < k)
 ·rw [if_pos q, if_pos (by omega)]
 ·rw [if_neg q, if_neg (by omega)]
theorem md_n {l : List UInt8} {n k : Nat} (h : (l.getD k default).toNat ≠ n) : md l n (k + 1) = md l n k := md_congr fun i hi => by
 by_cases e : i = k
 ·subst e
  unfold mdF
  by_cases q : (l.getD i default).toNat ≠ 0 ∧ (l.getD i default).toNat < n
  ·rw [if_pos ⟨q.1, .inl q.2⟩, if_pos ⟨q.1, .inl q.2⟩]
  ·rw [if_neg (fun q => by omega), if_neg (fun q => by omega)]
 ·exact mdF_ne e
theorem md_y {l : List UInt8} {n k : Nat} (hk : k < l.length) (h0 : n ≠ 0) (h : (l.getD k default).toNat = n) : md l n (k + 1) = (md l n k).set k (atK l n k / halfN 32768 n, n) := by
 apply List.ext_getElem?
 intro i
 rw [List.getElem?_set, md_len, md_eq, md_eq, List.getElem?_map, List.getElem?_map]
 by_cases e : k = i
 ·subst e
  rw [if_pos rfl, if_pos hk, List.getElem?_range hk]
  show some (mdF l n (k + 1) k) = _
  unfold mdF cdF
  rw [if_pos ⟨by omega, .inr ⟨h, by omega⟩⟩, h]
 ·rw [if_neg e]
  rcases Nat.lt_or_ge i l.length with hi | hi
  ·rw [List.getElem?_range hi]
   show some (mdF l n (k + 1) i) = some (mdF l n k i)
   rw [mdF_ne (fun q => e q.symm)]
  ·rw [List.getElem?_eq_none (by simpa using hi)]; rfl
theorem md_0 (l : List UInt8) : md l 1 0 = List.replicate l.length (0, 0) := by
 rw [md_eq]
 apply List.ext_getElem?
 intro i
 rw [List.getElem?_map, List.getElem?_replicate]
 rcases Nat.lt_or_ge i l.length with hi | hi
 ·rw [List.getElem?_range hi, if_pos hi]
  show some (mdF l 1 0 i) = _
  unfold mdF
  rw [if_neg (fun q => by omega)]
 ·rw [List.getElem?_eq_none (by simpa using hi), if_neg (by omega)]; rfl
theorem fm2_get (f : Nat × Nat → List D) (hf : ∀ c, (f c).length = 2) : ∀ (xs : List (Nat × Nat)) (k : Nat), (xs.flatMap f)[2 * k]? = (xs[k]?).bind (fun c => (f c)[0]?) ∧ (xs.flatMap f)[2 * k + 1]? = (xs[k]?).bind (fun c => (f c)[1]?)
 | [], k => by simp
 | c :: r, 0 => by
  rw [List.flatMap_cons]
  exact ⟨by rw [List.getElem?_append_left (by rw [hf]; omega)]; rfl, by rw [List.getElem?_append_left (by rw [hf]; omega)]; rfl⟩
 | c :: r, k + 1 => by
  have ih := fm2_get f hf r k
  rw [List.flatMap_cons]
  refine ⟨?_, ?_⟩
  ·rw [List.getElem?_append_right (by rw [hf]; omega), hf, show 2 * (k + 1) - 2 = 2 * k from by omega, ih.1]; rfl
  ·rw [List.getElem?_append_right (by rw [hf]; omega), hf, show 2 * (k + 1) + 1 - 2 = 2 * k + 1 from by omega, ih.2]; rfl
theorem fm2_set {xs : List (Nat × Nat)} {k o : Nat} {c : Nat × Nat} (hk : k < xs.length) (ho : o = 2 * k) : setSeg (xs.flatMap mdD) o (mdD c) = (xs.set k c).flatMap mdD := by
 have hl : ∀ ys : List (Nat × Nat), (ys.flatMap mdD).length = 2 * ys.length := fun ys => by rw [fm_length (k := 2) (fun _ => rfl)]; omega
 subst ho
 apply List.ext_getElem?
 intro i
 rw [setSeg_get (by rw [hl]; show 2 * k + 2 ≤ _; omega)]
 have hd : ∃ j, i = 2 * j ∨ i = 2 * j + 1 := ⟨i / 2, by omega⟩
 obtain ⟨j, hj⟩ := hd
 have g1 := fm2_get mdD (fun _ => rfl) xs j
 have g2 := fm2_get mdD (fun _ => rfl) (xs.set k c) j
 show (if 2 * k ≤ i ∧ i < 2 * k + 2 then (mdD c)[i - 2 * k]? else (xs.flatMap mdD)[i]?) = _
 by_cases e : k = j
 ·subst e
  rw [List.getElem?_set, if_pos rfl, if_pos hk] at g2
  rcases hj with rfl | rfl
  ·rw [if_pos (by omega), g2.1, Nat.sub_self]; rfl
  ·rw [if_pos (by omega), g2.2, Nat.add_sub_cancel_left]; rfl
 ·rw [List.getElem?_set, if_neg e] at g2
  rw [if_neg (by omega)]
  rcases hj with rfl | rfl
  ·rw [g1.1, g2.1]
  ·rw [g1.2, g2.2]
theorem rep_md (n : Nat) : repD [D.v (.int .u32 0), D.v (.int .u8 0)] (n * 2) = (List.replicate n ((0, 0) : Nat × Nat)).flatMap mdD := by
 apply List.ext_getElem?
 intro i
 unfold repD
 rw [List.getElem?_map]
 obtain ⟨j, hj⟩ : ∃ j, i = 2 * j ∨ i = 2 * j + 1 := ⟨i / 2, by omega⟩
 have g := fm2_get mdD (fun _ => rfl) (List.replicate n ((0, 0) : Nat × Nat)) j
 rw [List.getElem?_replicate] at g
 by_cases h : j < n
 ·rw [if_pos h] at g
  rcases hj with rfl | rfl
  ·rw [List.getElem?_range (by omega), g.1]
   show some (List.getD _ (2 * j % 2) default) = _
   rw [show 2 * j % 2 = 0 from by omega]; rfl
  ·rw [List.getElem?_range (by omega), g.2]
   show some (List.getD _ ((2 * j + 1) % 2) default) = _
   rw [show (2 * j + 1) % 2 = 1 from by omega]; rfl
 ·rw [if_neg h] at g
  rcases hj with rfl | rfl
  ·rw [List.getElem?_eq_none (by rw [List.length_range]; omega), g.1]; rfl
  ·rw [List.getElem?_eq_none (by rw [List.length_range]; omega), g.2]; rfl
theorem half_pos {a : Nat} (h : a ≤ 15) : 1 ≤ halfN 32768 a := by rw [half_part h]; exact Nat.two_pow_pos _
theorem md_st {l : List UInt8} {a k o : Nat} {x y : D} (hk : k < l.length) (h0 : a ≠ 0) (h : (l.getD (k * 1) default).toNat = a) (ho : o = 2 * k) (hx : x = u32D (atK l a k / halfN 32768 a)) (hy : y = u8D a) : setSeg ((md l a k).flatMap mdD) o [x, y] = (md l a (k + 1)).flatMap mdD := by
 rw [Nat.mul_one] at h
 rw [md_y hk h0 h, ← fm2_set (by rw [md_len]; exact hk) ho, hx, hy]; rfl
theorem cd_v {x y : Nat} (h : x < 4294967296) : D.v (.int .u32 ((x : Int) / (y : Int) % 4294967296)) = u32D (x / y) := by
 have h2 := Nat.div_le_self x y
 refine iv_eq ?_
 rw [← Int.natCast_ediv]
 generalize x / y = z at *
 omega
theorem md_n1 {l : List UInt8} {n k : Nat} (h : (l.getD (k * 1) default).toNat ≠ n) : md l n (k + 1) = md l n k := md_n (by rwa [Nat.mul_one] at h)
theorem atK_y1 {l : List UInt8} {n k : Nat} (h0 : n ≠ 0) (h : (l.getD (k * 1) default).toNat = n) : atK l n (k + 1) = atK l n k + halfN 32768 n := atK_y h0 (by rwa [Nat.mul_one] at h)
theorem atK_n1 {l : List UInt8} {n k : Nat} (h : (l.getD (k * 1) default).toNat ≠ n) : atK l n (k + 1) = atK l n k := atK_n (by rwa [Nat.mul_one] at h)
theorem rMade (l : List UInt8) (n : Nat) (hn : n = l.length) (hN : n ≤ 1000) : SpecH false Try.prog 63 [.sl false n 1 (l.map dB)] [] (.ref 0 0 0 (mdL l).length 2) [⟨(mdL l).flatMap mdD, 160, true⟩] := by
 refine SpecH.run T_ok mixed Try.func63 rfl rfl rfl ⟨pl_fm (fun _ => rfl) _, trivial⟩ rfl 1000 64 (fun R ok => (.s 4 (.chk (true && decide ((↑n : Int) ≤ (↑n : Int)) && true && true && true && true && decide ((↑(TI.bytes ti160) : Int) * (↑n : Int) ≤ 140737488355328)) (by (have h9 : ((ti160.bytes : Nat) : Int) = 8 := rfl; rw [h9]; simp; omega)) (.s 3 (.val 4 (iD 0) (nD (atK l 1 0)) (by (rw [atK_0]; rfl)) (.blk 24 24 (Blk.mk (repD [D.v (Value.int .u32 0), D.v (Value.int .u8 0)] (n * 2)) 160 true) (Blk.mk (List.flatMap mdD (md l 1 0)) 160 true) (by ( refine blk_eq ?_; subst hn; rw [md_0]; exact rep_md _)) (Hn.inl T_ok mixed false 45 0 (loopAt Try.prog 63 0) (fun (x : (a : Nat) ×' (ha : 1 ≤ a ∧ a ≤ 16) ×' Unit) => match x with | ⟨a, ha, _⟩ => CutS.mk [(0, D.sl false n 1 (List.map dB l)), (3, D.ref 0 0 0 n 2), (4, nD (atK l a 0)), (5, nD a)] [⟨0, 0, 24, 24, .b ⟨(md l a 0).flatMap mdD, 160, true⟩⟩] 8) (fun (x : (a : Nat) ×' (ha : 1 ≤ a ∧ a ≤ 16) ×' Unit) => match x with | ⟨a, ha, _⟩ => 16 - a) [⟨Unit, .exit 0, fun x => match x with | () => CutS.mk [(0, D.sl false n 1 (List.map dB l)), (3, D.ref 0 0 0 n 2), (4, nD (atK l 16 0)), (5, nD 16)] [⟨0, 0, 24, 24, .b ⟨(mdL l).flatMap mdD, 160, true⟩⟩] 8⟩] 1000 64 (fun | ⟨a, ha, _⟩, Q, next1, last1 => (.s 3 (.br (decide ((↑a : Int) ≤ 15)) (fun p0 => have p0f := odt p0; (.s 1 (Hn.inl T_ok mixed false 45 0 (loopAt Try.prog 63 1) (fun (x : (k : Nat) ×' (hk : k ≤ n) ×' Unit) => match x with | ⟨k, hk, _⟩ => CutS.mk [(0, D.sl false n 1 (List.map dB l)), (3, D.ref 0 0 0 n 2), (4, nD (atK l a k)), (5, nD a), (6, nD k)] [⟨0, 0, 0, 0, .b ⟨(md l a k).flatMap mdD, 160, true⟩⟩] 8) (fun (x : (k : Nat) ×' (hk : k ≤ n) ×' Unit) => match x with | ⟨k, hk, _⟩ => n - k) [⟨Unit, .exit 2, fun x => match x with | () => CutS.mk [(0, D.sl false n 1 (List.map dB l)), (3, D.ref 0 0 0 n 2), (4, nD (atK l a n)), (5, nD a), (6, nD n)] [⟨0, 0, 0, 0, .b ⟨(md l a n).flatMap mdD, 160, true⟩⟩] 8⟩] 1000 64 (fun | ⟨k, hk, _⟩, Q, next2, last2 => (.s 5 (.br (decide ((↑k : Int) < (↑n : Int))) (fun p1 => have p1f := odt p1; (.s 3 (.chk (true && decide ((↑k : Int) < (↑n : Int)) && true) (by ((refine and_tI ?_ ?_) <;> (repeat' (first | (refine and_tI ?_ ?_) | (with_reducible rfl) | (refine decide_eq_true ?_) | (refine Nat.ble_eq_true_of_le ?_) | (refine nbeq ?_))) <;> (omega))) (.s 2 (.opt ((List.map dB l)[k * 1]?) (dB (List.getD l (k * 1) default)) (map_get _ _ om) (.s 1 (.op (↑(UInt8.toNat (List.getD l (k * 1) default)) : Int) (by (exact u8_rng _ (by decide) (by decide))) (.s 3 (.br ((↑(UInt8.toNat (List.getD l (k * 1) default)) : Int) == (↑a : Int)) (fun p2 => have p2f := eq_of_beq p2; (.s 5 (.opt (wrapO .u8 (↑a : Int)) (D.v (Value.int .u8 (↑a : Int))) (wrapO_u8 om) (.s 1 (.cl 93 false [] (.fn q93 (@rPart (a) om)) (.s 1 (.chk (true && !decide ((↑(halfN 32768 a) : Int) = 0)) (by (simp;  have h7 := half_pos (a := a) om; have h6 := Nat.div_le_self (atK l a k) (halfN 32768 a); have h9 := atK_le (l := l) (n := a) (k := k) om om; have h8 := halfN_le 32768 a; omega)) (.opt (bitO IntKind.i64 (IntKind.wrap IntKind.i64 (Int.tdiv (↑(atK l a k) : Int) (↑(halfN 32768 a) : Int)))) (iD ((↑(atK l a k) : Int) / (↑(halfN 32768 a) : Int))) (bitO_of (@bx_quo_i64  ((↑(atK l a k) : Int)) ((↑(halfN 32768 a) : Int)) zhx0 zhx0)) (.s 1 (.opt (wrapO .u32 ((↑(atK l a k) : Int) / (↑(halfN 32768 a) : Int))) (D.v (Value.int .u32 ((↑(atK l a k) : Int) / (↑(halfN 32768 a) : Int) % 4294967296))) (wrapO_eq _ _) (.s 2 (.opt (wrapO .u8 (↑a : Int)) (D.v (Value.int .u8 (↑a : Int))) (wrapO_u8 om) (.s 3 (.chk (true && decide ((↑k : Int) < (↑n : Int))) asm (.s 1 (.chk (true && Nat.ble (0 + k * 2 + 2) (List.length (List.flatMap mdD (md l a k)))) (by (simp only [Bool.true_and]; refine Nat.ble_eq_true_of_le ?_; rw [fm_length (k := 2) (fun _ => rfl), md_len];  omega)) (.lst (setSeg (List.flatMap mdD (md l a k)) (0 + k * 2) [D.v (Value.int .u32 ((↑(atK l a k) : Int) / (↑(halfN 32768 a) : Int) % 4294967296)), D.v (Value.int .u8 (↑a : Int))]) (setSeg (List.flatMap mdD (md l a k)) (k * 2) [D.v (Value.int .u32 ((↑(atK l a k) : Int) / (↑(halfN 32768 a) : Int) % 4294967296)), D.v (Value.int .u8 (↑a : Int))]) (by (simp; done)) (.s 3 (.opt (wrapO .u8 (↑a : Int)) (D.v (Value.int .u8 (↑a : Int))) (wrapO_u8 om) (.s 1 (.cl 93 false [] (.fn q93 (@rPart (a) om)) (.s 2 (.op ((↑(atK l a k) : Int) + (↑(halfN 32768 a) : Int)) zhx0 (.s 4 (.ow ((↑k : Int) + 1) (.s 1 (.val 4 (iD ((↑(atK l a k) : Int) + (↑(halfN 32768 a) : Int))) (nD (atK l a (k + 1))) zhx2 (.val 6 (iD ((↑k : Int) + 1)) (nD (k + 1)) zhx2 (.blk 0 0 (Blk.mk (setSeg (List.flatMap mdD (md l a k)) (k * 2) [D.v (Value.int .u32 ((↑(atK l a k) : Int) / (↑(halfN 32768 a) : Int) % 4294967296)), D.v (Value.int .u8 (↑a : Int))]) 160 true) (Blk.mk (List.flatMap mdD (md l a (k + 1))) 160 true) (by ( have h7 := half_pos (a := a) om; have h6 := Nat.div_le_self (atK l a k) (halfN 32768 a); have h9 := atK_le (l := l) (n := a) (k := k) om om; have h8 := halfN_le 32768 a; refine blk_eq (md_st om om om om (cd_v om) rfl))) (Hn.next next2 ⟨(k + 1), om, ⟨⟩⟩ zhx3 [(0, 0)] ro)))))))))))))))))))))))))))))) (fun p2 => have p2f := of_beq_f p2; (.s 3 (.ow ((↑k : Int) + 1) (.s 1 (.val 4 (nD (atK l a k)) (nD (atK l a (k + 1))) (by ( refine iv_eq ?_; rw [atK_n1 om])) (.val 6 (iD ((↑k : Int) + 1)) (nD (k + 1)) (by (refine iv_eq ?_; (omega))) (.blk 0 0 (Blk.mk (List.flatMap mdD (md l a k)) 160 true) (Blk.mk (List.flatMap mdD (md l a (k + 1))) 160 true) (by ( rw [md_n1 om])) (Hn.next next2 ⟨(k + 1), om, ⟨⟩⟩ zhx3 [(0, 0)] ro))))))))))))))))) (fun p1 => have p1f := odf p1; (.val 4 (nD (atK l a k)) (nD (atK l a n)) zhx1 (.val 6 (nD k) (nD n) zhx1 (.blk 0 0 (Blk.mk (List.flatMap mdD (md l a k)) 160 true) (Blk.mk (List.flatMap mdD (md l a n)) 160 true) zhx1 (Hn.last last2 0 (() : Unit) rfl [(0, 0)] ro)))))))) (fun | ⟨k, hk, _⟩ => by kernel_rfl) ⟨(0), om, ⟨⟩⟩ [(0, 0)] ro (hs1 (fun | () => (.s 3 (.ow ((↑a : Int) + 1) (.s 1 (.val 4 (nD (atK l a n)) (nD (atK l (a + 1) 0)) (by ( subst hn; rw [atK_up])) (.val 5 (iD ((↑a : Int) + 1)) (nD (a + 1)) (by (refine iv_eq ?_; (omega))) (.blk 0 0 (Blk.mk (List.flatMap mdD (md l a n)) 160 true) (Blk.mk (List.flatMap mdD (md l (a + 1) 0)) 160 true) (by ( subst hn; rw [md_up])) (Hn.next next1 ⟨(a + 1), om, ⟨⟩⟩ (by show 16 - (a + 1) < 16 - a; clear next1 last1; omega) [(0, 0)] ro)))))))))))) (fun p0 => have p0f := odf p0; (.val 4 (nD (atK l a 0)) (nD (atK l 16 0)) (by ( rw [show a = 16 from by omega])) (.val 5 (nD a) (iD 16) (by (refine iv_eq ?_; (omega))) (.blk 0 0 (Blk.mk (List.flatMap mdD (md l a 0)) 160 true) (Blk.mk (List.flatMap mdD (mdL l)) 160 true) (by ( rw [show a = 16 from by omega, mdL_eq])) (Hn.last last1 0 (() : Unit) rfl [(0, 0)] ro)))))))) (fun | ⟨a, ha, _⟩ => by kernel_rfl) ⟨(1), om, ⟨⟩⟩ [(24, 24)] ro (hs1 (fun | () => (.s 2 (.out [0] [0] (D.ref 0 0 0 n 2) [Blk.mk (List.flatMap mdD (mdL l)) 160 true] R (ok _ _ (by (rw [mdL_len, hn])) wr)))))))))))) (by kernel_rfl)
end Vp
end Go.Proofs.Ytegjeagfcfhbeaa
namespace Go.Proofs.Ytegjeagfcfhbeaa
open Go.RowKit Go.Bw Go.Vx
namespace Vp
theorem zix0 {p : Prop} (h : p := by ( have q := v_lt hb om; have q2 := tk1_lt b c; refine iv_eq ?_; omega)) : p := h
theorem zix1 {p : Prop} (h : p := by ( have h9 := rdP (l := l) (i := i) ho om; have h8 := h9.s; have h7 := h9.c; have h6 := h9.x; have h5 := h9.y; have h4 := v_lt hb om; intro j hj; rcases Nat.lt_or_ge j i with q | q; exact hno j q; (have e : j = i := by omega); subst e; intro z; omega)) : p := h
theorem zix2 {p : Prop} (h : p := by show n - (i + 1) < n - i; clear next2 last2 next1 last1; omega) : p := h
theorem zix3 {p : Prop} (h : p := by ( have h9 := rdP (l := l) (i := i) ho om; have h8 := h9.s; have h7 := h9.c; have h6 := h9.x; have h5 := h9.y; have h4 := v_lt hb om; omega)) : p := h
theorem zix4 {p : Prop} (h : p := by (refine decide_eq_true ?_; (omega))) : p := h
theorem zix5 {p : Prop} (h : p := by ( have h9 := rdP (l := l) (i := i) ho om; have h8 := h9.s; have h7 := h9.c; have h6 := h9.x; have h5 := h9.y; have h4 := v_lt hb om; have q := rd_y om hv hR (i := i) om om om om; rw [q] <;> rfl)) : p := h
theorem zix6 {p : Prop} (h : p := by ( rw [rdE_50 hT hn ha hv hb hno2 hR asm] <;> rfl)) : p := h
theorem zix7 {p : Prop} (h : p := by ( rw [rdE_10 hT hn ha hv hb hno2 hR asm om] <;> rfl)) : p := h
theorem zix8 {p : Prop} (h : p := by ( have h9 := rdP (l := l) (i := i) ho om; have h8 := h9.s; have h7 := h9.c; have h6 := h9.x; have h5 := h9.y; have h4 := v_lt hb om; rw [mr_s0 om])) : p := h
theorem zix9 {p : Prop} (h : p := by ( have h9 := rdP (l := l) (i := i) ho om; have h8 := h9.s; have h7 := h9.c; have h6 := h9.x; have h5 := h9.y; have h4 := v_lt hb om; exact bv_eq ((mr_s0 om).trans asm).symm)) : p := h
theorem posT_pre (l : List UInt8) (n : Nat) : ∀ (k j : Nat), ∃ r, posT l n (k + j) = posT l n k ++ r
 | k, 0 => ⟨[], by simp⟩
 | k, j + 1 => by
  obtain ⟨r, hr⟩ := posT_pre l n k j
  exact ⟨r ++ (if (l.getD (k + j) default).toNat = n then [k + j] else []), by rw [← Nat.add_assoc, posT_succ, hr, List.append_assoc]⟩
theorem posT_at {l : List UInt8} {n N i : Nat} (hi : i < N) (h : (l.getD i default).toNat = n) : (posT l n N)[(posT l n i).length]? = some i := by
 obtain ⟨r, hr⟩ := posT_pre l n (i + 1) (N - (i + 1))
 rw [show i + 1 + (N - (i + 1)) = N from by omega, posT_succ, if_pos h, List.append_assoc] at hr
 rw [hr, List.getElem?_append_right (Nat.le_refl _), Nat.sub_self]; rfl
theorem posT_ge {l : List UInt8} {n N k : Nat} (h : k < (posT l n N).length) : ∃ i, (posT l n N)[k]? = some i ∧ i < N ∧ (l.getD i default).toNat = n ∧ (posT l n i).length = k := by
 refine ⟨(posT l n N)[k], List.getElem?_eq_getElem h, ?_⟩
 have hm := posT_mem.1 (List.getElem_mem h)
 refine ⟨hm.1, hm.2, ?_⟩
 have h2 := posT_at hm.1 hm.2
 obtain ⟨h3, h4⟩ := List.getElem?_eq_some_iff.1 h2
 have hs := posT_sorted l n N
 rcases Nat.lt_trichotomy (posT l n (posT l n N)[k]).length k with q | q | q
 ·have := List.pairwise_iff_getElem.1 hs _ _ h3 h q; omega
 ·exact q
 ·have := List.pairwise_iff_getElem.1 hs _ _ h h3 q; omega
def frC (l : List UInt8) : Nat → Nat
 | 0 => 0
 | a + 1 => 2 * (frC l a + cnt l a)
theorem cnt_pos {l : List UInt8} {a : Nat} (h : a ≠ 0) : (posT l a l.length).length = cnt l a := by rw [cnt_eq]; unfold cntD; rw [if_neg h]
theorem half_two {a : Nat} (h : a < 15) : halfN 32768 a = 2 * halfN 32768 (a + 1) := by
 rw [half_part (by omega), half_part (by omega), show 15 - a = (15 - (a + 1)) + 1 from by omega, Nat.pow_succ, Nat.mul_comm]
theorem atL_fr (l : List UInt8) : ∀ a, a ≤ 15 → atL l (a + 1) = (frC l a + cnt l a) * halfN 32768 a
 | 0, _ => by rw [atL, if_pos rfl, cnt_0]; show 0 + 0 = (0 + 0) * _; omega
 | a + 1, h => by
  have ih := atL_fr l a (by omega)
  rw [atL, if_neg (Nat.succ_ne_zero a), ih, cnt_pos (Nat.succ_ne_zero a), frC, half_two (by omega)]
  generalize halfN 32768 (a + 1) = P
  generalize frC l a + cnt l a = X
  rw [Nat.add_mul (2 * X), Nat.mul_assoc 2 X P, Nat.mul_left_comm X 2 P]
theorem atL_at {l : List UInt8} {a : Nat} (h0 : a ≠ 0) (h : a ≤ 15) : atL l a = frC l a * halfN 32768 a := by
 obtain ⟨b, rfl⟩ : ∃ b, a = b + 1 := ⟨a - 1, by omega⟩
 rw [atL_fr l b (by omega), frC, half_two (by omega)]
 rw [Nat.mul_comm 2 (frC l b + cnt l b), Nat.mul_assoc]
theorem atL_mono (l : List UInt8) (a : Nat) : ∀ k, atL l a ≤ atL l (a + k)
 | 0 => Nat.le_refl _
 | k + 1 => Nat.le_trans (atL_mono l a k) (by rw [← Nat.add_assoc, atL]; exact Nat.le_add_right _ _)
theorem cd_at {l : List UInt8} {i a : Nat} (h : (l.getD i default).toNat = a) (h0 : a ≠ 0) (h1 : a ≤ 15) : cdF l i = frC l a + (posT l a i).length := by
 unfold cdF
 rw [h, atK_eq, if_neg h0, atL_at h0 h1, ← Nat.add_mul, Nat.mul_div_cancel _ (half_pos h1)]
def lvS (l : List UInt8) (k : Nat) : Nat → Nat
 | 0 => 0
 | a + 1 => lvS l k a + (if a = 0 then 0 else (posT l a k).length * halfN 32768 a)
theorem lvS_at (l : List UInt8) : ∀ a, lvS l l.length a = atL l a
 | 0 => rfl
 | a + 1 => by rw [lvS, atL, lvS_at l a]
theorem lvS_zero (l : List UInt8) : ∀ a, lvS l 0 a = 0
 | 0 => rfl
 | a + 1 => by
  have : posT l a 0 = [] := rfl
  rw [lvS, lvS_zero l a, this, List.length_nil, Nat.zero_mul]; split <;> rfl
theorem lvS_succ (l : List UInt8) (k : Nat) : ∀ a, lvS l (k + 1) a = lvS l k a + (if (l.getD k default).toNat ≠ 0 ∧ (l.getD k default).toNat < a then halfN 32768 (l.getD k default).toNat else 0)
 | 0 => by rw [lvS, lvS, if_neg (fun q => Nat.not_lt_zero _ q.2)]
 | a + 1 => by
  rw [lvS, lvS, lvS_succ l k a, posT_succ]
  generalize (l.getD k default).toNat = x
  by_cases h0 : a = 0
  ·rw [if_pos h0, if_pos h0, if_neg (fun q => by omega), if_neg (fun q => by omega)]
  ·rw [if_neg h0, if_neg h0]
   by_cases h : x = a
   ·subst h
    rw [if_pos rfl, if_neg (fun q => by omega), if_pos ⟨h0, by omega⟩, List.length_append, List.length_singleton, Nat.succ_mul]; omega
   ·rw [if_neg h, List.append_nil]
    by_cases h2 : x ≠ 0 ∧ x < a
    ·rw [if_pos h2, if_pos (by omega)]; omega
    ·rw [if_neg h2, if_neg (by omega)]; omega
theorem at_kr (l : List UInt8) (ho : overB l 15 = false) : atL l 16 = kraft l := by
 have key : ∀ k, k ≤ l.length → lvS l k 16 = kraft (l.take k) := by
  intro k
  induction k with
  | zero => intro _; exact lvS_zero l 16
  | succ k ih =>
   intro hk
   have hx := over_le ho (i := k) (by omega)
   rw [lvS_succ, ih (by omega), kraft_snoc (by omega)]
   by_cases q : (l.getD k default).toNat = 0
   ·rw [if_neg (fun z => z.1 q), if_pos q]
   ·rw [if_pos ⟨q, by omega⟩, if_neg q, half_part hx]
 have h := key l.length (Nat.le_refl _)
 rw [List.take_length, lvS_at] at h; exact h
theorem at_lev {l : List UInt8} {x : Nat} : ∀ a, x < atL l a → ∃ b, b < a ∧ atL l b ≤ x ∧ x < atL l (b + 1)
 | 0, h => absurd h (Nat.not_lt_zero _)
 | a + 1, h => by
  rcases Nat.lt_or_ge x (atL l a) with q | q
  ·obtain ⟨b, h1, h2⟩ := at_lev a q
   exact ⟨b, by omega, h2⟩
  ·exact ⟨a, by omega, q, h⟩
theorem pow_half {n a : Nat} (h : n ≤ a) (ha : a ≤ 15) : halfN 32768 n = 2 ^ (a - n) * halfN 32768 a := by
 rw [half_part (by omega), half_part ha, ← Nat.pow_add, show a - n + (15 - a) = 15 - n from by omega]
theorem more_of {l : List UInt8} (ho : overB l 15 = false) {n v : Nat} (hn : n ≤ 15) (hv : frC l n + cnt l n ≤ v) (hk : v * halfN 32768 n < kraft l) : ∃ i, i < l.length ∧ n < (l.getD i default).toNat ∧ cdF l i / 2 ^ ((l.getD i default).toNat - n) = v := by
 rw [← at_kr l ho] at hk
 obtain ⟨a, h1, h2, h3⟩ := at_lev 16 hk
 have hna : n < a := by
  rcases Nat.lt_or_ge n a with q | q
  ·exact q
  ·exfalso
   have h4 := atL_mono l (a + 1) (n - a)
   rw [show a + 1 + (n - a) = n + 1 from by omega, atL_fr l n hn] at h4
   have h5 : (frC l n + cnt l n) * halfN 32768 n ≤ v * halfN 32768 n := Nat.mul_le_mul_right _ hv
   omega
 have h0 : a ≠ 0 := by omega
 have ha : a ≤ 15 := by omega
 have hp := half_pos ha
 rw [pow_half (Nat.le_of_lt hna) ha, ← Nat.mul_assoc] at h2 h3
 rw [atL_at h0 ha] at h2
 rw [atL_fr l a ha] at h3
 have h4 := Nat.le_of_mul_le_mul_right h2 hp
 have h5 := Nat.lt_of_mul_lt_mul_right h3
 have h6 : v * 2 ^ (a - n) - frC l a < (posT l a l.length).length := by rw [cnt_pos h0]; omega
 obtain ⟨i, g1, g2, g3, g4⟩ := posT_ge h6
 refine ⟨i, g2, by omega, ?_⟩
 rw [g3, cd_at g3 h0 ha, g4, show frC l a + (v * 2 ^ (a - n) - frC l a) = v * 2 ^ (a - n) from by omega, Nat.mul_div_cancel _ (Nat.two_pow_pos _)]
theorem kr_zero : ∀ {l : List UInt8}, usedN l = 0 → kraft l = 0 ∧ ∀ i, i < l.length → (l.getD i default).toNat = 0
 | [], _ => ⟨rfl, fun i h => absurd h (Nat.not_lt_zero _)⟩
 | x :: r, h => by
  rw [usedN] at h
  have hx : x.toNat = 0 := by
   by_cases q : x.toNat = 0
   ·exact q
   ·rw [if_neg q] at h; omega
  rw [if_pos hx] at h
  obtain ⟨h1, h2⟩ := kr_zero (l := r) (by omega)
  refine ⟨by rw [kraft, if_pos hx, h1], fun i hi => ?_⟩
  cases i with
  | zero => exact hx
  | succ i => exact h2 i (by simpa using hi)
theorem kr_one : ∀ {l : List UInt8} {i : Nat}, usedN l = 1 → i < l.length → (l.getD i default).toNat ≠ 0 → kraft l = 2 ^ (15 - (l.getD i default).toNat)
 | [], i, _, h, _ => absurd h (Nat.not_lt_zero _)
 | x :: r, i, h, hi, h0 => by
  rw [usedN] at h
  by_cases q : x.toNat = 0
  ·rw [if_pos q] at h
   cases i with
   | zero => exact absurd q h0
   | succ i =>
    have := kr_one (l := r) (i := i) (by omega) (by simpa using hi) h0
    rw [kraft, if_pos q, this, Nat.zero_add]; rfl
  ·rw [if_neg q] at h
   obtain ⟨h1, h2⟩ := kr_zero (l := r) (by omega)
   cases i with
   | zero => rw [kraft, if_neg q, h1]; rfl
   | succ i => exact absurd (h2 i (by simpa using hi)) h0
theorem syms_at {l : List UInt8} {a d : Nat} (ha : a ≤ 15) (h : d < cnt l a) : (symsL l).getD ((symsT l a).length + d) default = (posL l a).getD d default := by
 obtain ⟨r, hr⟩ := symsT_16 (l := l) ha
 rw [hr, List.getD_eq_getElem?_getD, List.getD_eq_getElem?_getD, List.getElem?_append_right (by omega), Nat.add_sub_cancel_left, List.getElem?_append_left (by rw [posL_len]; exact h)]
theorem longer_iff {l : List UInt8} (ho : overB l 15 = false) {n : Nat} (hn : n ≤ 15) : (symsT l n).length + cnt l n ≠ (symsL l).length ↔ ∃ i, i < l.length ∧ n < (l.getD i default).toNat := by
 obtain ⟨r, hr⟩ := symsT_app l (n + 1) (16 - (n + 1))
 rw [show n + 1 + (16 - (n + 1)) = 16 from by omega, ← symsL_eq, symsT_succ] at hr
 have hl := congrArg List.length hr
 rw [List.length_append, List.length_append, posL_len] at hl
 constructor
 ·intro h
  have hr0 : 0 < r.length := by omega
  have hall : ∀ k, ∀ x ∈ symsT l (n + 1 + k), x ∈ symsT l (n + 1) ∨ (x < l.length ∧ n < (l.getD x default).toNat) := by
   intro k
   induction k with
   | zero => exact fun x hx => .inl hx
   | succ k ih =>
    intro x hx
    rw [← Nat.add_assoc, symsT_succ, List.mem_append] at hx
    rcases hx with hx | hx
    ·exact ih x hx
    ·rw [posL_eq, if_neg (by omega)] at hx
     have := posT_mem.1 hx
     exact .inr ⟨this.1, by omega⟩
  apply Classical.byContradiction
  intro hno
  have hlen : ∀ k, (symsT l (n + 1 + k)).length = (symsT l (n + 1)).length := by
   intro k
   induction k with
   | zero => rfl
   | succ k ih =>
    rw [← Nat.add_assoc, symsT_succ, List.length_append, ih]
    have : posL l (n + 1 + k) = [] := by
     rw [List.eq_nil_iff_forall_not_mem]
     intro x hx
     rw [posL_eq, if_neg (by omega)] at hx
     have := posT_mem.1 hx
     exact hno ⟨x, this.1, by omega⟩
    rw [this]; rfl
  have h3 := hlen (16 - (n + 1))
  rw [show n + 1 + (16 - (n + 1)) = 16 from by omega, ← symsL_eq, symsT_succ, List.length_append, posL_len] at h3
  exact h h3.symm
 ·rintro ⟨i, h1, h2⟩ h
  have hx := over_le ho h1
  generalize ha : (l.getD i default).toNat = a at *
  obtain ⟨r2, hr2⟩ := symsT_app l (n + 1) (a - (n + 1))
  rw [show n + 1 + (a - (n + 1)) = a from by omega] at hr2
  obtain ⟨r3, hr3⟩ := symsT_16 (l := l) (a := a) hx
  have h4 := congrArg List.length hr3
  rw [hr2, symsT_succ, List.length_append, List.length_append, List.length_append, List.length_append, posL_len, posL_len] at h4
  have h5 : 0 < cnt l a := by
   rw [← cnt_pos (by omega)]
   have : i ∈ posT l a l.length := posT_mem.2 ⟨h1, ha⟩
   exact List.length_pos_of_mem this
  omega
def hdX (b l : List UInt8) (n d c : Nat) : Nat × Nat × Nat := lk b (if d < cnt l n then ((symsL l).getD ((symsT l n).length + d) default, c, 0) else nxF b l (16 - n) n d c)
theorem hdX_eq (b l : List UInt8) (n d c : Nat) : hdX b l n d c = if d < cnt l n then ((symsL l).getD ((symsT l n).length + d) default, c, 0) else nxF b l (16 - n) n d c := lk_eq _ _
theorem hdX_0 (b l : List UInt8) (p : Nat) : hdX b l 0 0 p = nxR b l p := by rw [hdX_eq, cnt_0, if_neg (Nat.lt_irrefl 0), nxR_eq]
section
variable {b l : List UInt8} {n d c v : Nat} {R : Nat × Nat × Nat}
theorem rd_y (hn : n ≤ 15) (hv : v = frC l n + d) (hR : hdX b l n d c = R) {i : Nat} (hi : i < l.length) (h : (l.getD i default).toNat = n) (h0 : 0 < n) (hc : cdF l i = v) : R = (i, c, 0) := by
 rw [cd_at h (by omega) hn] at hc
 have hd : (posT l n i).length = d := by omega
 have h2 := posT_at hi h
 have h3 := (List.getElem?_eq_some_iff.1 h2).1
 rw [cnt_pos (by omega)] at h3
 rw [← hR, hdX_eq, if_pos (by omega), ← hd, syms_at hn h3, posL_eq, if_neg (by omega), List.getD_eq_getElem?_getD, h2]; rfl
theorem rd_n (hn : n ≤ 15) (hv : v = frC l n + d) (hno : ∀ i, i < l.length → ¬ ((l.getD i default).toNat = n ∧ cdF l i = v ∧ 0 < n)) : cnt l n ≤ d := by
 rcases Nat.lt_or_ge d (cnt l n) with q | q
 ·exfalso
  have h0 : n ≠ 0 := fun e => by subst e; rw [cnt_0] at q; omega
  rw [← cnt_pos h0] at q
  obtain ⟨i, g1, g2, g3, g4⟩ := posT_ge q
  exact hno i g2 ⟨g3, by rw [cd_at g3 h0 hn, g4]; omega, by omega⟩
 ·exact q
theorem rd_more (hT : canE l 15 = 0) (hn : n ≤ 15) (hv : v = frC l n + d) (hd : cnt l n ≤ d) (hb : v < 2 ^ n) : ((symsT l n).length + cnt l n ≠ (symsL l).length) ↔ ∃ i, i < l.length ∧ n < (l.getD i default).toNat ∧ cdF l i / 2 ^ ((l.getD i default).toNat - n) = v := by
 have ho := (canE_0 hT).2.1
 rw [longer_iff ho hn]
 constructor
 ·rintro ⟨i, h1, h2⟩
  refine more_of ho hn (by omega) ?_
  have hk : kraft l = 32768 ∨ usedN l = 0 ∨ usedN l = 1 ∧ kraft l = 16384 := by
   have h := hT
   rw [canE_eq] at h; unfold canD at h
   split at h
   ·cases h
   ·split at h
    ·cases h
    ·split at h
     ·cases h
     ·split at h
      ·assumption
      ·cases h
  have hp := half_pos hn
  have hpw : 2 ^ n * halfN 32768 n = 32768 := by
   rw [half_part hn, ← Nat.pow_add, show n + (15 - n) = 15 from by omega]
  rcases hk with hk | hk | ⟨hk, hk2⟩
  ·rw [hk]
   have := Nat.mul_lt_mul_of_pos_right hb hp
   omega
  ·have := (kr_zero hk).2 i h1; omega
  ·have h3 := kr_one hk h1 (by omega)
   have h4 := over_le ho h1
   rw [hk2] at h3
   have h5 : n = 0 := by
    rcases Nat.lt_or_ge (l.getD i default).toNat 2 with q | q
    ·omega
    ·exfalso
     have : 2 ^ (15 - (l.getD i default).toNat) ≤ 2 ^ 13 := Nat.pow_le_pow_right (by decide) (by omega)
     omega
   subst h5
   have : v = 0 := by have : (2 : Nat) ^ 0 = 1 := rfl; omega
   rw [this, Nat.zero_mul, hk2]; omega
 ·rintro ⟨i, h1, h2, _⟩; exact ⟨i, h1, h2⟩
theorem rd_50 (hn : n ≤ 15) (hd : cnt l n ≤ d) (hR : hdX b l n d c = R) (h : (symsT l n).length + cnt l n = (symsL l).length) : R = (0, 0, 50) := by
 rw [← hR, hdX_eq, if_neg (by omega)]; exact nx_1 hn h
theorem rd_10 (hn : n ≤ 15) (hd : cnt l n ≤ d) (hR : hdX b l n d c = R) (h : (symsT l n).length + cnt l n ≠ (symsL l).length) (h2 : tkE b c 1 ≠ 0) : R = (0, 0, 10) := by
 rw [← hR, hdX_eq, if_neg (by omega)]; exact nx_2 hn h h2
theorem rd_go (hn : n ≤ 15) (hd : cnt l n ≤ d) (hR : hdX b l n d c = R) (h : (symsT l n).length + cnt l n ≠ (symsL l).length) (h2 : tkE b c 1 = 0) : n + 1 ≤ 15 ∧ hdX b l (n + 1) (2 * (d - cnt l n) + tkV b c 1) (c + 1) = R := by
 have h3 := symsT_pl (l := l) (a := n) hn
 have hn2 : n + 1 ≤ 15 := by
  rcases Nat.lt_or_ge n 15 with q | q
  ·exact q
  ·exact absurd (h3.2.2 (by omega)) h
 refine ⟨hn2, ?_⟩
 rw [← hR, hdX_eq, hdX_eq, if_neg (show ¬ d < cnt l n by omega)]
 by_cases q : 2 * (d - cnt l n) + tkV b c 1 < cnt l (n + 1)
 ·rw [if_pos q, nx_3 hn h h2 q, h3.2.1]
 ·rw [if_neg q, nx_4 hn h h2 q]
theorem rd_v (hv : v = frC l n + d) (hd : cnt l n ≤ d) : 2 * v + tkV b c 1 = frC l (n + 1) + (2 * (d - cnt l n) + tkV b c 1) := by
 rw [frC]; omega
end

theorem mdL_get {l : List UInt8} {i : Nat} (ho : overB l 15 = false) (hi : i < l.length) : (mdL l).getD i default = (if (l.getD i default).toNat = 0 then 0 else cdF l i, (l.getD i default).toNat) := by
 have hx := over_le ho hi
 rw [mdL_eq, md_eq, List.getD_eq_getElem?_getD, List.getElem?_map, List.getElem?_range hi]
 show mdF l 16 0 i = _
 unfold mdF
 by_cases h : (l.getD i default).toNat = 0
 ·rw [if_neg (fun q => q.1 h), if_pos h, h]
 ·rw [if_pos ⟨h, .inl (by omega)⟩, if_neg h]
def mrB (l : List UInt8) (a v i : Nat) : Bool := lk l ((List.range i).any fun j => decide (a < (l.getD j default).toNat) && decide (cdF l j / 2 ^ ((l.getD j default).toNat - a) = v))
theorem mrB_eq (l : List UInt8) (a v i : Nat) : mrB l a v i = (List.range i).any fun j => decide (a < (l.getD j default).toNat) && decide (cdF l j / 2 ^ ((l.getD j default).toNat - a) = v) := lk_eq _ _
theorem mrB_0 (l : List UInt8) (a v : Nat) : mrB l a v 0 = false := mrB_eq l a v 0
theorem mrB_s (l : List UInt8) (a v i : Nat) : mrB l a v (i + 1) = (mrB l a v i || (decide (a < (l.getD i default).toNat) && decide (cdF l i / 2 ^ ((l.getD i default).toNat - a) = v))) := by
 rw [mrB_eq, mrB_eq, List.range_succ, List.any_append, List.any_cons, List.any_nil, Bool.or_false]
theorem mrB_iff {l : List UInt8} {a v : Nat} : mrB l a v l.length = true ↔ ∃ i, i < l.length ∧ a < (l.getD i default).toNat ∧ cdF l i / 2 ^ ((l.getD i default).toNat - a) = v := by
 rw [mrB_eq, List.any_eq_true]
 constructor
 ·rintro ⟨i, h1, h2⟩
  rw [Bool.and_eq_true, decide_eq_true_eq, decide_eq_true_eq] at h2
  exact ⟨i, List.mem_range.1 h1, h2⟩
 ·rintro ⟨i, h1, h2⟩
  exact ⟨i, List.mem_range.2 h1, by rw [Bool.and_eq_true, decide_eq_true_eq, decide_eq_true_eq]; exact h2⟩
theorem cdF_le {l : List UInt8} {i : Nat} (hi : i < l.length) (ho : overB l 15 = false) : cdF l i ≤ 17 * (l.length * 32768) := by
 unfold cdF
 exact Nat.le_trans (Nat.div_le_self _ _) (atK_le (Nat.le_trans (over_le ho hi) (by decide)) (Nat.le_of_lt hi))
section
variable {b l : List UInt8} {n a d c v : Nat} {R : Nat × Nat × Nat} (hT : canE l 15 = 0) (hn : n = l.length) (ha : a ≤ 15) (hv : v = frC l a + d) (hb : v < 2 ^ a) (hno : ∀ j, j < n → ¬ ((l.getD j default).toNat = a ∧ cdF l j = v ∧ 0 < a)) (hR : hdX b l a d c = R)
include hT hn ha hv hb hno hR
theorem rdE_50 (hm : mrB l a v n = false) : R = (0, 0, 50) := by
 subst hn
 have hd := rd_n ha hv hno
 refine rd_50 ha hd hR (Classical.byContradiction fun q => ?_)
 have := mrB_iff.2 ((rd_more hT ha hv hd hb).1 q)
 rw [hm] at this; cases this
theorem rdE_10 (hm : mrB l a v n = true) (h : tkE b c 1 ≠ 0) : R = (0, 0, 10) := by
 subst hn
 have hd := rd_n ha hv hno
 exact rd_10 ha hd hR ((rd_more hT ha hv hd hb).2 (mrB_iff.1 hm)) h
theorem rdE_go (hm : mrB l a v n = true) (h : tkE b c 1 = 0) : a + 1 ≤ 15 ∧ 2 * v + tkV b c 1 = frC l (a + 1) + (2 * (d - cnt l a) + tkV b c 1) ∧ 2 * v + tkV b c 1 < 2 ^ (a + 1) ∧ hdX b l (a + 1) (2 * (d - cnt l a) + tkV b c 1) (c + 1) = R := by
 subst hn
 have hd := rd_n ha hv hno
 obtain ⟨h1, h2⟩ := rd_go ha hd hR ((rd_more hT ha hv hd hb).2 (mrB_iff.1 hm)) h
 refine ⟨h1, rd_v hv hd, ?_, h2⟩
 have := tk1_lt b c
 rw [Nat.pow_succ]; omega
end
theorem v_lt {v a : Nat} (hb : v < 2 ^ a) (ha : a ≤ 15) : v < 32768 := Nat.lt_of_lt_of_le hb (Nat.pow_le_pow_right (show 0 < 2 by decide) ha)
structure RdP (l : List UInt8) (i : Nat) : Prop where
 s : ((mdL l).getD i default).2 = (l.getD i default).toNat
 c : (l.getD i default).toNat ≠ 0 → ((mdL l).getD i default).1 = cdF l i
 x : (l.getD i default).toNat ≤ 15
 y : cdF l i ≤ 17 * (l.length * 32768)
theorem rdP {l : List UInt8} {i : Nat} (ho : overB l 15 = false) (hi : i < l.length) : RdP l i := by
 refine ⟨by rw [mdL_get ho hi], fun h => by rw [mdL_get ho hi]; exact if_neg h, over_le ho hi, cdF_le hi ho⟩
theorem mr_s0 {l : List UInt8} {a v i : Nat} (h : ¬ a < (l.getD i default).toNat) : mrB l a v (i + 1) = mrB l a v i := by
 rw [mrB_s, decide_eq_false h, Bool.false_and, Bool.or_false]
theorem mr_t {l : List UInt8} {a v i : Nat} (h : mrB l a v i = true) : mrB l a v (i + 1) = true := by
 rw [mrB_s, h, Bool.true_or]
theorem mr_f {l : List UInt8} {a v i x y : Nat} (h : mrB l a v i = false) (hx : x = cdF l i) (hy : y = (l.getD i default).toNat) (hlt : a < (l.getD i default).toNat) (hle : (l.getD i default).toNat ≤ 15) : (((x : Nat) : Int).fdiv (2 ^ min (((y : Nat) : Int) - ((a : Nat) : Int)).toNat 32) == ((v : Nat) : Int)) = mrB l a v (i + 1) := by
 subst hx
 rw [mrB_s, h, Bool.false_or, decide_eq_true hlt, Bool.true_and, ← hy]
 rw [show min (((y : Nat) : Int) - ((a : Nat) : Int)).toNat 32 = y - a from by omega]
 generalize y - a = k
 generalize cdF l i = z
 have hp : (0 : Int) ≤ 2 ^ k := Int.le_of_lt (Int.pow_pos (by decide))
 rw [Int.fdiv_eq_ediv_of_nonneg _ hp, show ((z : Nat) : Int) / 2 ^ k = ((z / 2 ^ k : Nat) : Int) from by push_cast; rfl]
 generalize z / 2 ^ k = w
 rw [Bool.eq_iff_iff, beq_iff_eq, decide_eq_true_eq]; omega
theorem bv_eq {x y : Bool} (h : x = y) : D.v (Value.bool x) = D.v (Value.bool y) := by rw [h]
theorem rRead (l : List UInt8) (n : Nat) (hn : n = l.length) (hN : n ≤ 1000) (hT : canE l 15 = 0) (b : List UInt8) (m : Nat) (hm : m = b.length) (hM : m ≤ 1000000) (p : Nat) (hp : p ≤ 8 * m) : SpecH false Try.prog 62 [.sl false n 2 ((mdL l).flatMap mdD), .sl false m 1 (b.map dB), nD p] [] (nxD (nxR b l p)) [] := by
 have ho := (canE_0 hT).2.1
 have hl : (mdL l).length = n := by rw [mdL_len, hn]
 refine SpecH.run T_ok mixed Try.func62 rfl rfl rfl trivial rfl 1000 64 (fun R ok => (.s 5 (Hn.inl T_ok mixed false 92 0 (loopAt Try.prog 62 0) (fun (x : (a : Nat) ×' (ha : a ≤ 15) ×' (d : Nat) ×' (v : Nat) ×' (hv : v = frC l a + d) ×' (hb : v < 2 ^ a) ×' (c : Nat) ×' (hc : c ≤ p + a) ×' (hR : hdX b l a d c = nxR b l p) ×' Unit) => match x with | ⟨a, ha, d, v, hv, hb, c, hc, hR, _⟩ => CutS.mk [(0, D.sl false n 2 (List.flatMap mdD (mdL l))), (1, D.sl false m 1 (List.map dB b)), (2, nD c), (9, u32D v), (10, nD a)] [] 0) (fun (x : (a : Nat) ×' (ha : a ≤ 15) ×' (d : Nat) ×' (v : Nat) ×' (hv : v = frC l a + d) ×' (hb : v < 2 ^ a) ×' (c : Nat) ×' (hc : c ≤ p + a) ×' (hR : hdX b l a d c = nxR b l p) ×' Unit) => match x with | ⟨a, ha, d, v, hv, hb, c, hc, hR, _⟩ => 16 - a) [⟨Unit, .ret, fun x => match x with | () => CutS.mk [(6, nD (nxR b l p).1), (7, nD (nxR b l p).2.1), (8, nD (nxR b l p).2.2)] [] 0⟩] 1000 64 (fun | ⟨a, ha, d, v, hv, hb, c, hc, hR, _⟩, Q, next1, last1 => (.s 2 (.val 11 (D.v (.bool false)) (D.v (.bool (mrB l a v 0))) (by (exact congrArg (fun x => D.v (.bool x)) (mrB_0 l a v).symm)) (Hn.inl T_ok mixed false 92 0 (loopAt Try.prog 62 1) (fun (x : (i : Nat) ×' (hi : i ≤ n) ×' (hno : ∀ j, j < i → ¬ ((l.getD j default).toNat = a ∧ cdF l j = v ∧ 0 < a)) ×' Unit) => match x with | ⟨i, hi, hno, _⟩ => CutS.mk [(0, D.sl false n 2 (List.flatMap mdD (mdL l))), (1, D.sl false m 1 (List.map dB b)), (2, nD c), (9, D.v (Value.int .u32 (↑v : Int))), (10, nD a), (11, .v (.bool (mrB l a v i))), (12, nD i)] [] 0) (fun (x : (i : Nat) ×' (hi : i ≤ n) ×' (hno : ∀ j, j < i → ¬ ((l.getD j default).toNat = a ∧ cdF l j = v ∧ 0 < a)) ×' Unit) => match x with | ⟨i, hi, hno, _⟩ => n - i) [⟨(hno2 : ∀ j, j < n → ¬ ((l.getD j default).toNat = a ∧ cdF l j = v ∧ 0 < a)) ×' Unit, .exit 2, fun x => match x with | ⟨hno2, _⟩ => CutS.mk [(0, D.sl false n 2 (List.flatMap mdD (mdL l))), (1, D.sl false m 1 (List.map dB b)), (2, nD c), (9, D.v (Value.int .u32 (↑v : Int))), (10, nD a), (11, .v (.bool (mrB l a v n))), (12, nD n)] [] 0⟩, ⟨Unit, .ret, fun x => match x with | () => CutS.mk [(6, nD (nxR b l p).1), (7, nD (nxR b l p).2.1), (8, nD (nxR b l p).2.2)] [] 0⟩] 1000 64 (fun | ⟨i, hi, hno, _⟩, Q, next2, last2 => (.s 5 (.br (decide ((↑i : Int) < (↑n : Int))) (fun p0 => have p0f := odt p0; (.s 3 (.chk (true && decide ((↑i : Int) < (↑n : Int)) && true) (by ((refine and_tI ?_ ?_) <;> (repeat' (first | (refine and_tI ?_ ?_) | (with_reducible rfl) | (refine decide_eq_true ?_) | (refine Nat.ble_eq_true_of_le ?_) | (refine nbeq ?_))) <;> (omega))) (.s 2 (.chk (Nat.ble (i * 2 + 2) (List.length (List.flatMap mdD (mdL l)))) (by (rw [fm_length (k := 2) (fun _ => rfl), hl];  exact Nat.ble_eq_true_of_le om)) (.lst (List.take 2 (List.drop (i * 2) (List.flatMap mdD (mdL l)))) ([D.v (Value.int .u32 (↑(Prod.fst (List.getD (mdL l) i default)) : Int)), D.v (Value.int .u8 (↑(Prod.snd (List.getD (mdL l) i default)) : Int))]) (fm_elem (k := 2) (i := i) (fun _ => rfl) om om) (.s 15 (.br ((↑(Prod.snd (List.getD (mdL l) i default)) : Int) == 0) (fun p1 => have p1f := eq_of_beq p1; (.s 13 (.ow ((↑i : Int) + 1) (.s 1 (.val 11 (D.v (.bool (mrB l a v i))) (D.v (.bool (mrB l a v (i + 1)))) zix8 (.val 12 (iD ((↑i : Int) + 1)) (nD (i + 1)) zix0 (Hn.next next2 ⟨(i + 1), om, zix1, ⟨⟩⟩ zix2 [] ro))))))) (fun p1 => have p1f := of_beq_f p1; (.s 8 (.op (↑(Prod.snd (List.getD (mdL l) i default)) : Int) zix3 (.s 6 (.br (decide ((↑(Prod.snd (List.getD (mdL l) i default)) : Int) < (↑a : Int))) (fun p2 => have p2f := odt p2; (.s 3 (.ow ((↑i : Int) + 1) (.s 1 (.val 11 (D.v (.bool (mrB l a v i))) (D.v (.bool (mrB l a v (i + 1)))) zix8 (.val 12 (iD ((↑i : Int) + 1)) (nD (i + 1)) zix0 (Hn.next next2 ⟨(i + 1), om, zix1, ⟨⟩⟩ zix2 [] ro))))))) (fun p2 => have p2f := odf p2; (.s 7 (.op (↑(Prod.snd (List.getD (mdL l) i default)) : Int) zix3 (.s 5 (.br ((↑(Prod.snd (List.getD (mdL l) i default)) : Int) == (↑a : Int)) (fun p3 => have p3f := eq_of_beq p3; (.s 14 (.br ((↑(Prod.fst (List.getD (mdL l) i default)) : Int) == (↑v : Int)) (fun p4 => have p4f := eq_of_beq p4; (.s 4 (.t (decide (0 < (↑a : Int))) zix4 (.s 5 (.val 6 (nD i) (nD (Prod.fst (nxR b l p))) zix5 (.val 7 (nD c) (nD (Prod.fst (Prod.snd (nxR b l p)))) zix5 (.val 8 (iD 0) (nD (Prod.snd (Prod.snd (nxR b l p)))) zix5 (Hn.last last2 1 (() : Unit) rfl [] ro)))))))) (fun p4 => have p4f := of_beq_f p4; (.s 7 (.br (mrB l a v i) (fun p5 => (.s 28 (.ow ((↑i : Int) + 1) (.s 1 (.val 11 (D.v (.bool true)) (D.v (.bool (mrB l a v (i + 1)))) zix9 (.val 12 (iD ((↑i : Int) + 1)) (nD (i + 1)) zix0 (Hn.next next2 ⟨(i + 1), om, zix1, ⟨⟩⟩ zix2 [] ro))))))) (fun p5 => (.s 8 (.ow (↑(Prod.snd (List.getD (mdL l) i default)) : Int) (.s 8 (.f (decide ((↑a : Int) < (↑(Prod.snd (List.getD (mdL l) i default)) : Int))) (by (refine decide_eq_false ?_; (omega))) (.s 27 (.ow ((↑i : Int) + 1) (.s 1 (.val 11 (D.v (.bool false)) (D.v (.bool (mrB l a v (i + 1)))) zix9 (.val 12 (iD ((↑i : Int) + 1)) (nD (i + 1)) zix0 (Hn.next next2 ⟨(i + 1), om, zix1, ⟨⟩⟩ zix2 [] ro))))))))))))))))) (fun p3 => have p3f := of_beq_f p3; (.s 17 (.br (mrB l a v i) (fun p6 => (.s 28 (.ow ((↑i : Int) + 1) (.s 1 (.val 11 (D.v (.bool true)) (D.v (.bool (mrB l a v (i + 1)))) (by (exact bv_eq (mr_t asm).symm)) (.val 12 (iD ((↑i : Int) + 1)) (nD (i + 1)) zix0 (Hn.next next2 ⟨(i + 1), om, zix1, ⟨⟩⟩ zix2 [] ro))))))) (fun p6 => (.s 8 (.op (↑(Prod.snd (List.getD (mdL l) i default)) : Int) zix3 (.s 8 (.t (decide ((↑a : Int) < (↑(Prod.snd (List.getD (mdL l) i default)) : Int))) zix4 (.s 16 (.op (↑(Prod.snd (List.getD (mdL l) i default)) : Int) zix3 (.s 5 (.op ((↑(Prod.snd (List.getD (mdL l) i default)) : Int) - (↑a : Int)) zix3 (.s 2 (.opt (wrapO .u64 ((↑(Prod.snd (List.getD (mdL l) i default)) : Int) - (↑a : Int))) (D.v (Value.int .u64 ((↑(Prod.snd (List.getD (mdL l) i default)) : Int) - (↑a : Int)))) (wrapO_u64 zix3) (.s 2 (.chk (decide (0 ≤ (↑(Prod.snd (List.getD (mdL l) i default)) : Int) - (↑a : Int))) zix4 (.opt (bitO IntKind.u32 (Int.fdiv (↑(Prod.fst (List.getD (mdL l) i default)) : Int) (2 ^ min (Int.toNat ((↑(Prod.snd (List.getD (mdL l) i default)) : Int) - (↑a : Int))) 32))) (D.v (Value.int .u32 (Int.fdiv (↑(Prod.fst (List.getD (mdL l) i default)) : Int) (2 ^ min (Int.toNat ((↑(Prod.snd (List.getD (mdL l) i default)) : Int) - (↑a : Int))) 32)))) (bitO_eq _ _) (.s 12 (.ow ((↑i : Int) + 1) (.s 1 (.val 11 (D.v (.bool (Int.fdiv (↑(Prod.fst (List.getD (mdL l) i default)) : Int) (2 ^ min (Int.toNat ((↑(Prod.snd (List.getD (mdL l) i default)) : Int) - (↑a : Int))) 32) == (↑v : Int)))) (D.v (.bool (mrB l a v (i + 1)))) (by ( have h9 := rdP (l := l) (i := i) ho om; have h8 := h9.s; have h7 := h9.c; have h6 := h9.x; have h5 := h9.y; have h4 := v_lt hb om; exact bv_eq (mr_f asm (h7 om) h8 om h6))) (.val 12 (iD ((↑i : Int) + 1)) (nD (i + 1)) zix0 (Hn.next next2 ⟨(i + 1), om, zix1, ⟨⟩⟩ zix2 [] ro))))))))))))))))))))))))))))))))))))))))) (fun p0 => have p0f := odf p0; (.val 11 (D.v (.bool (mrB l a v i))) (D.v (.bool (mrB l a v n))) (by ( rw [show i = n from by omega])) (.val 12 (nD i) (nD n) (by ( rw [show i = n from by omega])) (Hn.last last2 0 (⟨(by ( exact fun j hj => hno j om)), ⟨⟩⟩ : (hno2 : ∀ j, j < n → ¬ ((l.getD j default).toNat = a ∧ cdF l j = v ∧ 0 < a)) ×' Unit) rfl [] ro))))))) (fun | ⟨i, hi, hno, _⟩ => by kernel_rfl) ⟨(0), om, om, ⟨⟩⟩ [] ro (hs2 (fun | ⟨hno2, _⟩ => (.s 2 (.br (!mrB l a v n) (fun p7 => have p7f := (not_t p7); (.s 3 (.val 6 (iD 0) (nD (Prod.fst (nxR b l p))) zix6 (.val 7 (iD 0) (nD (Prod.fst (Prod.snd (nxR b l p)))) zix6 (.val 8 (iD 50) (nD (Prod.snd (Prod.snd (nxR b l p)))) zix6 (Hn.last last1 0 (() : Unit) rfl [] ro)))))) (fun p7 => have p7f := (not_f p7); (.s 3 (.call 51 false [] (true) wr ([D.sl false m 1 (List.map dB b), nD c, iD 1]) _ (by exact (And.intro (D.sim.refl _) (And.intro (D.sim.refl _) (And.intro (D.sim.refl _) trivial)))) (true) wr _ _ _ (CallOk.fn (FnOk.of Try.func51 rfl rfl) (@rTake (b) (m) om om (c) (1) (by (simp; done)) om)) (.s 10 (.br ((↑(tkE b c 1) : Int) != 0) (fun p8 => have p8f := of_bne_t p8; (.s 3 (.val 6 (iD 0) (nD (Prod.fst (nxR b l p))) zix7 (.val 7 (iD 0) (nD (Prod.fst (Prod.snd (nxR b l p)))) zix7 (.val 8 (iD 10) (nD (Prod.snd (Prod.snd (nxR b l p)))) zix7 (Hn.last last1 0 (() : Unit) rfl [] ro)))))) (fun p8 => have p8f := of_bne_f p8; (.s 3 (.opt (wrapO .u32 (2 * (↑v : Int))) (D.v (Value.int .u32 (2 * (↑v : Int) % 4294967296))) (wrapO_eq _ _) (.s 3 (.opt (wrapO .u32 (2 * (↑v : Int) % 4294967296 + (↑(tkV b c 1) : Int))) (D.v (Value.int .u32 ((2 * (↑v : Int) % 4294967296 + (↑(tkV b c 1) : Int)) % 4294967296))) (wrapO_eq _ _) (.s 4 (.ow ((↑c : Int) + 1) (.s 4 (.ow ((↑a : Int) + 1) (.s 1 (.val 2 (iD ((↑c : Int) + 1)) (nD (c + 1)) zix0 (.val 9 (D.v (Value.int .u32 ((2 * (↑v : Int) % 4294967296 + (↑(tkV b c 1) : Int)) % 4294967296))) (D.v (Value.int .u32 (↑(2 * v + tkV b c 1) : Int))) zix0 (.val 10 (iD ((↑a : Int) + 1)) (nD (a + 1)) zix0 (Hn.next next1 ⟨(a + 1), (by ( exact (rdE_go hT hn ha hv hb hno2 hR asm om).1)), (2 * (d - cnt l a) + tkV b c 1), (2 * v + tkV b c 1), (by ( exact (rdE_go hT hn ha hv hb hno2 hR asm om).2.1)), (by ( exact (rdE_go hT hn ha hv hb hno2 hR asm om).2.2.1)), (c + 1), om, (by ( exact (rdE_go hT hn ha hv hb hno2 hR asm om).2.2.2)), ⟨⟩⟩ (by show 16 - (a + 1) < 16 - a; clear next1 last1; omega) [] ro)))))))))))))))))))))) (fun | () => (Hn.last last1 0 (() : Unit) rfl [] ro))))))) (fun | ⟨a, ha, d, v, hv, hb, c, hc, hR, _⟩ => by kernel_rfl) ⟨(0), om, (0), (0), (by exact rfl), om, (p), om, (by (exact hdX_0 b l p)), ⟨⟩⟩ [] ro (hs1 (fun | () => (.out [] [] (D.tup [nD (Prod.fst (nxR b l p)), nD (Prod.fst (Prod.snd (nxR b l p))), nD (Prod.snd (Prod.snd (nxR b l p)))]) [] R (ok _ _ (by exact rfl) wr))))))) (by kernel_rfl)
end Vp
end Go.Proofs.Ytegjeagfcfhbeaa

/- Part 9. -/
import Derived.Test.YtegjeagfcfhbeaaTm8
namespace Go.Proofs.Ytegjeagfcfhbeaa
open Go.RowKit Go.Bw Go.Vx
namespace Vp
set_option linter.unusedVariables false
set_option linter.unusedSimpArgs false
set_option maxRecDepth 100000
set_option maxHeartbeats 4000000
theorem zc0 {p : Prop} (h : p := by (refine cond_blk z4 ?_;  rw [Bool.eq_iff_iff]; simp; omega)) : p := h
theorem zc1 {p : Prop} (h : p := by ( have h9 := ord_lt i; have h8 := rwL_len b s4 i; have h7 := tkN_lt b 3 (rwS b s4 i); omega)) : p := h
theorem zc2 {p : Prop} (h : p := by (refine decide_eq_true ?_;  have h9 := ord_lt i; have h8 := rwL_len b s4 i; have h7 := tkN_lt b 3 (rwS b s4 i); omega)) : p := h
theorem zc3 {p : Prop} (h : p := by (simp only [Bool.true_and, List.length_map, rwL_len]; refine Nat.ble_eq_true_of_le ?_;  have h9 := ord_lt i; omega)) : p := h
theorem zc4 {p : Prop} (h : p := by (refine iv_eq ?_; (omega))) : p := h
theorem zc5 {p : Prop} (h : p := by (refine blk_eq (rw_set (by simp only [Nat.mul_one, Nat.zero_add]) ?_); first | exact rw_byte _ _ | exact rw_byt2 _ _)) : p := h
theorem zc6 {p : Prop} (h : p := by show h + 4 - (i + 1) < h + 4 - i; clear next1 last1; omega) : p := h
theorem zc7 {p : Prop} (h : p := by (rw [show i = h + 4 from by (omega), z5])) : p := h
theorem zc8 {p : Prop} (h : p := by (rw [show i = h + 4 from by (omega), x5])) : p := h
theorem zc9 {p : Prop} (h : p := by exact (And.intro (D.sim.refl _) (And.intro (D.sim.refl _) (And.intro (D.sim.refl _) trivial)))) : p := h
theorem zc10 {p : Prop} (h : p := by exact (And.intro (D.sim.slw rfl ((seg_bytes (o) (0) (Int.toNat ((↑g : Int) + 257) * 1)).trans (by (simp; done)))) (And.intro (D.sim.refl _) trivial))) : p := h
theorem takeV_1 (b : List UInt8) (n : Nat) (hn : n = b.length) (hN : n ≤ 1000000) (s : Rs) (hs : Rok n s) (x : Nat) (z : Rs) (hx : tkN b 1 s = x) (hz : tkS b 1 s = z) : SpecH true Try.prog 46 [.ptr 0 0 0, iD 1] [⟨[.sl false n 1 (b.map dB), nD (s).p, nD (s).e], 70, false⟩] (nD x) [⟨[.sl false n 1 (b.map dB), nD (z).p, nD (z).e], 70, false⟩] := by
  subst hx hz; exact take_t b n hn hN s hs 1 (by decide)
theorem takeV_2 (b : List UInt8) (n : Nat) (hn : n = b.length) (hN : n ≤ 1000000) (s : Rs) (hs : Rok n s) (x : Nat) (z : Rs) (hx : tkN b 2 s = x) (hz : tkS b 2 s = z) : SpecH true Try.prog 46 [.ptr 0 0 0, iD 2] [⟨[.sl false n 1 (b.map dB), nD (s).p, nD (s).e], 70, false⟩] (nD x) [⟨[.sl false n 1 (b.map dB), nD (z).p, nD (z).e], 70, false⟩] := by
  subst hx hz; exact take_t b n hn hN s hs 2 (by decide)
theorem takeV_4 (b : List UInt8) (n : Nat) (hn : n = b.length) (hN : n ≤ 1000000) (s : Rs) (hs : Rok n s) (x : Nat) (z : Rs) (hx : tkN b 4 s = x) (hz : tkS b 4 s = z) : SpecH true Try.prog 46 [.ptr 0 0 0, iD 4] [⟨[.sl false n 1 (b.map dB), nD (s).p, nD (s).e], 70, false⟩] (nD x) [⟨[.sl false n 1 (b.map dB), nD (z).p, nD (z).e], 70, false⟩] := by
  subst hx hz; exact take_t b n hn hN s hs 4 (by decide)
theorem takeV_5 (b : List UInt8) (n : Nat) (hn : n = b.length) (hN : n ≤ 1000000) (s : Rs) (hs : Rok n s) (x : Nat) (z : Rs) (hx : tkN b 5 s = x) (hz : tkS b 5 s = z) : SpecH true Try.prog 46 [.ptr 0 0 0, iD 5] [⟨[.sl false n 1 (b.map dB), nD (s).p, nD (s).e], 70, false⟩] (nD x) [⟨[.sl false n 1 (b.map dB), nD (z).p, nD (z).e], 70, false⟩] := by
  subst hx hz; exact take_t b n hn hN s hs 5 (by decide)
theorem takeV_16 (b : List UInt8) (n : Nat) (hn : n = b.length) (hN : n ≤ 1000000) (s : Rs) (hs : Rok n s) (x : Nat) (z : Rs) (hx : tkN b 16 s = x) (hz : tkS b 16 s = z) : SpecH true Try.prog 46 [.ptr 0 0 0, iD 16] [⟨[.sl false n 1 (b.map dB), nD (s).p, nD (s).e], 70, false⟩] (nD x) [⟨[.sl false n 1 (b.map dB), nD (z).p, nD (z).e], 70, false⟩] := by
  subst hx hz; exact take_t b n hn hN s hs 16 (by decide)
structure FlE (s : Rs) (c : Bool) (x : Nat) (z : Rs) : Prop where
  h : fl s c x = z
theorem failV_130 (b : List UInt8) (n : Nat) (hn : n = b.length) (hN : n ≤ 1000000) (s : Rs) (c : Bool) (z : Rs) (hz : FlE s c 130 z) : SpecH true Try.prog 47 [.ptr 0 0 0, bD c, iD 130] [⟨[.sl false n 1 (b.map dB), nD (s).p, nD (s).e], 70, false⟩] (.tup []) [⟨[.sl false n 1 (b.map dB), nD (z).p, nD (z).e], 70, false⟩] := by
  have hz := hz.h; subst hz; exact fail_t b n hn hN s c 130 (by decide)
theorem failV_131 (b : List UInt8) (n : Nat) (hn : n = b.length) (hN : n ≤ 1000000) (s : Rs) (c : Bool) (z : Rs) (hz : FlE s c 131 z) : SpecH true Try.prog 47 [.ptr 0 0 0, bD c, iD 131] [⟨[.sl false n 1 (b.map dB), nD (s).p, nD (s).e], 70, false⟩] (.tup []) [⟨[.sl false n 1 (b.map dB), nD (z).p, nD (z).e], 70, false⟩] := by
  have hz := hz.h; subst hz; exact fail_t b n hn hN s c 131 (by decide)
theorem failV_132 (b : List UInt8) (n : Nat) (hn : n = b.length) (hN : n ≤ 1000000) (s : Rs) (c : Bool) (z : Rs) (hz : FlE s c 132 z) : SpecH true Try.prog 47 [.ptr 0 0 0, bD c, iD 132] [⟨[.sl false n 1 (b.map dB), nD (s).p, nD (s).e], 70, false⟩] (.tup []) [⟨[.sl false n 1 (b.map dB), nD (z).p, nD (z).e], 70, false⟩] := by
  have hz := hz.h; subst hz; exact fail_t b n hn hN s c 132 (by decide)
theorem growV_7 (b : List UInt8) (n : Nat) (hn : n = b.length) (hN : n ≤ 1000000) (s : Rs) (hs : Rok n s) (o : List UInt8) (off k : Nat) (hk : off + k ≤ o.length) (hK : o.length ≤ 1000000) (l : List UInt8) (hl : l = (o.drop off).take k) (t : List UInt8) (z : Rs) (ht : okL l 7 = t) (hz : fl s (((canE l 7 : Nat) : Int) == 0) 132 = z) : SpecH true Try.prog 49 [.ptr 0 0 0, .ref 1 1 off k 1, iD 7] [⟨[.sl false n 1 (b.map dB), nD (s).p, nD (s).e], 70, false⟩, ⟨(o).map dB, 5, true⟩] (.agg (c16 (cnt t) ++ [.ref 2 2 0 (symsL t).length 1])) [⟨[.sl false n 1 (b.map dB), nD (z).p, nD (z).e], 70, false⟩, ⟨(o).map dB, 5, true⟩, ⟨(symsL t).map nD, 3, true⟩] := by
  subst ht hz; exact grow_r b n hn hN s hs o off k hk hK l hl 7 (by decide)
theorem growV_15 (b : List UInt8) (n : Nat) (hn : n = b.length) (hN : n ≤ 1000000) (s : Rs) (hs : Rok n s) (o : List UInt8) (off k : Nat) (hk : off + k ≤ o.length) (hK : o.length ≤ 1000000) (l : List UInt8) (hl : l = (o.drop off).take k) (t : List UInt8) (z : Rs) (ht : okL l 15 = t) (hz : fl s (((canE l 15 : Nat) : Int) == 0) 132 = z) : SpecH true Try.prog 49 [.ptr 0 0 0, .ref 1 1 off k 1, iD 15] [⟨[.sl false n 1 (b.map dB), nD (s).p, nD (s).e], 70, false⟩, ⟨(o).map dB, 5, true⟩] (.agg (c16 (cnt t) ++ [.ref 2 2 0 (symsL t).length 1])) [⟨[.sl false n 1 (b.map dB), nD (z).p, nD (z).e], 70, false⟩, ⟨(o).map dB, 5, true⟩, ⟨(symsL t).map nD, 3, true⟩] := by
  subst ht hz; exact grow_r b n hn hN s hs o off k hk hK l hl 15 (by decide)
theorem lenV (b : List UInt8) (n : Nat) (hn : n = b.length) (hN : n ≤ 1000000) (s : Rs) (hs : Rok n s) (l : List UInt8) (hT : canE l 15 = 0) (hl : l.length ≤ 19) (N : Nat) (Ni : Int) (o : List UInt8) (z : Rs) (ho : lnO b l N s = o) (hz : lnS b l N s = z) (hNi : Ni = N) (hNN : N ≤ 320) : SpecH true Try.prog 82 [.ptr 0 0 0, .agg (c16 (cnt l) ++ [.ref 1 1 0 (symsL l).length 1]), iD Ni] [⟨[.sl false n 1 (b.map dB), nD (s).p, nD (s).e], 70, false⟩, ⟨(symsL l).map nD, 3, true⟩] (.ref 2 2 0 o.length 1) [⟨[.sl false n 1 (b.map dB), nD (z).p, nD (z).e], 70, false⟩, ⟨(symsL l).map nD, 3, true⟩, ⟨(o).map dB, 5, true⟩] := by
  subst hz ho hNi; exact len_r b n hn hN s hs l hT hl N hNN
theorem canEV (l : List UInt8) (n : Nat) (hn : n = l.length) (hN : n ≤ 1000000) (L : List UInt8) (hl : l = L) : SpecH false Try.prog 83 [.sl false n 1 (l.map dB), iD 15] [] (nD (canE L 15)) [] := by
  subst hl; exact canE_i l n hn hN 15 (by decide)
def ordL : List Nat := [16, 17, 18, 0, 8, 7, 9, 6, 10, 5, 11, 4, 12, 3, 13, 2, 14, 1, 15]
def ordN (i : Nat) : Nat := ordL.getD i 0
def rwS (b : List UInt8) (s : Rs) : Nat → Rs
  | 0 => s
  | i + 1 => tkS b 3 (rwS b s i)
def rwL (b : List UInt8) (s : Rs) : Nat → List UInt8
  | 0 => List.replicate 19 0
  | i + 1 => (rwL b s i).set (ordN i) (UInt8.ofNat (tkN b 3 (rwS b s i)))
theorem rwL_len (b : List UInt8) (s : Rs) : ∀ i, (rwL b s i).length = 19
  | 0 => rfl
  | i + 1 => by rw [rwL, List.length_set]; exact rwL_len b s i
theorem Rok.rw {b : List UInt8} {s : Rs} (h : Rok b.length s) : ∀ i, Rok b.length (rwS b s i)
  | 0 => h
  | i + 1 => (Rok.rw h i).tk 3
theorem ord_lt (i : Nat) : ordN i < 19 := by
  unfold ordN
  rcases Nat.lt_or_ge i 19 with h | h
  · have : ∀ j : Fin 19, ordL.getD j.1 0 < 19 := by decide
    exact this ⟨i, h⟩
  · rw [List.getD_eq_getElem?_getD, List.getElem?_eq_none (by exact h)]; decide
theorem ord_at (i : Nat) (h : i < 19) : (ordL.map nD)[i]? = some (nD (ordN i)) := by
  unfold ordN
  rw [List.getElem?_map, List.getD_eq_getElem?_getD, List.getElem?_eq_getElem (by exact h)]; rfl
theorem ord_z (i : Nat) (h : i < 19) : (ordL.map nD)[0 + i * 1]? = some (nD (ordN i)) := by rw [Nat.mul_one, Nat.zero_add]; exact ord_at i h
theorem rw_set {b : List UInt8} {s : Rs} {i o : Nat} {d : D} (ho : o = ordN i) (hd : d = dB (UInt8.ofNat (tkN b 3 (rwS b s i)))) : setSeg ((rwL b s i).map dB) o [d] = (rwL b s (i + 1)).map dB := by
  have h1 := ord_lt i
  have h2 := rwL_len b s i
  subst ho hd
  apply List.ext_getElem?
  intro j
  rw [setSeg_get (by simp only [List.length_map, List.length_singleton]; omega), List.length_singleton, rwL, List.getElem?_map, List.getElem?_map, List.getElem?_set]
  by_cases h : j = ordN i
  · subst h
    rw [if_pos ⟨Nat.le_refl _, by omega⟩, if_pos rfl, if_pos (by omega), Nat.sub_self]; rfl
  · rw [if_neg (by omega), if_neg (fun q => h q.symm)]
structure DyA (b : List UInt8) (s : Rs) (g f h : Nat) (s1 s2 s3 s4 s5 s6 s7 s8 : Rs) (W t : List UInt8) (N : Nat) (o : List UInt8) : Prop where
  x1 : tkN b 5 s = g
  z1 : tkS b 5 s = s1
  x2 : tkN b 5 s1 = f
  z2 : tkS b 5 s1 = s2
  x3 : tkN b 4 s2 = h
  z3 : tkS b 4 s2 = s3
  z4 : fl s3 (decide (g + 257 ≤ 286) && decide (f + 1 ≤ 30)) 132 = s4
  z5 : rwS b s4 (h + 4) = s5
  x5 : rwL b s4 (h + 4) = W
  x6 : okL W 7 = t
  z6 : fl s5 (((canE W 7 : Nat) : Int) == 0) 132 = s6
  z7 : FlE s6 (decide ((1 : Int) < (((symsL t).length : Nat) : Int))) 132 s7
  eN : N = g + 257 + (f + 1)
  x8 : lnO b t N s7 = o
  z8 : lnS b t N s7 = s8
theorem strF_len (n : Nat) : ∀ (l : List Rn) (o : List UInt8), (strF n l o).2 = 0 → (strF n l o).1.length = n
  | [], o, h => by
    rw [strF] at *; split
    · next q => exact q
    · next q => rw [if_neg q] at h; cases h
  | r :: q, o, h => by
    rw [strF] at *
    split
    · next q => rw [if_pos q] at h; cases h
    · next h1 =>
      rw [if_neg h1] at h
      split
      · next q => rw [if_pos q] at h; cases h
      · next h2 =>
        rw [if_neg h2] at h
        split
        · next q => rw [if_pos q] at h; cases h
        · next h3 => rw [if_neg h3] at h; exact strF_len n q _ h
theorem lnO_len {b t : List UInt8} {N : Nat} {s : Rs} (h : (lnS b t N s).e = 0) : (lnO b t N s).length = N := by
  unfold lnS at h
  have h1 := fl_0 (by decide) h
  have h2 : (strR N (lnR b t N s).2).2 = 0 := by have := h1.2.1; simpa using this
  unfold lnO; rw [strR_eq] at *; exact strF_len _ _ _ h2
theorem rw_byte (b : List UInt8) (s : Rs) : D.v (.int .u8 (((tkN b 3 s : Nat) : Int) % 256)) = dB (UInt8.ofNat (tkN b 3 s)) := by
  unfold dB; rw [UInt8.toNat_ofNat']; rfl
theorem rw_byt2 (b : List UInt8) (s : Rs) : D.v (.int .u8 ((tkN b 3 s : Nat) : Int)) = dB (UInt8.ofNat (tkN b 3 s)) := by
  have h := tkN_lt b 3 s
  unfold dB; rw [UInt8.toNat_ofNat', Nat.mod_eq_of_lt (by omega)]
theorem cond_blk {a : D} {S Z : Rs} {c d : Bool} {t : TypeId} {r : Bool} (h : fl S d 132 = Z) (hc : c = d) : (⟨[a, nD (fl S c 132).p, nD (fl S c 132).e], t, r⟩ : Blk) = ⟨[a, nD Z.p, nD Z.e], t, r⟩ := by rw [hc, h]
theorem dyn_e (b : List UInt8) (n : Nat) (hn : n = b.length) (hN : n ≤ 1000000) (s : Rs) (hs : Rok n s) (kd le : Nat) (la : Bool) (g f h : Nat) (s1 s2 s3 s4 s5 s6 s7 s8 : Rs) (W t : List UInt8) (N : Nat) (o : List UInt8) (D : DyA b s g f h s1 s2 s3 s4 s5 s6 s7 s8 W t N o) (he : s8.e ≠ 0) : SpecH true Try.prog 50 [.ptr 0 0 0, .ptr 1 1 0] [⟨[.sl false n 1 (b.map dB), nD (s).p, nD (s).e], 70, false⟩, ⟨[u8D kd, bD la, nD le] ++ zeroC ++ zeroC, 28, false⟩] (.tup []) [⟨[.sl false n 1 (b.map dB), nD (s8).p, nD (s8).e], 70, false⟩, ⟨[u8D kd, bD la, nD le] ++ zeroC ++ zeroC, 28, false⟩] := by
  obtain ⟨x1, z1, x2, z2, x3, z3, z4, z5, x5, x6, z6, z7, eN, x8, z8⟩ := D
  have hg : g < 32 := by rw [← x1]; exact tkN_lt b 5 s
  have hf : f < 32 := by rw [← x2]; exact tkN_lt b 5 s1
  have hh : h < 16 := by rw [← x3]; exact tkN_lt b 4 s2
  have r1 : Rok n s1 := by rw [← z1]; subst hn; exact hs.tk _
  have r2 : Rok n s2 := by rw [← z2]; subst hn; exact r1.tk _
  have r3 : Rok n s3 := by rw [← z3]; subst hn; exact r2.tk _
  have r4 : Rok n s4 := by rw [← z4]; exact r3.fl _ _
  have r5 : Rok n s5 := by rw [← z5]; subst hn; exact r4.rw _
  have r6 : Rok n s6 := by rw [← z6]; exact r5.fl _ _
  have r7 : Rok n s7 := by rw [← z7.h]; exact r6.fl _ _
  have hW : W.length = 19 := by rw [← x5]; exact rwL_len _ _ _
  have hT : canE t 15 = 0 := by rw [← x6]; exact okL_15 W (by decide)
  have hl : t.length ≤ 19 := by
    rw [← x6]
    by_cases q : canE W 7 = 0
    · rw [okL_y q]; omega
    · rw [okL_n q]; exact Nat.zero_le _
  have hWl : W = (W.drop 0).take 19 := by rw [List.drop_zero, List.take_of_length_le (by omega)]
  have r4i : ∀ i, Rok n (rwS b s4 i) := fun i => by subst hn; exact r4.rw i
  refine SpecH.run T_ok mixed Try.func50 rfl rfl rfl ⟨rfl, rfl, trivial⟩ rfl 1000 64 (fun R ok => (.s 2 (.cl 46 true [0] (.fn q46 (@takeV_5 (b) (n) om om (s) om (g) (s1) asm asm)) (.s 2 (.ow ((↑g : Int) + 257) (.s 2 (.cl 46 true [0] (.fn q46 (@takeV_5 (b) (n) om om (s1) om (f) (s2) asm asm)) (.s 2 (.ow ((↑f : Int) + 1) (.s 2 (.cl 46 true [0] (.fn q46 (@takeV_4 (b) (n) om om (s2) om (h) (s3) asm asm)) (.s 2 (.ow ((↑h : Int) + 4) (.s 9 (.br (decide ((↑g : Int) + 257 ≤ 286)) (fun p0 => have p0f := odt p0; (.s 5 (.cl 47 true [0] (.fn q47 (@fail_t (b) (n) om om (s3) (decide ((↑f : Int) + 1 ≤ 30)) (132) om)) (.s 4 (.cl 81 false [] (.fn q81 (@Order_t)) (.s 7 (.chk (bndOk none (some ((↑h : Int) + 4)) none 19 && true && true && true) (by (simp <;> (omega))) (.s 2 (.blk 0 0 (Blk.mk [D.sl false n 1 (List.map dB b), nD (Rs.p (fl s3 (decide ((↑f : Int) + 1 ≤ 30)) 132)), nD (Rs.e (fl s3 (decide ((↑f : Int) + 1 ≤ 30)) 132))] 70 false) (Blk.mk [D.sl false n 1 (List.map dB b), nD (Rs.p (rwS b s4 0)), nD (Rs.e (rwS b s4 0))] 70 false) zc0 (Hn.inl T_ok mixed false 95 2 (loopAt Try.prog 50 0) (fun (x : (i : Nat) ×' (hi : i ≤ h + 4) ×' Unit) => match x with | ⟨i, hi, _⟩ => CutS.mk [(0, D.ptr 0 0 0), (1, D.ptr 1 1 0), (4, iD ((↑g : Int) + 257)), (5, iD ((↑f : Int) + 1)), (7, D.ref 24 24 0 19 1), (33, D.ref 32 32 0 (Int.toNat ((↑h : Int) + 4)) 1), (34, nD (Int.toNat ((↑h : Int) + 4))), (35, nD i)] [⟨0, 0, 0, 0, .b ⟨[.sl false n 1 (b.map dB), nD (rwS b s4 i).p, nD (rwS b s4 i).e], 70, false⟩⟩, ⟨1, 1, 1, 1, .b ⟨[D.v (Value.int .u8 (↑kd : Int)), D.v (.bool la), nD le, iD 0, iD 0, iD 0, iD 0, iD 0, iD 0, iD 0, iD 0, iD 0, iD 0, iD 0, iD 0, iD 0, iD 0, iD 0, iD 0, nilD, iD 0, iD 0, iD 0, iD 0, iD 0, iD 0, iD 0, iD 0, iD 0, iD 0, iD 0, iD 0, iD 0, iD 0, iD 0, iD 0, nilD], 28, false⟩⟩, ⟨24, 24, 162, 162, .b ⟨(rwL b s4 i).map dB, 5, true⟩⟩, ⟨32, 32, 186, 186, .b ⟨[iD 16, iD 17, iD 18, iD 0, iD 8, iD 7, iD 9, iD 6, iD 10, iD 5, iD 11, iD 4, iD 12, iD 3, iD 13, iD 2, iD 14, iD 1, iD 15], 142, false⟩⟩] 40) (fun (x : (i : Nat) ×' (hi : i ≤ h + 4) ×' Unit) => match x with | ⟨i, hi, _⟩ => h + 4 - i) [⟨Unit, .exit 0, fun x => match x with | () => CutS.mk [(0, D.ptr 0 0 0), (1, D.ptr 1 1 0), (4, iD ((↑g : Int) + 257)), (5, iD ((↑f : Int) + 1)), (7, D.ref 24 24 0 19 1), (33, D.ref 32 32 0 (Int.toNat ((↑h : Int) + 4)) 1), (34, nD (Int.toNat ((↑h : Int) + 4)))] [⟨0, 0, 0, 0, .b ⟨[.sl false n 1 (b.map dB), nD (s5).p, nD (s5).e], 70, false⟩⟩, ⟨1, 1, 1, 1, .b ⟨[D.v (Value.int .u8 (↑kd : Int)), D.v (.bool la), nD le, iD 0, iD 0, iD 0, iD 0, iD 0, iD 0, iD 0, iD 0, iD 0, iD 0, iD 0, iD 0, iD 0, iD 0, iD 0, iD 0, nilD, iD 0, iD 0, iD 0, iD 0, iD 0, iD 0, iD 0, iD 0, iD 0, iD 0, iD 0, iD 0, iD 0, iD 0, iD 0, iD 0, nilD], 28, false⟩⟩, ⟨24, 24, 162, 162, .b ⟨W.map dB, 5, true⟩⟩, ⟨32, 32, 186, 186, .b ⟨[iD 16, iD 17, iD 18, iD 0, iD 8, iD 7, iD 9, iD 6, iD 10, iD 5, iD 11, iD 4, iD 12, iD 3, iD 13, iD 2, iD 14, iD 1, iD 15], 142, false⟩⟩] 40⟩] 1000 64 (fun | ⟨i, hi, _⟩, Q, next1, last1 => (.s 2 (.br (decide ((↑i : Int) < (↑(Int.toNat ((↑h : Int) + 4)) : Int))) (fun p1 => have p1f := odt p1; (.s 1 (.chk (true && decide ((↑i : Int) < (↑(Int.toNat ((↑h : Int) + 4)) : Int))) asm (.s 2 (.opt ((List.map nD ordL)[0 + i * 1]?) (nD (ordN i)) (@ord_z i om) (.s 5 (.cl 46 true [0] (.fn q46 (@take_t (b) (n) om om (rwS b s4 i) (by (exact r4i _)) (3) om)) (.s 1 (.opt (wrapO .u8 (↑(tkN b 3 (rwS b s4 i)) : Int)) (D.v (Value.int .u8 (↑(tkN b 3 (rwS b s4 i)) : Int))) (wrapO_u8 zc1) (.s 1 (.chk (true && decide ((↑(ordN i) : Int) < (↑19 : Int))) zc2 (.s 1 (.chk (true && Nat.ble (0 + ordN i * 1 + 1) (List.length (List.map dB (rwL b s4 i)))) zc3 (.lst (setSeg (List.map dB (rwL b s4 i)) (0 + ordN i * 1) [D.v (Value.int .u8 (↑(tkN b 3 (rwS b s4 i)) : Int))]) (setSeg (List.map dB (rwL b s4 i)) (ordN i) [D.v (Value.int .u8 (↑(tkN b 3 (rwS b s4 i)) : Int))]) (by (simp; done)) (.s 2 (.ow ((↑i : Int) + 1) (.s 1 (.val 35 (iD ((↑i : Int) + 1)) (nD (i + 1)) zc4 (.blk 0 0 (Blk.mk [D.sl false n 1 (List.map dB b), nD (Rs.p (tkS b 3 (rwS b s4 i))), nD (Rs.e (tkS b 3 (rwS b s4 i)))] 70 false) (Blk.mk [D.sl false n 1 (List.map dB b), nD (Rs.p (rwS b s4 (i + 1))), nD (Rs.e (rwS b s4 (i + 1)))] 70 false) (by exact rfl) (.blk 24 24 (Blk.mk (setSeg (List.map dB (rwL b s4 i)) (ordN i) [D.v (Value.int .u8 (↑(tkN b 3 (rwS b s4 i)) : Int))]) 5 true) (Blk.mk (List.map dB (rwL b s4 (i + 1))) 5 true) zc5 (Hn.next next1 ⟨(i + 1), om, ⟨⟩⟩ zc6 [(0, 0), (1, 1), (24, 24), (32, 32)] ro))))))))))))))))))))) (fun p1 => have p1f := odf p1; (.blk 0 0 (Blk.mk [D.sl false n 1 (List.map dB b), nD (Rs.p (rwS b s4 i)), nD (Rs.e (rwS b s4 i))] 70 false) (Blk.mk [D.sl false n 1 (List.map dB b), nD (Rs.p s5), nD (Rs.e s5)] 70 false) zc7 (.blk 24 24 (Blk.mk (List.map dB (rwL b s4 i)) 5 true) (Blk.mk (List.map dB W) 5 true) zc8 (Hn.last last1 0 (() : Unit) rfl [(0, 0), (1, 1), (24, 24), (32, 32)] ro))))))) (fun | ⟨i, hi, _⟩ => by kernel_rfl) ⟨(0), om, ⟨⟩⟩ [(0, 0), (1, 1), (162, 162), (186, 186)] ro (hs1 (fun | () => (.s 3 (.call 49 true [0, 24] (true) wr ([D.ptr 0 0 0, D.ref 1 1 0 19 1, iD 7]) _ (simL.refl _) (true && (closedL (List.map dB W) && true)) (by (simp; done)) _ _ _ (CallOk.fn (FnOk.of Try.func49 rfl rfl) (@growV_7 (b) (n) om om (s5) om (W) (0) (19) om om (W) asm (t) (s6) asm asm)) (.s 16 (.cl 47 true [0] (.fn q47 (@failV_132 (b) (n) om om (s6) (decide (1 < (↑(List.length (symsL t)) : Int))) (s7) asm)) (.s 9 (.ow ((↑g : Int) + 257 + ((↑f : Int) + 1)) (.s 1 (.call 82 true [0, 56] (true) wr ([D.ptr 0 0 0, D.agg [nD (cnt t 0), nD (cnt t 1), nD (cnt t 2), nD (cnt t 3), nD (cnt t 4), nD (cnt t 5), nD (cnt t 6), nD (cnt t 7), nD (cnt t 8), nD (cnt t 9), nD (cnt t 10), nD (cnt t 11), nD (cnt t 12), nD (cnt t 13), nD (cnt t 14), nD (cnt t 15), D.ref 1 1 0 (List.length (symsL t)) 1], iD ((↑g : Int) + 257 + ((↑f : Int) + 1))]) _ zc9 (true && (closedL (List.map nD (symsL t)) && true)) (by (simp; done)) _ _ _ (CallOk.fn (FnOk.of Try.func82 rfl rfl) (@lenV (b) (n) om om (s7) om (t) om om (N) ((↑g : Int) + 257 + ((↑f : Int) + 1)) (o) (s8) asm asm om om)) (.s 11 (.t ((↑(Rs.e s8) : Int) != 0) (by (simp <;> (omega))) (.out [0, 1] [0, 1] (D.tup []) [Blk.mk [D.sl false n 1 (List.map dB b), nD (Rs.p s8), nD (Rs.e s8)] 70 false, Blk.mk [D.v (Value.int .u8 (↑kd : Int)), D.v (.bool la), nD le, iD 0, iD 0, iD 0, iD 0, iD 0, iD 0, iD 0, iD 0, iD 0, iD 0, iD 0, iD 0, iD 0, iD 0, iD 0, iD 0, nilD, iD 0, iD 0, iD 0, iD 0, iD 0, iD 0, iD 0, iD 0, iD 0, iD 0, iD 0, iD 0, iD 0, iD 0, iD 0, iD 0, nilD] 28 false] R (ok _ _ wr (by exact rfl))))))))))))))))))))))))) (fun p0 => have p0f := odf p0; (.s 4 (.cl 47 true [0] (.fn q47 (@fail_t (b) (n) om om (s3) (false) (132) om)) (.s 4 (.cl 81 false [] (.fn q81 (@Order_t)) (.s 7 (.chk (bndOk none (some ((↑h : Int) + 4)) none 19 && true && true && true) (by (simp <;> (omega))) (.s 2 (.blk 0 0 (Blk.mk [D.sl false n 1 (List.map dB b), nD (Rs.p (fl s3 false 132)), nD (Rs.e (fl s3 false 132))] 70 false) (Blk.mk [D.sl false n 1 (List.map dB b), nD (Rs.p (rwS b s4 0)), nD (Rs.e (rwS b s4 0))] 70 false) zc0 (Hn.inl T_ok mixed false 95 2 (loopAt Try.prog 50 0) (fun (x : (i : Nat) ×' (hi : i ≤ h + 4) ×' Unit) => match x with | ⟨i, hi, _⟩ => CutS.mk [(0, D.ptr 0 0 0), (1, D.ptr 1 1 0), (4, iD ((↑g : Int) + 257)), (5, iD ((↑f : Int) + 1)), (7, D.ref 24 24 0 19 1), (33, D.ref 32 32 0 (Int.toNat ((↑h : Int) + 4)) 1), (34, nD (Int.toNat ((↑h : Int) + 4))), (35, nD i)] [⟨0, 0, 0, 0, .b ⟨[.sl false n 1 (b.map dB), nD (rwS b s4 i).p, nD (rwS b s4 i).e], 70, false⟩⟩, ⟨1, 1, 1, 1, .b ⟨[D.v (Value.int .u8 (↑kd : Int)), D.v (.bool la), nD le, iD 0, iD 0, iD 0, iD 0, iD 0, iD 0, iD 0, iD 0, iD 0, iD 0, iD 0, iD 0, iD 0, iD 0, iD 0, iD 0, nilD, iD 0, iD 0, iD 0, iD 0, iD 0, iD 0, iD 0, iD 0, iD 0, iD 0, iD 0, iD 0, iD 0, iD 0, iD 0, iD 0, nilD], 28, false⟩⟩, ⟨24, 24, 162, 162, .b ⟨(rwL b s4 i).map dB, 5, true⟩⟩, ⟨32, 32, 186, 186, .b ⟨[iD 16, iD 17, iD 18, iD 0, iD 8, iD 7, iD 9, iD 6, iD 10, iD 5, iD 11, iD 4, iD 12, iD 3, iD 13, iD 2, iD 14, iD 1, iD 15], 142, false⟩⟩] 40) (fun (x : (i : Nat) ×' (hi : i ≤ h + 4) ×' Unit) => match x with | ⟨i, hi, _⟩ => h + 4 - i) [⟨Unit, .exit 0, fun x => match x with | () => CutS.mk [(0, D.ptr 0 0 0), (1, D.ptr 1 1 0), (4, iD ((↑g : Int) + 257)), (5, iD ((↑f : Int) + 1)), (7, D.ref 24 24 0 19 1), (33, D.ref 32 32 0 (Int.toNat ((↑h : Int) + 4)) 1), (34, nD (Int.toNat ((↑h : Int) + 4)))] [⟨0, 0, 0, 0, .b ⟨[.sl false n 1 (b.map dB), nD (s5).p, nD (s5).e], 70, false⟩⟩, ⟨1, 1, 1, 1, .b ⟨[D.v (Value.int .u8 (↑kd : Int)), D.v (.bool la), nD le, iD 0, iD 0, iD 0, iD 0, iD 0, iD 0, iD 0, iD 0, iD 0, iD 0, iD 0, iD 0, iD 0, iD 0, iD 0, iD 0, nilD, iD 0, iD 0, iD 0, iD 0, iD 0, iD 0, iD 0, iD 0, iD 0, iD 0, iD 0, iD 0, iD 0, iD 0, iD 0, iD 0, nilD], 28, false⟩⟩, ⟨24, 24, 162, 162, .b ⟨W.map dB, 5, true⟩⟩, ⟨32, 32, 186, 186, .b ⟨[iD 16, iD 17, iD 18, iD 0, iD 8, iD 7, iD 9, iD 6, iD 10, iD 5, iD 11, iD 4, iD 12, iD 3, iD 13, iD 2, iD 14, iD 1, iD 15], 142, false⟩⟩] 40⟩] 1000 64 (fun | ⟨i, hi, _⟩, Q, next1, last1 => (.s 2 (.br (decide ((↑i : Int) < (↑(Int.toNat ((↑h : Int) + 4)) : Int))) (fun p2 => have p2f := odt p2; (.s 1 (.chk (true && decide ((↑i : Int) < (↑(Int.toNat ((↑h : Int) + 4)) : Int))) asm (.s 2 (.opt ((List.map nD ordL)[0 + i * 1]?) (nD (ordN i)) (@ord_z i om) (.s 5 (.cl 46 true [0] (.fn q46 (@take_t (b) (n) om om (rwS b s4 i) (by (exact r4i _)) (3) om)) (.s 1 (.opt (wrapO .u8 (↑(tkN b 3 (rwS b s4 i)) : Int)) (D.v (Value.int .u8 (↑(tkN b 3 (rwS b s4 i)) : Int))) (wrapO_u8 zc1) (.s 1 (.chk (true && decide ((↑(ordN i) : Int) < (↑19 : Int))) zc2 (.s 1 (.chk (true && Nat.ble (0 + ordN i * 1 + 1) (List.length (List.map dB (rwL b s4 i)))) zc3 (.lst (setSeg (List.map dB (rwL b s4 i)) (0 + ordN i * 1) [D.v (Value.int .u8 (↑(tkN b 3 (rwS b s4 i)) : Int))]) (setSeg (List.map dB (rwL b s4 i)) (ordN i) [D.v (Value.int .u8 (↑(tkN b 3 (rwS b s4 i)) : Int))]) (by (simp; done)) (.s 2 (.ow ((↑i : Int) + 1) (.s 1 (.val 35 (iD ((↑i : Int) + 1)) (nD (i + 1)) zc4 (.blk 0 0 (Blk.mk [D.sl false n 1 (List.map dB b), nD (Rs.p (tkS b 3 (rwS b s4 i))), nD (Rs.e (tkS b 3 (rwS b s4 i)))] 70 false) (Blk.mk [D.sl false n 1 (List.map dB b), nD (Rs.p (rwS b s4 (i + 1))), nD (Rs.e (rwS b s4 (i + 1)))] 70 false) (by exact rfl) (.blk 24 24 (Blk.mk (setSeg (List.map dB (rwL b s4 i)) (ordN i) [D.v (Value.int .u8 (↑(tkN b 3 (rwS b s4 i)) : Int))]) 5 true) (Blk.mk (List.map dB (rwL b s4 (i + 1))) 5 true) zc5 (Hn.next next1 ⟨(i + 1), om, ⟨⟩⟩ zc6 [(0, 0), (1, 1), (24, 24), (32, 32)] ro))))))))))))))))))))) (fun p2 => have p2f := odf p2; (.blk 0 0 (Blk.mk [D.sl false n 1 (List.map dB b), nD (Rs.p (rwS b s4 i)), nD (Rs.e (rwS b s4 i))] 70 false) (Blk.mk [D.sl false n 1 (List.map dB b), nD (Rs.p s5), nD (Rs.e s5)] 70 false) zc7 (.blk 24 24 (Blk.mk (List.map dB (rwL b s4 i)) 5 true) (Blk.mk (List.map dB W) 5 true) zc8 (Hn.last last1 0 (() : Unit) rfl [(0, 0), (1, 1), (24, 24), (32, 32)] ro))))))) (fun | ⟨i, hi, _⟩ => by kernel_rfl) ⟨(0), om, ⟨⟩⟩ [(0, 0), (1, 1), (162, 162), (186, 186)] ro (hs1 (fun | () => (.s 3 (.call 49 true [0, 24] (true) wr ([D.ptr 0 0 0, D.ref 1 1 0 19 1, iD 7]) _ (simL.refl _) (true && (closedL (List.map dB W) && true)) (by (simp; done)) _ _ _ (CallOk.fn (FnOk.of Try.func49 rfl rfl) (@growV_7 (b) (n) om om (s5) om (W) (0) (19) om om (W) asm (t) (s6) asm asm)) (.s 16 (.cl 47 true [0] (.fn q47 (@failV_132 (b) (n) om om (s6) (decide (1 < (↑(List.length (symsL t)) : Int))) (s7) asm)) (.s 9 (.ow ((↑g : Int) + 257 + ((↑f : Int) + 1)) (.s 1 (.call 82 true [0, 56] (true) wr ([D.ptr 0 0 0, D.agg [nD (cnt t 0), nD (cnt t 1), nD (cnt t 2), nD (cnt t 3), nD (cnt t 4), nD (cnt t 5), nD (cnt t 6), nD (cnt t 7), nD (cnt t 8), nD (cnt t 9), nD (cnt t 10), nD (cnt t 11), nD (cnt t 12), nD (cnt t 13), nD (cnt t 14), nD (cnt t 15), D.ref 1 1 0 (List.length (symsL t)) 1], iD ((↑g : Int) + 257 + ((↑f : Int) + 1))]) _ zc9 (true && (closedL (List.map nD (symsL t)) && true)) (by (simp; done)) _ _ _ (CallOk.fn (FnOk.of Try.func82 rfl rfl) (@lenV (b) (n) om om (s7) om (t) om om (N) ((↑g : Int) + 257 + ((↑f : Int) + 1)) (o) (s8) asm asm om om)) (.s 11 (.t ((↑(Rs.e s8) : Int) != 0) (by (simp <;> (omega))) (.out [0, 1] [0, 1] (D.tup []) [Blk.mk [D.sl false n 1 (List.map dB b), nD (Rs.p s8), nD (Rs.e s8)] 70 false, Blk.mk [D.v (Value.int .u8 (↑kd : Int)), D.v (.bool la), nD le, iD 0, iD 0, iD 0, iD 0, iD 0, iD 0, iD 0, iD 0, iD 0, iD 0, iD 0, iD 0, iD 0, iD 0, iD 0, iD 0, nilD, iD 0, iD 0, iD 0, iD 0, iD 0, iD 0, iD 0, iD 0, iD 0, iD 0, iD 0, iD 0, iD 0, iD 0, iD 0, iD 0, nilD] 28 false] R (ok _ _ wr (by exact rfl)))))))))))))))))))))))))))))))))))))))) (by kernel_rfl)
structure DyB (G N : Nat) (o : List UInt8) (s8 s9 s10 s11 s12 : Rs) (L1 L2 t1 t2 : List UInt8) : Prop where
  h8 : s8.e = 0
  z9 : FlE s8 (decide ((0 : Int) < (((o.getD 256 default).toNat : Nat) : Int))) 132 s9
  y1 : L1 = (o.drop 0).take G
  y2 : L2 = (o.drop G).take (N - G)
  z10 : FlE s9 (((canE L1 15 : Nat) : Int) == 0) 132 s10
  z11 : fl s10 (((canE L1 15 : Nat) : Int) == 0) 132 = s11
  z12 : fl s11 (((canE L2 15 : Nat) : Int) == 0) 132 = s12
  w1 : okL L1 15 = t1
  w2 : okL L2 15 = t2
theorem td_eq {o : List UInt8} {x y z w : Nat} (h : x = z) (h2 : y = w) : List.take x (List.drop y o) = List.take z (List.drop w o) := by rw [h, h2]
theorem lnF_ok {b l : List UInt8} {N n : Nat} (hn : n = b.length) : ∀ (k : Nat) (c : Rs) (many : Nat) (r : List Rn), Rok n c → Rok n (lnF b l N k c many r).1
  | 0, _, _, _, h => h
  | k + 1, c, many, r, h => by
    rw [lnF]; split
    · exact h
    · exact lnF_ok hn k _ _ _ (by subst hn; exact h.ln)
theorem lnS_ok {b l : List UInt8} {N n : Nat} {s : Rs} (hn : n = b.length) (h : Rok n s) : Rok n (lnS b l N s) := by
  unfold lnS; rw [lnR_eq]; exact (lnF_ok hn _ _ _ _ h).fl _ _
theorem dyn_l (b : List UInt8) (n : Nat) (hn : n = b.length) (hN : n ≤ 1000000) (s : Rs) (hs : Rok n s) (kd le : Nat) (la : Bool) (g f h : Nat) (s1 s2 s3 s4 s5 s6 s7 s8 : Rs) (W t : List UInt8) (N : Nat) (o : List UInt8) (D : DyA b s g f h s1 s2 s3 s4 s5 s6 s7 s8 W t N o) (G : Nat) (eG : G = g + 257) (s9 s10 s11 s12 : Rs) (L1 L2 t1 t2 : List UInt8) (Bh : DyB G N o s8 s9 s10 s11 s12 L1 L2 t1 t2) : SpecH true Try.prog 50 [.ptr 0 0 0, .ptr 1 1 0] [⟨[.sl false n 1 (b.map dB), nD (s).p, nD (s).e], 70, false⟩, ⟨[u8D kd, bD la, nD le] ++ zeroC ++ zeroC, 28, false⟩] (.tup []) [⟨[.sl false n 1 (b.map dB), nD (s12).p, nD (s12).e], 70, false⟩, ⟨[u8D kd, bD la, nD le] ++ (c16 (cnt t1) ++ [.ref 2 2 0 (symsL t1).length 1]) ++ (c16 (cnt t2) ++ [.ref 3 3 0 (symsL t2).length 1]), 28, false⟩, ⟨(symsL t1).map nD, 3, true⟩, ⟨(symsL t2).map nD, 3, true⟩] := by
  obtain ⟨x1, z1, x2, z2, x3, z3, z4, z5, x5, x6, z6, z7, eN, x8, z8⟩ := D
  have hg : g < 32 := by rw [← x1]; exact tkN_lt b 5 s
  have hf : f < 32 := by rw [← x2]; exact tkN_lt b 5 s1
  have hh : h < 16 := by rw [← x3]; exact tkN_lt b 4 s2
  have r1 : Rok n s1 := by rw [← z1]; subst hn; exact hs.tk _
  have r2 : Rok n s2 := by rw [← z2]; subst hn; exact r1.tk _
  have r3 : Rok n s3 := by rw [← z3]; subst hn; exact r2.tk _
  have r4 : Rok n s4 := by rw [← z4]; exact r3.fl _ _
  have r5 : Rok n s5 := by rw [← z5]; subst hn; exact r4.rw _
  have r6 : Rok n s6 := by rw [← z6]; exact r5.fl _ _
  have r7 : Rok n s7 := by rw [← z7.h]; exact r6.fl _ _
  have hW : W.length = 19 := by rw [← x5]; exact rwL_len _ _ _
  have hT : canE t 15 = 0 := by rw [← x6]; exact okL_15 W (by decide)
  have hl : t.length ≤ 19 := by
    rw [← x6]
    by_cases q : canE W 7 = 0
    · rw [okL_y q]; omega
    · rw [okL_n q]; exact Nat.zero_le _
  have hWl : W = (W.drop 0).take 19 := by rw [List.drop_zero, List.take_of_length_le (by omega)]
  have r4i : ∀ i, Rok n (rwS b s4 i) := fun i => by subst hn; exact r4.rw i
  obtain ⟨h8, z9, y1, y2, z10, z11, z12, w1, w2⟩ := Bh
  have oN : o.length = N := by rw [← x8]; exact lnO_len (by rw [z8]; exact h8)
  have r8 : Rok n s8 := by rw [← z8]; exact lnS_ok hn r7
  have r9 : Rok n s9 := by rw [← z9.h]; exact r8.fl _ _
  have r10 : Rok n s10 := by rw [← z10.h]; exact r9.fl _ _
  have r11 : Rok n s11 := by rw [← z11]; exact r10.fl _ _
  have y3 : o.take (Int.toNat ((g : Int) + 257)) = L1 := by rw [y1, List.drop_zero, show Int.toNat ((g : Int) + 257) = G from by omega]
  have y1' : L1 = List.take (Int.toNat ((g : Int) + 257)) (List.drop 0 o) := y1.trans (td_eq (by omega) (by omega))
  have y2' : L2 = List.take (o.length - Int.toNat ((g : Int) + 257)) (List.drop (0 + Int.toNat ((g : Int) + 257) * 1) o) := y2.trans (td_eq (by omega) (by omega))
  refine SpecH.run T_ok mixed Try.func50 rfl rfl rfl ⟨rfl, rfl, cl_nD _, cl_nD _, trivial⟩ rfl 1000 64 (fun R ok => (.s 2 (.cl 46 true [0] (.fn q46 (@takeV_5 (b) (n) om om (s) om (g) (s1) asm asm)) (.s 2 (.ow ((↑g : Int) + 257) (.s 2 (.cl 46 true [0] (.fn q46 (@takeV_5 (b) (n) om om (s1) om (f) (s2) asm asm)) (.s 2 (.ow ((↑f : Int) + 1) (.s 2 (.cl 46 true [0] (.fn q46 (@takeV_4 (b) (n) om om (s2) om (h) (s3) asm asm)) (.s 2 (.ow ((↑h : Int) + 4) (.s 9 (.br (decide ((↑g : Int) + 257 ≤ 286)) (fun p0 => have p0f := odt p0; (.s 5 (.cl 47 true [0] (.fn q47 (@fail_t (b) (n) om om (s3) (decide ((↑f : Int) + 1 ≤ 30)) (132) om)) (.s 4 (.cl 81 false [] (.fn q81 (@Order_t)) (.s 7 (.chk (bndOk none (some ((↑h : Int) + 4)) none 19 && true && true && true) (by (simp <;> (omega))) (.s 2 (.blk 0 0 (Blk.mk [D.sl false n 1 (List.map dB b), nD (Rs.p (fl s3 (decide ((↑f : Int) + 1 ≤ 30)) 132)), nD (Rs.e (fl s3 (decide ((↑f : Int) + 1 ≤ 30)) 132))] 70 false) (Blk.mk [D.sl false n 1 (List.map dB b), nD (Rs.p (rwS b s4 0)), nD (Rs.e (rwS b s4 0))] 70 false) zc0 (Hn.inl T_ok mixed false 95 2 (loopAt Try.prog 50 0) (fun (x : (i : Nat) ×' (hi : i ≤ h + 4) ×' Unit) => match x with | ⟨i, hi, _⟩ => CutS.mk [(0, D.ptr 0 0 0), (1, D.ptr 1 1 0), (4, iD ((↑g : Int) + 257)), (5, iD ((↑f : Int) + 1)), (7, D.ref 24 24 0 19 1), (33, D.ref 32 32 0 (Int.toNat ((↑h : Int) + 4)) 1), (34, nD (Int.toNat ((↑h : Int) + 4))), (35, nD i)] [⟨0, 0, 0, 0, .b ⟨[.sl false n 1 (b.map dB), nD (rwS b s4 i).p, nD (rwS b s4 i).e], 70, false⟩⟩, ⟨1, 1, 1, 1, .b ⟨[D.v (Value.int .u8 (↑kd : Int)), D.v (.bool la), nD le, iD 0, iD 0, iD 0, iD 0, iD 0, iD 0, iD 0, iD 0, iD 0, iD 0, iD 0, iD 0, iD 0, iD 0, iD 0, iD 0, nilD, iD 0, iD 0, iD 0, iD 0, iD 0, iD 0, iD 0, iD 0, iD 0, iD 0, iD 0, iD 0, iD 0, iD 0, iD 0, iD 0, nilD], 28, false⟩⟩, ⟨24, 24, 162, 162, .b ⟨(rwL b s4 i).map dB, 5, true⟩⟩, ⟨32, 32, 186, 186, .b ⟨[iD 16, iD 17, iD 18, iD 0, iD 8, iD 7, iD 9, iD 6, iD 10, iD 5, iD 11, iD 4, iD 12, iD 3, iD 13, iD 2, iD 14, iD 1, iD 15], 142, false⟩⟩] 40) (fun (x : (i : Nat) ×' (hi : i ≤ h + 4) ×' Unit) => match x with | ⟨i, hi, _⟩ => h + 4 - i) [⟨Unit, .exit 0, fun x => match x with | () => CutS.mk [(0, D.ptr 0 0 0), (1, D.ptr 1 1 0), (4, iD ((↑g : Int) + 257)), (5, iD ((↑f : Int) + 1)), (7, D.ref 24 24 0 19 1), (33, D.ref 32 32 0 (Int.toNat ((↑h : Int) + 4)) 1), (34, nD (Int.toNat ((↑h : Int) + 4)))] [⟨0, 0, 0, 0, .b ⟨[.sl false n 1 (b.map dB), nD (s5).p, nD (s5).e], 70, false⟩⟩, ⟨1, 1, 1, 1, .b ⟨[D.v (Value.int .u8 (↑kd : Int)), D.v (.bool la), nD le, iD 0, iD 0, iD 0, iD 0, iD 0, iD 0, iD 0, iD 0, iD 0, iD 0, iD 0, iD 0, iD 0, iD 0, iD 0, iD 0, nilD, iD 0, iD 0, iD 0, iD 0, iD 0, iD 0, iD 0, iD 0, iD 0, iD 0, iD 0, iD 0, iD 0, iD 0, iD 0, iD 0, nilD], 28, false⟩⟩, ⟨24, 24, 162, 162, .b ⟨W.map dB, 5, true⟩⟩, ⟨32, 32, 186, 186, .b ⟨[iD 16, iD 17, iD 18, iD 0, iD 8, iD 7, iD 9, iD 6, iD 10, iD 5, iD 11, iD 4, iD 12, iD 3, iD 13, iD 2, iD 14, iD 1, iD 15], 142, false⟩⟩] 40⟩] 1000 64 (fun | ⟨i, hi, _⟩, Q, next1, last1 => (.s 2 (.br (decide ((↑i : Int) < (↑(Int.toNat ((↑h : Int) + 4)) : Int))) (fun p1 => have p1f := odt p1; (.s 1 (.chk (true && decide ((↑i : Int) < (↑(Int.toNat ((↑h : Int) + 4)) : Int))) asm (.s 2 (.opt ((List.map nD ordL)[0 + i * 1]?) (nD (ordN i)) (@ord_z i om) (.s 5 (.cl 46 true [0] (.fn q46 (@take_t (b) (n) om om (rwS b s4 i) (by (exact r4i _)) (3) om)) (.s 1 (.opt (wrapO .u8 (↑(tkN b 3 (rwS b s4 i)) : Int)) (D.v (Value.int .u8 (↑(tkN b 3 (rwS b s4 i)) : Int))) (wrapO_u8 zc1) (.s 1 (.chk (true && decide ((↑(ordN i) : Int) < (↑19 : Int))) zc2 (.s 1 (.chk (true && Nat.ble (0 + ordN i * 1 + 1) (List.length (List.map dB (rwL b s4 i)))) zc3 (.lst (setSeg (List.map dB (rwL b s4 i)) (0 + ordN i * 1) [D.v (Value.int .u8 (↑(tkN b 3 (rwS b s4 i)) : Int))]) (setSeg (List.map dB (rwL b s4 i)) (ordN i) [D.v (Value.int .u8 (↑(tkN b 3 (rwS b s4 i)) : Int))]) (by (simp; done)) (.s 2 (.ow ((↑i : Int) + 1) (.s 1 (.val 35 (iD ((↑i : Int) + 1)) (nD (i + 1)) zc4 (.blk 0 0 (Blk.mk [D.sl false n 1 (List.map dB b), nD (Rs.p (tkS b 3 (rwS b s4 i))), nD (Rs.e (tkS b 3 (rwS b s4 i)))] 70 false) (Blk.mk [D.sl false n 1 (List.map dB b), nD (Rs.p (rwS b s4 (i + 1))), nD (Rs.e (rwS b s4 (i + 1)))] 70 false) (by exact rfl) (.blk 24 24 (Blk.mk (setSeg (List.map dB (rwL b s4 i)) (ordN i) [D.v (Value.int .u8 (↑(tkN b 3 (rwS b s4 i)) : Int))]) 5 true) (Blk.mk (List.map dB (rwL b s4 (i + 1))) 5 true) zc5 (Hn.next next1 ⟨(i + 1), om, ⟨⟩⟩ zc6 [(0, 0), (1, 1), (24, 24), (32, 32)] ro))))))))))))))))))))) (fun p1 => have p1f := odf p1; (.blk 0 0 (Blk.mk [D.sl false n 1 (List.map dB b), nD (Rs.p (rwS b s4 i)), nD (Rs.e (rwS b s4 i))] 70 false) (Blk.mk [D.sl false n 1 (List.map dB b), nD (Rs.p s5), nD (Rs.e s5)] 70 false) zc7 (.blk 24 24 (Blk.mk (List.map dB (rwL b s4 i)) 5 true) (Blk.mk (List.map dB W) 5 true) zc8 (Hn.last last1 0 (() : Unit) rfl [(0, 0), (1, 1), (24, 24), (32, 32)] ro))))))) (fun | ⟨i, hi, _⟩ => by kernel_rfl) ⟨(0), om, ⟨⟩⟩ [(0, 0), (1, 1), (162, 162), (186, 186)] ro (hs1 (fun | () => (.s 3 (.call 49 true [0, 24] (true) wr ([D.ptr 0 0 0, D.ref 1 1 0 19 1, iD 7]) _ (simL.refl _) (true && (closedL (List.map dB W) && true)) (by (simp; done)) _ _ _ (CallOk.fn (FnOk.of Try.func49 rfl rfl) (@growV_7 (b) (n) om om (s5) om (W) (0) (19) om om (W) asm (t) (s6) asm asm)) (.s 16 (.cl 47 true [0] (.fn q47 (@failV_132 (b) (n) om om (s6) (decide (1 < (↑(List.length (symsL t)) : Int))) (s7) asm)) (.s 9 (.ow ((↑g : Int) + 257 + ((↑f : Int) + 1)) (.s 1 (.call 82 true [0, 56] (true) wr ([D.ptr 0 0 0, D.agg [nD (cnt t 0), nD (cnt t 1), nD (cnt t 2), nD (cnt t 3), nD (cnt t 4), nD (cnt t 5), nD (cnt t 6), nD (cnt t 7), nD (cnt t 8), nD (cnt t 9), nD (cnt t 10), nD (cnt t 11), nD (cnt t 12), nD (cnt t 13), nD (cnt t 14), nD (cnt t 15), D.ref 1 1 0 (List.length (symsL t)) 1], iD ((↑g : Int) + 257 + ((↑f : Int) + 1))]) _ zc9 (true && (closedL (List.map nD (symsL t)) && true)) (by (simp; done)) _ _ _ (CallOk.fn (FnOk.of Try.func82 rfl rfl) (@lenV (b) (n) om om (s7) om (t) om om (N) ((↑g : Int) + 257 + ((↑f : Int) + 1)) (o) (s8) asm asm om om)) (.s 11 (.f ((↑(Rs.e s8) : Int) != 0) (by (simp <;> (omega))) (.s 3 (.chk (true && decide (256 < (↑(List.length o) : Int))) (by (refine decide_eq_true ?_; (omega))) (.s 2 (.opt ((List.map dB o)[256]?) (dB (List.getD o 256 default)) (map_get _ _ om) (.s 3 (.cl 47 true [0] (.fn q47 (@failV_132 (b) (n) om om (s8) (decide (0 < (↑(UInt8.toNat (List.getD o 256 default)) : Int))) (s9) asm)) (.s 4 (.chk (bndOk none (some ((↑g : Int) + 257)) none (List.length o) && true) (by (simp <;> (omega))) (.s 1 (.call 83 false [] (true && (true && Nat.ble (0 + Int.toNat ((↑g : Int) + 257) * 1) (List.length (List.map dB o)) && true && closedL (bif true && Nat.beq (Int.toNat ((↑g : Int) + 257) * 1) (List.length (List.map dB o)) then List.map dB o else List.take (Int.toNat ((↑g : Int) + 257) * 1) (List.drop 0 (List.map dB o)))) && true) (by (simp <;> (omega))) ([D.sl true (Int.toNat ((↑g : Int) + 257)) 1 (bif true && Nat.beq (Int.toNat ((↑g : Int) + 257) * 1) (List.length (List.map dB o)) then List.map dB o else List.take (Int.toNat ((↑g : Int) + 257) * 1) (List.drop 0 (List.map dB o))), iD 15]) _ zc10 (true) wr _ _ _ (CallOk.fn (FnOk.of Try.func83 rfl rfl) (@canEV (List.take (Int.toNat ((↑g : Int) + 257)) o) (Int.toNat ((↑g : Int) + 257)) (by (simp <;> (omega))) om (L1) asm)) (.s 3 (.cl 47 true [0] (.fn q47 (@failV_132 (b) (n) om om (s9) ((↑(canE L1 15) : Int) == 0) (s10) asm)) (.s 7 (.chk (bndOk none (some ((↑g : Int) + 257)) none (List.length o) && true) (by (simp <;> (omega))) (.s 1 (.call 49 true [0, 168] (true) wr ([D.ptr 0 0 0, D.ref 1 1 0 (Int.toNat ((↑g : Int) + 257)) 1, iD 15]) _ (simL.refl _) (true && (closedL (List.map dB o) && true)) (by (simp; done)) _ _ _ (CallOk.fn (FnOk.of Try.func49 rfl rfl) (@growV_15 (b) (n) om om (s10) om (o) (0) (Int.toNat ((↑g : Int) + 257)) om om (L1) asm (t1) (s11) asm asm)) (.s 4 (.chk (bndOk (some ((↑g : Int) + 257)) none none (List.length o) && true) (by (simp <;> (omega))) (.s 1 (.call 49 true [0, 168] (true) wr ([D.ptr 0 0 0, D.ref 1 1 (0 + Int.toNat ((↑g : Int) + 257) * 1) (List.length o - Int.toNat ((↑g : Int) + 257)) 1, iD 15]) _ (simL.refl _) (true && (closedL (List.map dB o) && true)) (by (simp; done)) _ _ _ (CallOk.fn (FnOk.of Try.func49 rfl rfl) (@growV_15 (b) (n) om om (s11) om (o) (0 + Int.toNat ((↑g : Int) + 257) * 1) (List.length o - Int.toNat ((↑g : Int) + 257)) om om (L2) asm (t2) (s12) asm asm)) (.s 14 (.out [0, 1, 376, 416] [0, 1, 376, 416] (D.tup []) [Blk.mk [D.sl false n 1 (List.map dB b), nD (Rs.p s12), nD (Rs.e s12)] 70 false, Blk.mk [D.v (Value.int .u8 (↑kd : Int)), D.v (.bool la), nD le, nD (cnt t1 0), nD (cnt t1 1), nD (cnt t1 2), nD (cnt t1 3), nD (cnt t1 4), nD (cnt t1 5), nD (cnt t1 6), nD (cnt t1 7), nD (cnt t1 8), nD (cnt t1 9), nD (cnt t1 10), nD (cnt t1 11), nD (cnt t1 12), nD (cnt t1 13), nD (cnt t1 14), nD (cnt t1 15), D.ref 2 2 0 (List.length (symsL t1)) 1, nD (cnt t2 0), nD (cnt t2 1), nD (cnt t2 2), nD (cnt t2 3), nD (cnt t2 4), nD (cnt t2 5), nD (cnt t2 6), nD (cnt t2 7), nD (cnt t2 8), nD (cnt t2 9), nD (cnt t2 10), nD (cnt t2 11), nD (cnt t2 12), nD (cnt t2 13), nD (cnt t2 14), nD (cnt t2 15), D.ref 3 3 0 (List.length (symsL t2)) 1] 28 false, Blk.mk (List.map nD (symsL t1)) 3 true, Blk.mk (List.map nD (symsL t2)) 3 true] R (ok _ _ wr (by exact rfl)))))))))))))))))))))))))))))))))))))))))))))) (fun p0 => have p0f := odf p0; (.s 4 (.cl 47 true [0] (.fn q47 (@fail_t (b) (n) om om (s3) (false) (132) om)) (.s 4 (.cl 81 false [] (.fn q81 (@Order_t)) (.s 7 (.chk (bndOk none (some ((↑h : Int) + 4)) none 19 && true && true && true) (by (simp <;> (omega))) (.s 2 (.blk 0 0 (Blk.mk [D.sl false n 1 (List.map dB b), nD (Rs.p (fl s3 false 132)), nD (Rs.e (fl s3 false 132))] 70 false) (Blk.mk [D.sl false n 1 (List.map dB b), nD (Rs.p (rwS b s4 0)), nD (Rs.e (rwS b s4 0))] 70 false) zc0 (Hn.inl T_ok mixed false 95 2 (loopAt Try.prog 50 0) (fun (x : (i : Nat) ×' (hi : i ≤ h + 4) ×' Unit) => match x with | ⟨i, hi, _⟩ => CutS.mk [(0, D.ptr 0 0 0), (1, D.ptr 1 1 0), (4, iD ((↑g : Int) + 257)), (5, iD ((↑f : Int) + 1)), (7, D.ref 24 24 0 19 1), (33, D.ref 32 32 0 (Int.toNat ((↑h : Int) + 4)) 1), (34, nD (Int.toNat ((↑h : Int) + 4))), (35, nD i)] [⟨0, 0, 0, 0, .b ⟨[.sl false n 1 (b.map dB), nD (rwS b s4 i).p, nD (rwS b s4 i).e], 70, false⟩⟩, ⟨1, 1, 1, 1, .b ⟨[D.v (Value.int .u8 (↑kd : Int)), D.v (.bool la), nD le, iD 0, iD 0, iD 0, iD 0, iD 0, iD 0, iD 0, iD 0, iD 0, iD 0, iD 0, iD 0, iD 0, iD 0, iD 0, iD 0, nilD, iD 0, iD 0, iD 0, iD 0, iD 0, iD 0, iD 0, iD 0, iD 0, iD 0, iD 0, iD 0, iD 0, iD 0, iD 0, iD 0, nilD], 28, false⟩⟩, ⟨24, 24, 162, 162, .b ⟨(rwL b s4 i).map dB, 5, true⟩⟩, ⟨32, 32, 186, 186, .b ⟨[iD 16, iD 17, iD 18, iD 0, iD 8, iD 7, iD 9, iD 6, iD 10, iD 5, iD 11, iD 4, iD 12, iD 3, iD 13, iD 2, iD 14, iD 1, iD 15], 142, false⟩⟩] 40) (fun (x : (i : Nat) ×' (hi : i ≤ h + 4) ×' Unit) => match x with | ⟨i, hi, _⟩ => h + 4 - i) [⟨Unit, .exit 0, fun x => match x with | () => CutS.mk [(0, D.ptr 0 0 0), (1, D.ptr 1 1 0), (4, iD ((↑g : Int) + 257)), (5, iD ((↑f : Int) + 1)), (7, D.ref 24 24 0 19 1), (33, D.ref 32 32 0 (Int.toNat ((↑h : Int) + 4)) 1), (34, nD (Int.toNat ((↑h : Int) + 4)))] [⟨0, 0, 0, 0, .b ⟨[.sl false n 1 (b.map dB), nD (s5).p, nD (s5).e], 70, false⟩⟩, ⟨1, 1, 1, 1, .b ⟨[D.v (Value.int .u8 (↑kd : Int)), D.v (.bool la), nD le, iD 0, iD 0, iD 0, iD 0, iD 0, iD 0, iD 0, iD 0, iD 0, iD 0, iD 0, iD 0, iD 0, iD 0, iD 0, iD 0, nilD, iD 0, iD 0, iD 0, iD 0, iD 0, iD 0, iD 0, iD 0, iD 0, iD 0, iD 0, iD 0, iD 0, iD 0, iD 0, iD 0, nilD], 28, false⟩⟩, ⟨24, 24, 162, 162, .b ⟨W.map dB, 5, true⟩⟩, ⟨32, 32, 186, 186, .b ⟨[iD 16, iD 17, iD 18, iD 0, iD 8, iD 7, iD 9, iD 6, iD 10, iD 5, iD 11, iD 4, iD 12, iD 3, iD 13, iD 2, iD 14, iD 1, iD 15], 142, false⟩⟩] 40⟩] 1000 64 (fun | ⟨i, hi, _⟩, Q, next1, last1 => (.s 2 (.br (decide ((↑i : Int) < (↑(Int.toNat ((↑h : Int) + 4)) : Int))) (fun p2 => have p2f := odt p2; (.s 1 (.chk (true && decide ((↑i : Int) < (↑(Int.toNat ((↑h : Int) + 4)) : Int))) asm (.s 2 (.opt ((List.map nD ordL)[0 + i * 1]?) (nD (ordN i)) (@ord_z i om) (.s 5 (.cl 46 true [0] (.fn q46 (@take_t (b) (n) om om (rwS b s4 i) (by (exact r4i _)) (3) om)) (.s 1 (.opt (wrapO .u8 (↑(tkN b 3 (rwS b s4 i)) : Int)) (D.v (Value.int .u8 (↑(tkN b 3 (rwS b s4 i)) : Int))) (wrapO_u8 zc1) (.s 1 (.chk (true && decide ((↑(ordN i) : Int) < (↑19 : Int))) zc2 (.s 1 (.chk (true && Nat.ble (0 + ordN i * 1 + 1) (List.length (List.map dB (rwL b s4 i)))) zc3 (.lst (setSeg (List.map dB (rwL b s4 i)) (0 + ordN i * 1) [D.v (Value.int .u8 (↑(tkN b 3 (rwS b s4 i)) : Int))]) (setSeg (List.map dB (rwL b s4 i)) (ordN i) [D.v (Value.int .u8 (↑(tkN b 3 (rwS b s4 i)) : Int))]) (by (simp; done)) (.s 2 (.ow ((↑i : Int) + 1) (.s 1 (.val 35 (iD ((↑i : Int) + 1)) (nD (i + 1)) zc4 (.blk 0 0 (Blk.mk [D.sl false n 1 (List.map dB b), nD (Rs.p (tkS b 3 (rwS b s4 i))), nD (Rs.e (tkS b 3 (rwS b s4 i)))] 70 false) (Blk.mk [D.sl false n 1 (List.map dB b), nD (Rs.p (rwS b s4 (i + 1))), nD (Rs.e (rwS b s4 (i + 1)))] 70 false) (by exact rfl) (.blk 24 24 (Blk.mk (setSeg (List.map dB (rwL b s4 i)) (ordN i) [D.v (Value.int .u8 (↑(tkN b 3 (rwS b s4 i)) : Int))]) 5 true) (Blk.mk (List.map dB (rwL b s4 (i + 1))) 5 true) zc5 (Hn.next next1 ⟨(i + 1), om, ⟨⟩⟩ zc6 [(0, 0), (1, 1), (24, 24), (32, 32)] ro))))))))))))))))))))) (fun p2 => have p2f := odf p2; (.blk 0 0 (Blk.mk [D.sl false n 1 (List.map dB b), nD (Rs.p (rwS b s4 i)), nD (Rs.e (rwS b s4 i))] 70 false) (Blk.mk [D.sl false n 1 (List.map dB b), nD (Rs.p s5), nD (Rs.e s5)] 70 false) zc7 (.blk 24 24 (Blk.mk (List.map dB (rwL b s4 i)) 5 true) (Blk.mk (List.map dB W) 5 true) zc8 (Hn.last last1 0 (() : Unit) rfl [(0, 0), (1, 1), (24, 24), (32, 32)] ro))))))) (fun | ⟨i, hi, _⟩ => by kernel_rfl) ⟨(0), om, ⟨⟩⟩ [(0, 0), (1, 1), (162, 162), (186, 186)] ro (hs1 (fun | () => (.s 3 (.call 49 true [0, 24] (true) wr ([D.ptr 0 0 0, D.ref 1 1 0 19 1, iD 7]) _ (simL.refl _) (true && (closedL (List.map dB W) && true)) (by (simp; done)) _ _ _ (CallOk.fn (FnOk.of Try.func49 rfl rfl) (@growV_7 (b) (n) om om (s5) om (W) (0) (19) om om (W) asm (t) (s6) asm asm)) (.s 16 (.cl 47 true [0] (.fn q47 (@failV_132 (b) (n) om om (s6) (decide (1 < (↑(List.length (symsL t)) : Int))) (s7) asm)) (.s 9 (.ow ((↑g : Int) + 257 + ((↑f : Int) + 1)) (.s 1 (.call 82 true [0, 56] (true) wr ([D.ptr 0 0 0, D.agg [nD (cnt t 0), nD (cnt t 1), nD (cnt t 2), nD (cnt t 3), nD (cnt t 4), nD (cnt t 5), nD (cnt t 6), nD (cnt t 7), nD (cnt t 8), nD (cnt t 9), nD (cnt t 10), nD (cnt t 11), nD (cnt t 12), nD (cnt t 13), nD (cnt t 14), nD (cnt t 15), D.ref 1 1 0 (List.length (symsL t)) 1], iD ((↑g : Int) + 257 + ((↑f : Int) + 1))]) _ zc9 (true && (closedL (List.map nD (symsL t)) && true)) (by (simp; done)) _ _ _ (CallOk.fn (FnOk.of Try.func82 rfl rfl) (@lenV (b) (n) om om (s7) om (t) om om (N) ((↑g : Int) + 257 + ((↑f : Int) + 1)) (o) (s8) asm asm om om)) (.s 11 (.f ((↑(Rs.e s8) : Int) != 0) (by (simp <;> (omega))) (.s 3 (.chk (true && decide (256 < (↑(List.length o) : Int))) (by (refine decide_eq_true ?_; (omega))) (.s 2 (.opt ((List.map dB o)[256]?) (dB (List.getD o 256 default)) (map_get _ _ om) (.s 3 (.cl 47 true [0] (.fn q47 (@failV_132 (b) (n) om om (s8) (decide (0 < (↑(UInt8.toNat (List.getD o 256 default)) : Int))) (s9) asm)) (.s 4 (.chk (bndOk none (some ((↑g : Int) + 257)) none (List.length o) && true) (by (simp <;> (omega))) (.s 1 (.call 83 false [] (true && (true && Nat.ble (0 + Int.toNat ((↑g : Int) + 257) * 1) (List.length (List.map dB o)) && true && closedL (bif true && Nat.beq (Int.toNat ((↑g : Int) + 257) * 1) (List.length (List.map dB o)) then List.map dB o else List.take (Int.toNat ((↑g : Int) + 257) * 1) (List.drop 0 (List.map dB o)))) && true) (by (simp <;> (omega))) ([D.sl true (Int.toNat ((↑g : Int) + 257)) 1 (bif true && Nat.beq (Int.toNat ((↑g : Int) + 257) * 1) (List.length (List.map dB o)) then List.map dB o else List.take (Int.toNat ((↑g : Int) + 257) * 1) (List.drop 0 (List.map dB o))), iD 15]) _ zc10 (true) wr _ _ _ (CallOk.fn (FnOk.of Try.func83 rfl rfl) (@canEV (List.take (Int.toNat ((↑g : Int) + 257)) o) (Int.toNat ((↑g : Int) + 257)) (by (simp <;> (omega))) om (L1) asm)) (.s 3 (.cl 47 true [0] (.fn q47 (@failV_132 (b) (n) om om (s9) ((↑(canE L1 15) : Int) == 0) (s10) asm)) (.s 7 (.chk (bndOk none (some ((↑g : Int) + 257)) none (List.length o) && true) (by (simp <;> (omega))) (.s 1 (.call 49 true [0, 168] (true) wr ([D.ptr 0 0 0, D.ref 1 1 0 (Int.toNat ((↑g : Int) + 257)) 1, iD 15]) _ (simL.refl _) (true && (closedL (List.map dB o) && true)) (by (simp; done)) _ _ _ (CallOk.fn (FnOk.of Try.func49 rfl rfl) (@growV_15 (b) (n) om om (s10) om (o) (0) (Int.toNat ((↑g : Int) + 257)) om om (L1) asm (t1) (s11) asm asm)) (.s 4 (.chk (bndOk (some ((↑g : Int) + 257)) none none (List.length o) && true) (by (simp <;> (omega))) (.s 1 (.call 49 true [0, 168] (true) wr ([D.ptr 0 0 0, D.ref 1 1 (0 + Int.toNat ((↑g : Int) + 257) * 1) (List.length o - Int.toNat ((↑g : Int) + 257)) 1, iD 15]) _ (simL.refl _) (true && (closedL (List.map dB o) && true)) (by (simp; done)) _ _ _ (CallOk.fn (FnOk.of Try.func49 rfl rfl) (@growV_15 (b) (n) om om (s11) om (o) (0 + Int.toNat ((↑g : Int) + 257) * 1) (List.length o - Int.toNat ((↑g : Int) + 257)) om om (L2) asm (t2) (s12) asm asm)) (.s 14 (.out [0, 1, 376, 416] [0, 1, 376, 416] (D.tup []) [Blk.mk [D.sl false n 1 (List.map dB b), nD (Rs.p s12), nD (Rs.e s12)] 70 false, Blk.mk [D.v (Value.int .u8 (↑kd : Int)), D.v (.bool la), nD le, nD (cnt t1 0), nD (cnt t1 1), nD (cnt t1 2), nD (cnt t1 3), nD (cnt t1 4), nD (cnt t1 5), nD (cnt t1 6), nD (cnt t1 7), nD (cnt t1 8), nD (cnt t1 9), nD (cnt t1 10), nD (cnt t1 11), nD (cnt t1 12), nD (cnt t1 13), nD (cnt t1 14), nD (cnt t1 15), D.ref 2 2 0 (List.length (symsL t1)) 1, nD (cnt t2 0), nD (cnt t2 1), nD (cnt t2 2), nD (cnt t2 3), nD (cnt t2 4), nD (cnt t2 5), nD (cnt t2 6), nD (cnt t2 7), nD (cnt t2 8), nD (cnt t2 9), nD (cnt t2 10), nD (cnt t2 11), nD (cnt t2 12), nD (cnt t2 13), nD (cnt t2 14), nD (cnt t2 15), D.ref 3 3 0 (List.length (symsL t2)) 1] 28 false, Blk.mk (List.map nD (symsL t1)) 3 true, Blk.mk (List.map nD (symsL t2)) 3 true] R (ok _ _ wr (by exact rfl))))))))))))))))))))))))))))))))))))))))))))))))))))))))))))) (by kernel_rfl)
end Vp
end Go.Proofs.Ytegjeagfcfhbeaa
namespace Go.Proofs.Ytegjeagfcfhbeaa
open Go.RowKit Go.Bw Go.Vx
namespace Vp
set_option linter.unusedVariables false
set_option linter.unusedSimpArgs false
set_option maxRecDepth 100000
set_option maxHeartbeats 4000000
theorem zd0 {p : Prop} (h : p := by (refine decide_eq_false ?_; (omega))) : p := h
structure PlE (s : Rs) (p : Int) (z : Rs) : Prop where
  h : p = z.p
  e : s.e = 0
  e2 : z.e = 0
theorem takeP_16 (b : List UInt8) (n : Nat) (hn : n = b.length) (hN : n ≤ 1000000) (s : Rs) (p : Int) (z : Rs) (hp : PlE s p z) (hz : Rok n z) (x : Nat) (y : Rs) (hx : tkN b 16 z = x) (hy : tkS b 16 z = y) : SpecH true Try.prog 46 [.ptr 0 0 0, iD 16] [⟨[.sl false n 1 (b.map dB), iD p, nD s.e], 70, false⟩] (nD x) [⟨[.sl false n 1 (b.map dB), nD (y).p, nD (y).e], 70, false⟩] := by
  have h1 := takeV_16 b n hn hN z hz x y hx hy
  have e : s.e = z.e := by rw [hp.e, hp.e2]
  rw [hp.h, e]; exact h1
theorem head_e (b : List UInt8) (n : Nat) (hn : n = b.length) (hN : n ≤ 1000000) (s : Rs) (hs : Rok n s) (a kd : Nat) (s1 s2 s3 : Rs) (x1 : tkN b 1 s = a) (z1 : tkS b 1 s = s1) (x2 : tkN b 2 s1 = kd) (z2 : tkS b 2 s1 = s2) (z3 : FlE s2 (decide ((kd : Int) ≤ 2)) 130 s3) (h3 : s3.e ≠ 0) : SpecH true Try.prog 27 [.ptr 0 0 0] [⟨[.sl false n 1 (b.map dB), nD (s).p, nD (s).e], 70, false⟩] (.agg ([u8D kd, bD (((a : Nat) : Int) == 1), iD 0] ++ zeroC ++ zeroC)) [⟨[.sl false n 1 (b.map dB), nD (s3).p, nD (s3).e], 70, false⟩] := by
  have ha : a < 2 := by rw [← x1]; exact tkN_lt b 1 s
  have hk : kd < 4 := by rw [← x2]; exact tkN_lt b 2 s1
  have r1 : Rok n s1 := by rw [← z1]; subst hn; exact hs.tk _
  have r2 : Rok n s2 := by rw [← z2]; subst hn; exact r1.tk _
  have r3 : Rok n s3 := by rw [← z3.h]; exact r2.fl _ _
  refine SpecH.run T_ok mixed Try.func27 rfl rfl rfl ⟨rfl, trivial⟩ rfl 1000 64 (fun R ok => (.s 4 (.cl 46 true [0] (.fn q46 (@takeV_1 (b) (n) om om (s) om (a) (s1) asm asm)) (.s 10 (.cl 46 true [0] (.fn q46 (@takeV_2 (b) (n) om om (s1) om (kd) (s2) asm asm)) (.s 1 (.opt (wrapO .u8 (↑kd : Int)) (D.v (Value.int .u8 (↑kd : Int))) (wrapO_u8 om) (.s 16 (.cl 47 true [0] (.fn q47 (@failV_130 (b) (n) om om (s2) (decide ((↑kd : Int) ≤ 2)) (s3) asm)) (.s 11 (.t ((↑(Rs.e s3) : Int) != 0) (by (simp <;> (omega))) (.s 10 (.out [0] [0] (D.agg [D.v (Value.int .u8 (↑kd : Int)), D.v (.bool ((↑a : Int) == 1)), iD 0, iD 0, iD 0, iD 0, iD 0, iD 0, iD 0, iD 0, iD 0, iD 0, iD 0, iD 0, iD 0, iD 0, iD 0, iD 0, iD 0, nilD, iD 0, iD 0, iD 0, iD 0, iD 0, iD 0, iD 0, iD 0, iD 0, iD 0, iD 0, iD 0, iD 0, iD 0, iD 0, iD 0, nilD]) [Blk.mk [D.sl false n 1 (List.map dB b), nD (Rs.p s3), nD (Rs.e s3)] 70 false] R (ok _ _ (by exact rfl) wr)))))))))))))) (by kernel_rfl)
theorem head_s (b : List UInt8) (n : Nat) (hn : n = b.length) (hN : n ≤ 1000000) (s : Rs) (hs : Rok n s) (a kd : Nat) (s1 s2 s3 : Rs) (x1 : tkN b 1 s = a) (z1 : tkS b 1 s = s1) (x2 : tkN b 2 s1 = kd) (z2 : tkS b 2 s1 = s2) (z3 : FlE s2 (decide ((kd : Int) ≤ 2)) 130 s3) (h3 : s3.e = 0) (h0 : kd = 0) (s4 s5 s6 s7 : Rs) (le ag : Nat) (hp2 : PlE s3 ((((s3.p : Nat) : Int) + 7) / 8 * 8) s4) (x4 : tkN b 16 s4 = le) (z4 : tkS b 16 s4 = s5) (x5 : tkN b 16 s5 = ag) (z5 : tkS b 16 s5 = s6) (z6 : FlE s6 (((le : Nat) : Int) + ((ag : Nat) : Int) == 65535) 131 s7) : SpecH true Try.prog 27 [.ptr 0 0 0] [⟨[.sl false n 1 (b.map dB), nD (s).p, nD (s).e], 70, false⟩] (.agg ([u8D kd, bD (((a : Nat) : Int) == 1), nD le] ++ zeroC ++ zeroC)) [⟨[.sl false n 1 (b.map dB), nD (s7).p, nD (s7).e], 70, false⟩] := by
  have ha : a < 2 := by rw [← x1]; exact tkN_lt b 1 s
  have hk : kd < 4 := by rw [← x2]; exact tkN_lt b 2 s1
  have r1 : Rok n s1 := by rw [← z1]; subst hn; exact hs.tk _
  have r2 : Rok n s2 := by rw [← z2]; subst hn; exact r1.tk _
  have r3 : Rok n s3 := by rw [← z3.h]; exact r2.fl _ _
  have hle : le < 65536 := by rw [← x4]; exact tkN_lt b 16 s4
  have hag : ag < 65536 := by rw [← x5]; exact tkN_lt b 16 s5
  have ho3 : s3.p ≤ 8 * n := r3 h3
  have hp3 := hp2.h
  have r4 : Rok n s4 := fun _ => by omega
  have r5 : Rok n s5 := by rw [← z4]; subst hn; exact r4.tk _
  have r6 : Rok n s6 := by rw [← z5]; subst hn; exact r5.tk _
  refine SpecH.run T_ok mixed Try.func27 rfl rfl rfl ⟨rfl, trivial⟩ rfl 1000 64 (fun R ok => (.s 4 (.cl 46 true [0] (.fn q46 (@takeV_1 (b) (n) om om (s) om (a) (s1) asm asm)) (.s 10 (.cl 46 true [0] (.fn q46 (@takeV_2 (b) (n) om om (s1) om (kd) (s2) asm asm)) (.s 1 (.opt (wrapO .u8 (↑kd : Int)) (D.v (Value.int .u8 (↑kd : Int))) (wrapO_u8 om) (.s 16 (.cl 47 true [0] (.fn q47 (@failV_130 (b) (n) om om (s2) (decide ((↑kd : Int) ≤ 2)) (s3) asm)) (.s 11 (.f ((↑(Rs.e s3) : Int) != 0) (by (simp <;> (omega))) (.s 9 (.t ((↑kd : Int) == 0) (by (refine decide_eq_true ?_; (omega))) (.s 11 (.ow ((↑(Rs.p s3) : Int) + 7) (.s 2 (.opt (bitO IntKind.i64 (IntKind.wrap IntKind.i64 (Int.tdiv ((↑(Rs.p s3) : Int) + 7) 8))) (iD (((↑(Rs.p s3) : Int) + 7) / 8)) (bitO_of (@bx_quo_i64  ((↑(Rs.p s3) : Int) + 7) (8) om om)) (.s 2 (.ow (((↑(Rs.p s3) : Int) + 7) / 8 * 8) (.s 9 (.cl 46 true [0] (.fn q46 (@takeP_16 (b) (n) om om (s3) (((↑(Rs.p s3) : Int) + 7) / 8 * 8) (s4) asm om (le) (s5) asm asm)) (.s 8 (.cl 46 true [0] (.fn q46 (@takeV_16 (b) (n) om om (s5) om (ag) (s6) asm asm)) (.s 11 (.ow ((↑le : Int) + (↑ag : Int)) (.s 3 (.cl 47 true [0] (.fn q47 (@failV_131 (b) (n) om om (s6) ((↑le : Int) + (↑ag : Int) == 65535) (s7) asm)) (.s 10 (.out [0] [0] (D.agg [D.v (Value.int .u8 (↑kd : Int)), D.v (.bool ((↑a : Int) == 1)), nD le, iD 0, iD 0, iD 0, iD 0, iD 0, iD 0, iD 0, iD 0, iD 0, iD 0, iD 0, iD 0, iD 0, iD 0, iD 0, iD 0, nilD, iD 0, iD 0, iD 0, iD 0, iD 0, iD 0, iD 0, iD 0, iD 0, iD 0, iD 0, iD 0, iD 0, iD 0, iD 0, iD 0, nilD]) [Blk.mk [D.sl false n 1 (List.map dB b), nD (Rs.p s7), nD (Rs.e s7)] 70 false] R (ok _ _ (by exact rfl) wr)))))))))))))))))))))))))))))) (by kernel_rfl)
theorem head_f (b : List UInt8) (n : Nat) (hn : n = b.length) (hN : n ≤ 1000000) (s : Rs) (hs : Rok n s) (a kd : Nat) (s1 s2 s3 : Rs) (x1 : tkN b 1 s = a) (z1 : tkS b 1 s = s1) (x2 : tkN b 2 s1 = kd) (z2 : tkS b 2 s1 = s2) (z3 : FlE s2 (decide ((kd : Int) ≤ 2)) 130 s3) (h3 : s3.e = 0) (h0 : kd = 1) (L F : List UInt8) (hL : L = longsB) (hF : F = farsB) (y1 : L = List.take 288 (List.drop 0 L)) (y2 : F = List.take 32 (List.drop 0 F)) (l1 : L.length = 288) (l2 : F.length = 32) (w1 : okL L 15 = L) (w2 : okL F 15 = F) (z4 : fl s3 (((canE L 15 : Nat) : Int) == 0) 132 = s3) (z5 : fl s3 (((canE F 15 : Nat) : Int) == 0) 132 = s3) : SpecH true Try.prog 27 [.ptr 0 0 0] [⟨[.sl false n 1 (b.map dB), nD (s).p, nD (s).e], 70, false⟩] (.agg ([u8D kd, bD (((a : Nat) : Int) == 1), iD 0] ++ (c16 (cnt L) ++ [.ref 1 1 0 (symsL L).length 1]) ++ (c16 (cnt F) ++ [.ref 2 2 0 (symsL F).length 1]))) [⟨[.sl false n 1 (b.map dB), nD (s3).p, nD (s3).e], 70, false⟩, ⟨(symsL L).map nD, 3, true⟩, ⟨(symsL F).map nD, 3, true⟩] := by
  have ha : a < 2 := by rw [← x1]; exact tkN_lt b 1 s
  have hk : kd < 4 := by rw [← x2]; exact tkN_lt b 2 s1
  have r1 : Rok n s1 := by rw [← z1]; subst hn; exact hs.tk _
  have r2 : Rok n s2 := by rw [← z2]; subst hn; exact r1.tk _
  have r3 : Rok n s3 := by rw [← z3.h]; exact r2.fl _ _
  refine SpecH.run T_ok mixed Try.func27 rfl rfl rfl ⟨rfl, cl_nD _, cl_nD _, trivial⟩ rfl 1000 64 (fun R ok => (.s 4 (.cl 46 true [0] (.fn q46 (@takeV_1 (b) (n) om om (s) om (a) (s1) asm asm)) (.s 10 (.cl 46 true [0] (.fn q46 (@takeV_2 (b) (n) om om (s1) om (kd) (s2) asm asm)) (.s 1 (.opt (wrapO .u8 (↑kd : Int)) (D.v (Value.int .u8 (↑kd : Int))) (wrapO_u8 om) (.s 16 (.cl 47 true [0] (.fn q47 (@failV_130 (b) (n) om om (s2) (decide ((↑kd : Int) ≤ 2)) (s3) asm)) (.s 11 (.f ((↑(Rs.e s3) : Int) != 0) (by (simp <;> (omega))) (.s 9 (.f ((↑kd : Int) == 0) zd0 (.s 9 (.t ((↑kd : Int) == 1) (by (refine decide_eq_true ?_; (omega))) (.s 1 (.cl 48 false [] (.fn q48 (@Fixed_t (L) (F) asm asm)) (.s 10 (.call 49 true [0, 241] (true) wr ([D.ptr 0 0 0, D.ref 1 1 0 288 1, iD 15]) _ (simL.refl _) (true && (closedL (List.map dB L) && true)) (by (simp; done)) _ _ _ (CallOk.fn (FnOk.of Try.func49 rfl rfl) (@growV_15 (b) (n) om om (s3) om (L) (0) (288) om om (L) asm (L) (s3) asm asm)) (.s 3 (.call 49 true [0, 242] (true) wr ([D.ptr 0 0 0, D.ref 1 1 0 32 1, iD 15]) _ (simL.refl _) (true && (closedL (List.map dB F) && true)) (by (simp; done)) _ _ _ (CallOk.fn (FnOk.of Try.func49 rfl rfl) (@growV_15 (b) (n) om om (s3) om (F) (0) (32) om om (F) asm (F) (s3) asm asm)) (.s 22 (.out [0, 305, 329] [0, 305, 329] (D.agg [D.v (Value.int .u8 (↑kd : Int)), D.v (.bool ((↑a : Int) == 1)), iD 0, nD (cnt L 0), nD (cnt L 1), nD (cnt L 2), nD (cnt L 3), nD (cnt L 4), nD (cnt L 5), nD (cnt L 6), nD (cnt L 7), nD (cnt L 8), nD (cnt L 9), nD (cnt L 10), nD (cnt L 11), nD (cnt L 12), nD (cnt L 13), nD (cnt L 14), nD (cnt L 15), D.ref 1 1 0 (List.length (symsL L)) 1, nD (cnt F 0), nD (cnt F 1), nD (cnt F 2), nD (cnt F 3), nD (cnt F 4), nD (cnt F 5), nD (cnt F 6), nD (cnt F 7), nD (cnt F 8), nD (cnt F 9), nD (cnt F 10), nD (cnt F 11), nD (cnt F 12), nD (cnt F 13), nD (cnt F 14), nD (cnt F 15), D.ref 2 2 0 (List.length (symsL F)) 1]) [Blk.mk [D.sl false n 1 (List.map dB b), nD (Rs.p s3), nD (Rs.e s3)] 70 false, Blk.mk (List.map nD (symsL L)) 3 true, Blk.mk (List.map nD (symsL F)) 3 true] R (ok _ _ (by exact rfl) wr)))))))))))))))))))))))) (by kernel_rfl)
theorem head_de (b : List UInt8) (n : Nat) (hn : n = b.length) (hN : n ≤ 1000000) (s : Rs) (hs : Rok n s) (a kd : Nat) (s1 s2 s3 : Rs) (x1 : tkN b 1 s = a) (z1 : tkS b 1 s = s1) (x2 : tkN b 2 s1 = kd) (z2 : tkS b 2 s1 = s2) (z3 : FlE s2 (decide ((kd : Int) ≤ 2)) 130 s3) (h3 : s3.e = 0) (h0 : kd = 2) (g f h : Nat) (d1 d2 d3 d4 d5 d6 d7 d8 : Rs) (W t : List UInt8) (N : Nat) (o : List UInt8) (Dh : DyA b s3 g f h d1 d2 d3 d4 d5 d6 d7 d8 W t N o) (he : d8.e ≠ 0) : SpecH true Try.prog 27 [.ptr 0 0 0] [⟨[.sl false n 1 (b.map dB), nD (s).p, nD (s).e], 70, false⟩] (.agg ([u8D kd, bD (((a : Nat) : Int) == 1), iD 0] ++ zeroC ++ zeroC)) [⟨[.sl false n 1 (b.map dB), nD (d8).p, nD (d8).e], 70, false⟩] := by
  have ha : a < 2 := by rw [← x1]; exact tkN_lt b 1 s
  have hk : kd < 4 := by rw [← x2]; exact tkN_lt b 2 s1
  have r1 : Rok n s1 := by rw [← z1]; subst hn; exact hs.tk _
  have r2 : Rok n s2 := by rw [← z2]; subst hn; exact r1.tk _
  have r3 : Rok n s3 := by rw [← z3.h]; exact r2.fl _ _
  refine SpecH.run T_ok mixed Try.func27 rfl rfl rfl ⟨rfl, trivial⟩ rfl 1000 64 (fun R ok => (.s 4 (.cl 46 true [0] (.fn q46 (@takeV_1 (b) (n) om om (s) om (a) (s1) asm asm)) (.s 10 (.cl 46 true [0] (.fn q46 (@takeV_2 (b) (n) om om (s1) om (kd) (s2) asm asm)) (.s 1 (.opt (wrapO .u8 (↑kd : Int)) (D.v (Value.int .u8 (↑kd : Int))) (wrapO_u8 om) (.s 16 (.cl 47 true [0] (.fn q47 (@failV_130 (b) (n) om om (s2) (decide ((↑kd : Int) ≤ 2)) (s3) asm)) (.s 11 (.f ((↑(Rs.e s3) : Int) != 0) (by (simp <;> (omega))) (.s 9 (.f ((↑kd : Int) == 0) zd0 (.s 9 (.f ((↑kd : Int) == 1) zd0 (.s 2 (.cl 50 true [0, 1] (.fn q50 (@dyn_e (b) (n) om om (s3) om (kd) (0) ((↑a : Int) == 1) (g) (f) (h) (d1) (d2) (d3) (d4) (d5) (d6) (d7) (d8) (W) (t) (N) (o) asm om)) (.s 10 (.out [0] [0] (D.agg [D.v (Value.int .u8 (↑kd : Int)), D.v (.bool ((↑a : Int) == 1)), iD 0, iD 0, iD 0, iD 0, iD 0, iD 0, iD 0, iD 0, iD 0, iD 0, iD 0, iD 0, iD 0, iD 0, iD 0, iD 0, iD 0, nilD, iD 0, iD 0, iD 0, iD 0, iD 0, iD 0, iD 0, iD 0, iD 0, iD 0, iD 0, iD 0, iD 0, iD 0, iD 0, iD 0, nilD]) [Blk.mk [D.sl false n 1 (List.map dB b), nD (Rs.p d8), nD (Rs.e d8)] 70 false] R (ok _ _ (by exact rfl) wr)))))))))))))))))))) (by kernel_rfl)
theorem head_dl (b : List UInt8) (n : Nat) (hn : n = b.length) (hN : n ≤ 1000000) (s : Rs) (hs : Rok n s) (a kd : Nat) (s1 s2 s3 : Rs) (x1 : tkN b 1 s = a) (z1 : tkS b 1 s = s1) (x2 : tkN b 2 s1 = kd) (z2 : tkS b 2 s1 = s2) (z3 : FlE s2 (decide ((kd : Int) ≤ 2)) 130 s3) (h3 : s3.e = 0) (h0 : kd = 2) (g f h : Nat) (d1 d2 d3 d4 d5 d6 d7 d8 : Rs) (W t : List UInt8) (N : Nat) (o : List UInt8) (Dh : DyA b s3 g f h d1 d2 d3 d4 d5 d6 d7 d8 W t N o) (G : Nat) (eG : G = g + 257) (s9 s10 s11 s12 : Rs) (L1 L2 t1 t2 : List UInt8) (Bh : DyB G N o d8 s9 s10 s11 s12 L1 L2 t1 t2) : SpecH true Try.prog 27 [.ptr 0 0 0] [⟨[.sl false n 1 (b.map dB), nD (s).p, nD (s).e], 70, false⟩] (.agg ([u8D kd, bD (((a : Nat) : Int) == 1), iD 0] ++ (c16 (cnt t1) ++ [.ref 1 1 0 (symsL t1).length 1]) ++ (c16 (cnt t2) ++ [.ref 2 2 0 (symsL t2).length 1]))) [⟨[.sl false n 1 (b.map dB), nD (s12).p, nD (s12).e], 70, false⟩, ⟨(symsL t1).map nD, 3, true⟩, ⟨(symsL t2).map nD, 3, true⟩] := by
  have ha : a < 2 := by rw [← x1]; exact tkN_lt b 1 s
  have hk : kd < 4 := by rw [← x2]; exact tkN_lt b 2 s1
  have r1 : Rok n s1 := by rw [← z1]; subst hn; exact hs.tk _
  have r2 : Rok n s2 := by rw [← z2]; subst hn; exact r1.tk _
  have r3 : Rok n s3 := by rw [← z3.h]; exact r2.fl _ _
  refine SpecH.run T_ok mixed Try.func27 rfl rfl rfl ⟨rfl, cl_nD _, cl_nD _, trivial⟩ rfl 1000 64 (fun R ok => (.s 4 (.cl 46 true [0] (.fn q46 (@takeV_1 (b) (n) om om (s) om (a) (s1) asm asm)) (.s 10 (.cl 46 true [0] (.fn q46 (@takeV_2 (b) (n) om om (s1) om (kd) (s2) asm asm)) (.s 1 (.opt (wrapO .u8 (↑kd : Int)) (D.v (Value.int .u8 (↑kd : Int))) (wrapO_u8 om) (.s 16 (.cl 47 true [0] (.fn q47 (@failV_130 (b) (n) om om (s2) (decide ((↑kd : Int) ≤ 2)) (s3) asm)) (.s 11 (.f ((↑(Rs.e s3) : Int) != 0) (by (simp <;> (omega))) (.s 9 (.f ((↑kd : Int) == 0) zd0 (.s 9 (.f ((↑kd : Int) == 1) zd0 (.s 2 (.cl 50 true [0, 1] (.fn q50 (@dyn_l (b) (n) om om (s3) om (kd) (0) ((↑a : Int) == 1) (g) (f) (h) (d1) (d2) (d3) (d4) (d5) (d6) (d7) (d8) (W) (t) (N) (o) asm (G) asm (s9) (s10) (s11) (s12) (L1) (L2) (t1) (t2) asm)) (.s 10 (.out [0, 249, 250] [0, 249, 250] (D.agg [D.v (Value.int .u8 (↑kd : Int)), D.v (.bool ((↑a : Int) == 1)), iD 0, nD (cnt t1 0), nD (cnt t1 1), nD (cnt t1 2), nD (cnt t1 3), nD (cnt t1 4), nD (cnt t1 5), nD (cnt t1 6), nD (cnt t1 7), nD (cnt t1 8), nD (cnt t1 9), nD (cnt t1 10), nD (cnt t1 11), nD (cnt t1 12), nD (cnt t1 13), nD (cnt t1 14), nD (cnt t1 15), D.ref 1 1 0 (List.length (symsL t1)) 1, nD (cnt t2 0), nD (cnt t2 1), nD (cnt t2 2), nD (cnt t2 3), nD (cnt t2 4), nD (cnt t2 5), nD (cnt t2 6), nD (cnt t2 7), nD (cnt t2 8), nD (cnt t2 9), nD (cnt t2 10), nD (cnt t2 11), nD (cnt t2 12), nD (cnt t2 13), nD (cnt t2 14), nD (cnt t2 15), D.ref 2 2 0 (List.length (symsL t2)) 1]) [Blk.mk [D.sl false n 1 (List.map dB b), nD (Rs.p s12), nD (Rs.e s12)] 70 false, Blk.mk (List.map nD (symsL t1)) 3 true, Blk.mk (List.map nD (symsL t2)) 3 true] R (ok _ _ (by exact rfl) wr)))))))))))))))))))) (by kernel_rfl)
end Vp
end Go.Proofs.Ytegjeagfcfhbeaa
namespace Go.Proofs.Ytegjeagfcfhbeaa
open Go.RowKit Go.Bw Go.Vx
namespace Vp
set_option linter.unusedVariables false
set_option linter.unusedSimpArgs false
set_option maxRecDepth 100000
set_option maxHeartbeats 4000000
def dyR (b : List UInt8) (s : Rs) : Rs × List UInt8 × List UInt8 :=
  let g := tkN b 5 s
  let s1 := tkS b 5 s
  let f := tkN b 5 s1
  let s2 := tkS b 5 s1
  let h := tkN b 4 s2
  let s3 := tkS b 4 s2
  let s4 := fl s3 (decide (g + 257 ≤ 286) && decide (f + 1 ≤ 30)) 132
  let s5 := rwS b s4 (h + 4)
  let W := rwL b s4 (h + 4)
  let t := okL W 7
  let s6 := fl s5 (((canE W 7 : Nat) : Int) == 0) 132
  let s7 := fl s6 (decide ((1 : Int) < (((symsL t).length : Nat) : Int))) 132
  let N := g + 257 + (f + 1)
  let o := lnO b t N s7
  let s8 := lnS b t N s7
  if s8.e ≠ 0 then (s8, [], []) else
  let L1 := (o.drop 0).take (g + 257)
  let L2 := (o.drop (g + 257)).take (N - (g + 257))
  let s9 := fl s8 (decide ((0 : Int) < (((o.getD 256 default).toNat : Nat) : Int))) 132
  let s10 := fl s9 (((canE L1 15 : Nat) : Int) == 0) 132
  let s11 := fl s10 (((canE L1 15 : Nat) : Int) == 0) 132
  let s12 := fl s11 (((canE L2 15 : Nat) : Int) == 0) 132
  (s12, okL L1 15, okL L2 15)
structure Hd where
  s : Rs
  kd : Nat
  la : Bool
  le : Nat
  l1 : List UInt8
  l2 : List UInt8
def hdD (b : List UInt8) (s : Rs) : Hd :=
  let a := tkN b 1 s
  let s1 := tkS b 1 s
  let kd := tkN b 2 s1
  let s2 := tkS b 2 s1
  let s3 := fl s2 (decide ((kd : Int) ≤ 2)) 130
  let la := ((a : Nat) : Int) == 1
  if s3.e ≠ 0 then ⟨s3, kd, la, 0, [], []⟩ else if kd = 0 then
    let s4 : Rs := ⟨(s3.p + 7) / 8 * 8, 0⟩
    let le := tkN b 16 s4
    let s5 := tkS b 16 s4
    let ag := tkN b 16 s5
    let s6 := tkS b 16 s5
    ⟨fl s6 (((le : Nat) : Int) + ((ag : Nat) : Int) == 65535) 131, kd, la, le, [], []⟩
  else if kd = 1 then ⟨s3, kd, la, 0, longsB, farsB⟩
  else ⟨(dyR b s3).1, kd, la, 0, (dyR b s3).2.1, (dyR b s3).2.2⟩
def hdR (b : List UInt8) (s : Rs) : Hd := lk b (hdD b s)
theorem hdR_eq (b : List UInt8) (s : Rs) : hdR b s = hdD b s := lk_eq _ _
theorem zeroNL (j : Nat) : simNL j zeroC (c16 (cnt []) ++ [.ref j j 0 0 1]) := simNL.app (a := [iD 0, iD 0, iD 0, iD 0, iD 0, iD 0, iD 0, iD 0, iD 0, iD 0, iD 0, iD 0, iD 0, iD 0, iD 0, iD 0]) (simNL.refl j _) ⟨simN.nil j 1, trivial⟩
theorem nil2 {f : FuncId} {ds : List D} {hin : List Blk} {x y z : D} {B : Blk} (h : SpecH true Try.prog f ds hin (.agg ([x, y, z] ++ zeroC ++ zeroC)) [B]) : SpecH true Try.prog f ds hin (.agg ([x, y, z] ++ (c16 (cnt []) ++ [.ref 1 1 0 (symsL []).length 1]) ++ (c16 (cnt []) ++ [.ref 2 2 0 (symsL []).length 1]))) [B, ⟨(symsL []).map nD, 3, true⟩, ⟨(symsL []).map nD, 3, true⟩] := by
  have h1 := SpecH.nilA h 3 (r' := .agg ([x, y, z] ++ (c16 (cnt []) ++ [.ref 1 1 0 0 1]) ++ zeroC)) (simN.agg ((simNL.refl 1 [x, y, z]).app (zeroNL 1) |>.app (simNL.refl 1 _)))
  exact SpecH.nilA h1 3 (r' := .agg ([x, y, z] ++ (c16 (cnt []) ++ [.ref 1 1 0 0 1]) ++ (c16 (cnt []) ++ [.ref 2 2 0 0 1]))) (show simN 2 _ _ from simN.agg ((simNL.refl 2 ([x, y, z] ++ (c16 (cnt []) ++ [.ref 1 1 0 0 1]))).app (zeroNL 2)))
theorem longs_len : longsB.length = 288 := by unfold longsB; rw [List.length_append, List.length_append, List.length_append, List.length_replicate, List.length_replicate, List.length_replicate, List.length_replicate]
theorem fars_len : farsB.length = 32 := by unfold farsB; rw [List.length_replicate]
theorem longs_can : canE longsB 15 = 0 := by decide +kernel
theorem fars_can : canE farsB 15 = 0 := by decide +kernel
theorem head_f2 (L F : List UInt8) (hL : L = longsB) (hF : F = farsB) (b : List UInt8) (n : Nat) (hn : n = b.length) (hN : n ≤ 1000000) (s : Rs) (hs : Rok n s) (a kd : Nat) (s1 s2 s3 : Rs) (x1 : tkN b 1 s = a) (z1 : tkS b 1 s = s1) (x2 : tkN b 2 s1 = kd) (z2 : tkS b 2 s1 = s2) (z3 : FlE s2 (decide ((kd : Int) ≤ 2)) 130 s3) (h3 : s3.e = 0) (h0 : kd = 1) : SpecH true Try.prog 27 [.ptr 0 0 0] [⟨[.sl false n 1 (b.map dB), nD (s).p, nD (s).e], 70, false⟩] (.agg ([u8D kd, bD (((a : Nat) : Int) == 1), iD 0] ++ (c16 (cnt L) ++ [.ref 1 1 0 (symsL L).length 1]) ++ (c16 (cnt F) ++ [.ref 2 2 0 (symsL F).length 1]))) [⟨[.sl false n 1 (b.map dB), nD (s3).p, nD (s3).e], 70, false⟩, ⟨(symsL L).map nD, 3, true⟩, ⟨(symsL F).map nD, 3, true⟩] := by
  have c1 : canE L 15 = 0 := by rw [hL]; exact longs_can
  have c2 : canE F 15 = 0 := by rw [hF]; exact fars_can
  have l1 : L.length = 288 := by rw [hL]; exact longs_len
  have l2 : F.length = 32 := by rw [hF]; exact fars_len
  exact head_f b n hn hN s hs a kd s1 s2 s3 x1 z1 x2 z2 z3 h3 h0 L F hL hF (by rw [List.drop_zero, List.take_of_length_le (Nat.le_of_eq l1)]) (by rw [List.drop_zero, List.take_of_length_le (Nat.le_of_eq l2)]) l1 l2 (okL_y c1) (okL_y c2) (by rw [c1]; exact fl_t) (by rw [c2]; exact fl_t)
set_option maxRecDepth 100000 in
set_option maxHeartbeats 2000000 in
theorem head_t (b : List UInt8) (n : Nat) (hn : n = b.length) (hN : n ≤ 1000000) (s : Rs) (hs : Rok n s) : SpecH true Try.prog 27 [.ptr 0 0 0] [⟨[.sl false n 1 (b.map dB), nD (s).p, nD (s).e], 70, false⟩] (.agg ([u8D (hdR b s).kd, bD (hdR b s).la, nD (hdR b s).le] ++ (c16 (cnt (hdR b s).l1) ++ [.ref 1 1 0 (symsL (hdR b s).l1).length 1]) ++ (c16 (cnt (hdR b s).l2) ++ [.ref 2 2 0 (symsL (hdR b s).l2).length 1]))) [⟨[.sl false n 1 (b.map dB), nD ((hdR b s).s).p, nD ((hdR b s).s).e], 70, false⟩, ⟨(symsL (hdR b s).l1).map nD, 3, true⟩, ⟨(symsL (hdR b s).l2).map nD, 3, true⟩] := by
  rw [hdR_eq]
  unfold hdD
  dsimp only
  have r1 : Rok n (tkS b 1 s) := by subst hn; exact hs.tk _
  have r2 : Rok n (tkS b 2 (tkS b 1 s)) := by subst hn; exact (hs.tk _).tk _
  have hk : tkN b 2 (tkS b 1 s) < 4 := tkN_lt b 2 _
  generalize e3 : fl (tkS b 2 (tkS b 1 s)) (decide (((tkN b 2 (tkS b 1 s) : Nat) : Int) ≤ 2)) 130 = s3
  have r3 : Rok n s3 := by rw [← e3]; exact r2.fl _ _
  split
  · next h => exact nil2 (head_e b n hn hN s hs _ _ _ _ s3 rfl rfl rfl rfl ⟨e3⟩ h)
  · next h =>
    have h : s3.e = 0 := by omega
    have hk2 : tkN b 2 (tkS b 1 s) ≤ 2 := by
      rw [← e3] at h
      have := (fl_0 (by decide) h).2.1
      simp at this; omega
    split
    · next h0 => exact nil2 (head_s b n hn hN s hs _ _ _ _ s3 rfl rfl rfl rfl ⟨e3⟩ h h0 ⟨(s3.p + 7) / 8 * 8, 0⟩ _ _ _ _ _ ⟨by push_cast; rfl, h, rfl⟩ rfl rfl rfl rfl ⟨rfl⟩)
    · next h0 =>
      split
      · next h1 => exact head_f2 _ _ rfl rfl b n hn hN s hs _ _ _ _ s3 rfl rfl rfl rfl ⟨e3⟩ h h1
      · next h1 =>
        have h2 : tkN b 2 (tkS b 1 s) = 2 := by omega
        unfold dyR
        dsimp only
        split
        · next h3 => exact nil2 (head_de b n hn hN s hs _ _ _ _ s3 rfl rfl rfl rfl ⟨e3⟩ h h2 _ _ _ _ _ _ _ _ _ _ _ _ _ _ _ ⟨rfl, rfl, rfl, rfl, rfl, rfl, rfl, rfl, rfl, rfl, rfl, ⟨rfl⟩, rfl, rfl, rfl⟩ h3)
        · next h3 => exact head_dl b n hn hN s hs _ _ _ _ s3 rfl rfl rfl rfl ⟨e3⟩ h h2 _ _ _ _ _ _ _ _ _ _ _ _ _ _ _ ⟨rfl, rfl, rfl, rfl, rfl, rfl, rfl, rfl, rfl, rfl, rfl, ⟨rfl⟩, rfl, rfl, rfl⟩ _ rfl _ _ _ _ _ _ _ _ ⟨by omega, ⟨rfl⟩, rfl, rfl, ⟨rfl⟩, rfl, rfl, rfl, rfl⟩
end Vp
end Go.Proofs.Ytegjeagfcfhbeaa
namespace Go.Proofs.Ytegjeagfcfhbeaa
open Go.RowKit Go.Bw Go.Vx
namespace Vp
set_option linter.unusedVariables false
set_option linter.unusedSimpArgs false
set_option maxRecDepth 100000
set_option maxHeartbeats 4000000
theorem zf0 {p : Prop} (h : p := by ( rw [hE (by first | exact .inl om | exact .inr asm)])) : p := h
theorem zf1 {p : Prop} (h : p := by ( have h9 := tkN_lt b 8 s; have h8 := @syN_le b l1 s hT1; have h7 := @syN_le b l2 (nbS b false (syN b l1 s) (syS b l1 s)) hT2; omega)) : p := h
theorem zf2 {p : Prop} (h : p := by exact (And.intro (D.sim.refl _) (And.intro (D.sim.refl _) trivial))) : p := h
theorem zf3 {p : Prop} (h : p := by ( have h9 := @st_bd b kd le l1 l2 c; omega)) : p := h
theorem zf4 {p : Prop} (h : p := by ( rw [tl_bad' hR om asm (show (fl (fl (stR b kd le l1 l2 c).1 (decide (((stR b kd le l1 l2 c).2.2.1 : Int) ≤ ((o.length : Nat) : Int))) 60) (decide (((o.length : Nat) : Int) + max 1 (((stR b kd le l1 l2 c).2.2.2.1 : Nat) : Int) ≤ most)) 140).e ≠ 0 by omega)])) : p := h
theorem zf5 {p : Prop} (h : p := by ( have q := @st_c b kd le l1 l2 s om om; rw [q]; first | done | rfl | (unfold stD; refine st_lit ?_; omega))) : p := h
theorem zf6 {p : Prop} (h : p := by ( have q := @st_d b kd le l1 l2 s om om om; rw [q]; first | done | rfl | (unfold stD; refine st_lit ?_; omega))) : p := h
theorem zf7 {p : Prop} (h : p := by ( have q := @st_e b kd le l1 l2 s om om om; rw [q]; first | done | rfl | (unfold stD; refine st_lit ?_; omega))) : p := h
theorem zf8 {p : Prop} (h : p := by ( have q := @st_f b kd le l1 l2 s om om om; rw [q]; first | done | rfl | (unfold stD; refine st_lit ?_; omega))) : p := h
theorem zf9 {p : Prop} (h : p := by ( exact tl_end' hn hc hR (by first | exact .inl om | exact .inr asm))) : p := h
theorem zf10 {p : Prop} (h : p := by (simp only [List.length_map, Nat.mul_one, Nat.beq_refl, Bool.true_and, Bool.and_true];  refine Nat.ble_eq_true_of_le ?_; omega)) : p := h
theorem zf11 {p : Prop} (h : p := by ( have h9 := @st_bd b kd le l1 l2 c; have q := tkC_e (most := most) (d := (stR b kd le l1 l2 c).2.2.1) (long := (stR b kd le l1 l2 c).2.2.2.1) (s := (stR b kd le l1 l2 c).1) (o := o) (show (fl (fl (stR b kd le l1 l2 c).1 (decide (((stR b kd le l1 l2 c).2.2.1 : Int) ≤ ((o.length : Nat) : Int))) 60) (decide (((o.length : Nat) : Int) + max 1 (((stR b kd le l1 l2 c).2.2.2.1 : Nat) : Int) ≤ most)) 140).e = 0 by omega); rw [plT_len]; omega)) : p := h
theorem zf12 {p : Prop} (h : p := by ( exact tl_go' hn hc hR om asm (show (fl (fl (stR b kd le l1 l2 c).1 (decide (((stR b kd le l1 l2 c).2.2.1 : Int) ≤ ((o.length : Nat) : Int))) 60) (decide (((o.length : Nat) : Int) + max 1 (((stR b kd le l1 l2 c).2.2.2.1 : Nat) : Int) ≤ most)) 140).e = 0 by omega))) : p := h
theorem zf13 {p : Prop} (h : p := by show mu b (some (Kb.mk kd la (le - 1) l1 l2)) (tkC most (Prod.fst (Prod.snd (Prod.snd (stR b kd le l1 l2 c)))) (Prod.fst (Prod.snd (Prod.snd (Prod.snd (stR b kd le l1 l2 c))))) (Prod.fst (stR b kd le l1 l2 c)) o) < mu b (some (Kb.mk kd la le l1 l2)) c; clear next2 last2 next1 last1; ( exact mu_go' hn hc om asm (show (fl (fl (stR b kd le l1 l2 c).1 (decide (((stR b kd le l1 l2 c).2.2.1 : Int) ≤ ((o.length : Nat) : Int))) 60) (decide (((o.length : Nat) : Int) + max 1 (((stR b kd le l1 l2 c).2.2.2.1 : Nat) : Int) ≤ most)) 140).e = 0 by omega))) : p := h
theorem zf14 {p : Prop} (h : p := by ( have h9 := @st_bd b kd le l1 l2 c; have q := tkC_e (most := most) (d := (stR b kd le l1 l2 c).2.2.1) (long := (stR b kd le l1 l2 c).2.2.2.1) (s := (stR b kd le l1 l2 c).1) (o := o) (show (fl (fl (stR b kd le l1 l2 c).1 (decide (((stR b kd le l1 l2 c).2.2.1 : Int) ≤ ((o.length : Nat) : Int))) 60) (decide (((o.length : Nat) : Int) + max 1 (((stR b kd le l1 l2 c).2.2.2.1 : Nat) : Int) ≤ most)) 140).e = 0 by omega); have h7 := @st_d1 b kd le l1 l2 c om om; exact cp_b0 om)) : p := h
theorem zf15 {p : Prop} (h : p := by ( have h9 := @st_bd b kd le l1 l2 c; have q := tkC_e (most := most) (d := (stR b kd le l1 l2 c).2.2.1) (long := (stR b kd le l1 l2 c).2.2.2.1) (s := (stR b kd le l1 l2 c).1) (o := o) (show (fl (fl (stR b kd le l1 l2 c).1 (decide (((stR b kd le l1 l2 c).2.2.1 : Int) ≤ ((o.length : Nat) : Int))) 60) (decide (((o.length : Nat) : Int) + max 1 (((stR b kd le l1 l2 c).2.2.2.1 : Nat) : Int) ≤ most)) 140).e = 0 by omega); have h8 := cpF_len (stR b kd le l1 l2 c).2.2.1 o j; have h7 := @st_d1 b kd le l1 l2 c om om; omega)) : p := h
structure Kb where
  kd : Nat
  la : Bool
  le : Nat
  l1 : List UInt8
  l2 : List UInt8
def cpF (d : Nat) : Nat → List UInt8 → List UInt8
  | 0, o => o
  | k + 1, o => cpF d k o ++ [(cpF d k o).getD ((cpF d k o).length - d) default]
def plT (lit d long : Nat) (o : List UInt8) : List UInt8 := if long = 0 then o ++ [UInt8.ofNat lit] else cpF d long o
abbrev tkC (most : Int) (d long : Nat) (s : Rs) (o : List UInt8) : Rs := fl (fl s (decide ((d : Int) ≤ ((o.length : Nat) : Int))) 60) (decide (((o.length : Nat) : Int) + max 1 ((long : Nat) : Int) ≤ most)) 140
def kbH (b : List UInt8) (s : Rs) : Kb := ⟨(hdR b s).kd, (hdR b s).la, (hdR b s).le, (hdR b s).l1, (hdR b s).l2⟩
abbrev stK (b : List UInt8) (K : Kb) (s : Rs) := stR b K.kd K.le K.l1 K.l2 s
def tlF (b : List UInt8) (most : Int) : Nat → Option Kb → Rs → List UInt8 → Rs × List UInt8
  | 0, _, s, o => (s, o)
  | k + 1, none, s, o => tlF b most k (some (kbH b s)) (hdR b s).s o
  | k + 1, some K, s, o =>
    if (stK b K s).1.e ≠ 0 ∨ (stK b K s).2.2.2.2 = true then (if (stK b K s).1.e ≠ 0 ∨ K.la = true then ((stK b K s).1, o) else tlF b most k none (stK b K s).1 o)
    else if (tkC most (stK b K s).2.2.1 (stK b K s).2.2.2.1 (stK b K s).1 o).e ≠ 0 then (tkC most (stK b K s).2.2.1 (stK b K s).2.2.2.1 (stK b K s).1 o, o)
    else tlF b most k (some { K with le := K.le - 1 }) (tkC most (stK b K s).2.2.1 (stK b K s).2.2.2.1 (stK b K s).1 o) (plT (stK b K s).2.1 (stK b K s).2.2.1 (stK b K s).2.2.2.1 o)
def Adv (s z : Rs) : Prop := z.e = 0 → s.e = 0 ∧ s.p ≤ z.p
theorem Adv.refl (s : Rs) : Adv s s := fun h => ⟨h, Nat.le_refl _⟩
theorem Adv.trans {s z y : Rs} (h : Adv s z) (k : Adv z y) : Adv s y := fun q => by
  have h1 := k q
  have h2 := h h1.1
  exact ⟨h2.1, Nat.le_trans h2.2 h1.2⟩
theorem Adv.tk (b : List UInt8) (m : Nat) (s : Rs) : Adv s (tkS b m s) := fun q => by
  by_cases h : s.e = 0
  · rw [tkS_0 h]; exact ⟨h, Nat.le_add_right _ _⟩
  · rw [tkS_x h] at q; exact absurd q h
theorem Adv.fl (s : Rs) (c : Bool) {x : Nat} (hx : x ≠ 0) : Adv s (fl s c x) := fun q => by
  rw [fl_p]; exact ⟨(fl_0 hx q).1, Nat.le_refl _⟩
theorem Adv.sy (b l : List UInt8) (s : Rs) : Adv s (syS b l s) := fun q => by
  by_cases h : s.e = 0
  · rw [syS_0 h] at q ⊢; exact ⟨h, Nat.le_of_lt (nxR_ok q).1⟩
  · rw [syS_x h] at q; exact absurd q h
theorem sy_lt {b l : List UInt8} {s : Rs} (q : (syS b l s).e = 0) : s.e = 0 ∧ s.p < (syS b l s).p := by
  by_cases h : s.e = 0
  · rw [syS_0 h] at q ⊢; exact ⟨h, (nxR_ok q).1⟩
  · rw [syS_x h] at q; exact absurd q h
theorem Adv.fe (s : Rs) (x : Nat) : Adv s (Vp.fl s (((x : Nat) : Int) == 0) x) := fun q => by
  rw [fl_p]
  refine ⟨?_, Nat.le_refl _⟩
  by_cases h : s.e = 0
  · exact h
  · rw [fl_x h] at q; exact absurd q h
theorem Adv.nb (b : List UInt8) (far : Bool) (y : Nat) (s : Rs) : Adv s (nbS b far y s) := by
  by_cases h0 : s.e = 0
  · by_cases h1 : (nbT b far y s).e = 0
    · rw [(nbS_2 h0 h1).1]; exact ((Adv.fe s _).trans (Adv.tk b _ _)).trans (Adv.fe _ _)
    · rw [(nbS_1 h0 h1).1]; exact (Adv.fe s _).trans (Adv.tk b _ _)
  · rw [(nbS_x h0).1]; exact Adv.refl s
theorem Adv.st (b : List UInt8) (kd le : Nat) (l1 l2 : List UInt8) (s : Rs) : Adv s (stR b kd le l1 l2 s).1 := by
  unfold stR; rw [lk_eq]
  split
  · split
    · exact Adv.tk b _ _
    · exact Adv.refl _
  · split
    · exact Adv.sy b _ _
    · split
      · exact Adv.sy b _ _
      · split
        · exact Adv.sy b _ _
        · exact ((Adv.sy b _ _).trans (Adv.nb b _ _ _)).trans ((Adv.sy b _ _).trans (Adv.nb b _ _ _))
theorem st_lt {b : List UInt8} {kd le : Nat} {l1 l2 : List UInt8} {s : Rs} (h : (stR b kd le l1 l2 s).1.e = 0) (h2 : (stR b kd le l1 l2 s).2.2.2.2 = false) : s.e = 0 ∧ s.p < (stR b kd le l1 l2 s).1.p := by
  unfold stR at *; rw [lk_eq] at *
  split at h
  · next q =>
    rw [if_pos q] at h2 ⊢
    split at h
    · next q2 =>
      rw [if_pos q2] at h2 ⊢
      have := Adv.tk b 8 s h
      refine ⟨this.1, ?_⟩
      show s.p < (tkS b 8 s).p
      rw [tkS_0 this.1]; show s.p < s.p + 8; omega
    · next q2 => rw [if_neg q2] at h2; cases h2
  · next q =>
    rw [if_neg q] at h2 ⊢
    split at h
    · next q2 => exact absurd h q2
    · next q2 =>
      rw [if_neg q2] at h2 ⊢
      have q3 : (syS b l1 s).e = 0 := by omega
      have q4 := sy_lt q3
      split at h
      · next q5 => rw [if_pos q5] at h2 ⊢; exact q4
      · next q5 =>
        rw [if_neg q5] at h2 ⊢
        split at h
        · next q6 => rw [if_pos q6] at h2; cases h2
        · next q6 =>
          rw [if_neg q6] at h2 ⊢
          have := ((Adv.nb b false (syN b l1 s) (syS b l1 s)).trans ((Adv.sy b l2 _).trans (Adv.nb b true _ _))) h
          exact ⟨q4.1, Nat.lt_of_lt_of_le q4.2 this.2⟩
theorem Adv.rw (b : List UInt8) (s : Rs) : ∀ i, Adv s (rwS b s i)
  | 0 => Adv.refl s
  | i + 1 => (Adv.rw b s i).trans (Adv.tk b 3 _)
theorem Adv.lnF (b l : List UInt8) (N : Nat) : ∀ (k : Nat) (c : Rs) (many : Nat) (r : List Rn), Adv c (lnF b l N k c many r).1
  | 0, _, _, _ => Adv.refl _
  | k + 1, c, many, r => by
    rw [Vp.lnF]; split
    · exact Adv.refl _
    · exact (((Adv.sy b l c).trans (Adv.tk b _ _)).trans (Adv.fl _ _ (by decide))).trans (Adv.lnF b l N k _ _ _)
theorem Adv.ln (b l : List UInt8) (N : Nat) (s : Rs) : Adv s (lnS b l N s) := by
  unfold lnS; rw [lnR_eq]; exact (Adv.lnF b l N N s 0 []).trans (Adv.fl _ _ (by decide))
theorem Adv.dy (b : List UInt8) (s : Rs) : Adv s (dyR b s).1 := by
  unfold dyR; dsimp only
  have h8 : ∀ (W : List UInt8) (N : Nat) (c d e : Bool) (h : Nat), Adv s (lnS b (okL W 7) N (Vp.fl (Vp.fl (rwS b (Vp.fl (tkS b 4 (tkS b 5 (tkS b 5 s))) c 132) h) d 132) e 132)) := fun W N c d e h =>
    ((((((Adv.tk b 5 s).trans (Adv.tk b 5 _)).trans (Adv.tk b 4 _)).trans (Adv.fl _ c (by decide))).trans (Adv.rw b _ h)).trans (Adv.fl _ d (by decide))).trans (Adv.fl _ e (by decide)) |>.trans (Adv.ln b _ N _)
  split
  · exact h8 _ _ _ _ _ _
  · exact (((h8 _ _ _ _ _ _).trans (Adv.fl _ _ (by decide))).trans (Adv.fl _ _ (by decide))).trans ((Adv.fl _ _ (by decide)).trans (Adv.fl _ _ (by decide)))
theorem Rok.dy {b : List UInt8} {s : Rs} (h : Rok b.length s) : Rok b.length (dyR b s).1 := by
  unfold dyR; dsimp only
  have h8 : ∀ (W : List UInt8) (N : Nat) (c d e : Bool) (i : Nat), Rok b.length (lnS b (okL W 7) N (Vp.fl (Vp.fl (rwS b (Vp.fl (tkS b 4 (tkS b 5 (tkS b 5 s))) c 132) i) d 132) e 132)) := fun W N c d e i =>
    lnS_ok rfl (((((((h.tk 5).tk 5).tk 4).fl c 132).rw i).fl d 132).fl e 132)
  split
  · exact h8 _ _ _ _ _ _
  · exact ((((h8 _ _ _ _ _ _).fl _ _).fl _ _).fl _ _).fl _ _
theorem hd_adv (b : List UInt8) (s : Rs) (h : (hdR b s).s.e = 0) : s.e = 0 ∧ s.p + 3 ≤ (hdR b s).s.p := by
  rw [hdR_eq] at *
  unfold hdD at *
  dsimp only at *
  have h3 : ∀ c : Bool, (fl (tkS b 2 (tkS b 1 s)) c 130).e = 0 → s.e = 0 ∧ (fl (tkS b 2 (tkS b 1 s)) c 130).p = s.p + 3 := fun c q => by
    have q1 := (fl_0 (by decide) q).1
    have q2 := (Adv.tk b 2 _ q1).1
    have q3 := (Adv.tk b 1 _ q2).1
    refine ⟨q3, ?_⟩
    rw [fl_p, tkS_0 q2]
    show (tkS b 1 s).p + 2 = _
    rw [tkS_0 q3]
  have h4 := h3 (decide (((tkN b 2 (tkS b 1 s) : Nat) : Int) ≤ 2))
  generalize fl (tkS b 2 (tkS b 1 s)) (decide (((tkN b 2 (tkS b 1 s) : Nat) : Int) ≤ 2)) 130 = s3 at *
  split at h
  · next q => exact absurd h q
  · next q =>
    have q0 : s3.e = 0 := by omega
    have h5 := h4 q0
    rw [if_neg q]
    split at h
    · next q2 =>
      rw [if_pos q2]
      have h6 := ((Adv.tk b 16 ⟨(s3.p + 7) / 8 * 8, 0⟩).trans ((Adv.tk b 16 _).trans (Adv.fl _ _ (by decide)))) h
      exact ⟨h5.1, Nat.le_trans (show s.p + 3 ≤ (s3.p + 7) / 8 * 8 by omega) h6.2⟩
    · next q2 =>
      rw [if_neg q2]
      split at h
      · next q3 => rw [if_pos q3]; exact ⟨h5.1, by show s.p + 3 ≤ s3.p; omega⟩
      · next q3 =>
        rw [if_neg q3]
        have h6 := Adv.dy b s3 h
        exact ⟨h5.1, by show s.p + 3 ≤ (dyR b s3).1.p; omega⟩
theorem hd_ok {b : List UInt8} {s : Rs} (h : Rok b.length s) : Rok b.length (hdR b s).s := by
  rw [hdR_eq]
  unfold hdD
  dsimp only
  have h4 : Rok b.length (fl (tkS b 2 (tkS b 1 s)) (decide (((tkN b 2 (tkS b 1 s) : Nat) : Int) ≤ 2)) 130) := ((h.tk 1).tk 2).fl _ _
  generalize fl (tkS b 2 (tkS b 1 s)) (decide (((tkN b 2 (tkS b 1 s) : Nat) : Int) ≤ 2)) 130 = s3 at *
  split
  · exact h4
  · next q =>
    split
    · have h5 : Rok b.length ⟨(s3.p + 7) / 8 * 8, 0⟩ := fun _ => by
        have := h4 (by omega)
        show (s3.p + 7) / 8 * 8 ≤ _
        omega
      exact ((h5.tk 16).tk 16).fl _ _
    · split
      · exact h4
      · exact h4.dy
set_option maxRecDepth 100000 in
theorem hd_t (b : List UInt8) (s : Rs) : canE (hdR b s).l1 15 = 0 ∧ canE (hdR b s).l2 15 = 0 ∧ (hdR b s).kd < 4 ∧ (hdR b s).le < 65536 ∧ ((hdR b s).s.e = 0 → (hdR b s).kd ≤ 2) := by
  rw [hdR_eq]
  unfold hdD
  dsimp only
  have hk : tkN b 2 (tkS b 1 s) < 4 := tkN_lt b 2 _
  have h4 : (fl (tkS b 2 (tkS b 1 s)) (decide (((tkN b 2 (tkS b 1 s) : Nat) : Int) ≤ 2)) 130).e = 0 → tkN b 2 (tkS b 1 s) ≤ 2 := fun q => by
    have := (fl_0 (by decide) q).2.1
    simp at this; omega
  generalize fl (tkS b 2 (tkS b 1 s)) (decide (((tkN b 2 (tkS b 1 s) : Nat) : Int) ≤ 2)) 130 = s3 at *
  split
  · next q => exact ⟨rfl, rfl, hk, by show 0 < 65536; decide, fun z => absurd z q⟩
  · next q =>
    have q0 : s3.e = 0 := by omega
    split
    · exact ⟨rfl, rfl, hk, tkN_lt b 16 _, fun _ => h4 q0⟩
    · split
      · exact ⟨longs_can, fars_can, hk, by show 0 < 65536; decide, fun _ => h4 q0⟩
      · refine ⟨?_, ?_, hk, by show 0 < 65536; decide, fun _ => h4 q0⟩
        · unfold dyR; dsimp only; split
          · rfl
          · exact okL_15 (m := 15) _ (Nat.le_refl 15)
        · unfold dyR; dsimp only; split
          · rfl
          · exact okL_15 (m := 15) _ (Nat.le_refl 15)
set_option maxRecDepth 20000 in
theorem ofN_far {s x : Nat} (h : ofE farsT 0 s x = 0) : 1 ≤ ofN farsT 0 s x := by
  rw [of_0 h]
  have this : ∀ y ∈ farsT, 1 ≤ y.least := fun y hy => of_decide_eq_true (List.all_eq_true.1 (show farsT.all (fun y => decide (1 ≤ y.least)) = true by decide) y hy)
  have h2 : (0 : Int) ≤ s ∧ (s : Int) < 0 + farsT.length := by
    rcases Classical.em ((0 : Int) ≤ s ∧ (s : Int) < 0 + farsT.length) with q | q
    · exact q
    · rw [of_1 q] at h; cases h
  have h3 : ((s : Int) - 0).toNat < farsT.length := by omega
  have := this (farsT.getD ((s : Int) - 0).toNat default) (by rw [List.getD_eq_getElem?_getD, List.getElem?_eq_getElem h3]; exact List.getElem_mem h3)
  omega
theorem st_d1 {b : List UInt8} {kd le : Nat} {l1 l2 : List UInt8} {s : Rs} (h : (stR b kd le l1 l2 s).1.e = 0) (h2 : (stR b kd le l1 l2 s).2.2.2.1 ≠ 0) : 1 ≤ (stR b kd le l1 l2 s).2.2.1 := by
  unfold stR at *; rw [lk_eq] at *
  split at h
  · next q =>
    rw [if_pos q] at h2
    split at h2 <;> exact absurd rfl h2
  · next q =>
    rw [if_neg q] at h2 ⊢
    split at h
    · next q2 => exact absurd h q2
    · next q2 =>
      rw [if_neg q2] at h2 ⊢
      split at h
      · next q5 => rw [if_pos q5] at h2; exact absurd rfl h2
      · next q5 =>
        rw [if_neg q5] at h2 ⊢
        split at h
        · next q6 => rw [if_pos q6] at h2; exact absurd rfl h2
        · next q6 =>
          rw [if_neg q6] at h2 ⊢
          generalize syN b l2 (st2 b l1 s) = y at *
          generalize syS b l2 (st2 b l1 s) = z at *
          show 1 ≤ nbN b true y z
          have h : (nbS b true y z).e = 0 := h
          by_cases h0 : z.e = 0
          · by_cases h1 : (nbT b true y z).e = 0
            · rw [(nbS_2 h0 h1).1] at h
              rw [(nbS_2 h0 h1).2]
              refine ofN_far ?_
              by_cases hz : nuF true y (nbX b true y z) = 0
              · exact hz
              · rw [show (((nuF true y (nbX b true y z) : Nat) : Int) == 0) = false from by simp; exact hz, fl_f h1] at h
                exact absurd h hz
            · rw [(nbS_1 h0 h1).1] at h; exact absurd h h1
          · rw [(nbS_x h0).1] at h; exact absurd h h0
theorem hd_x {b : List UInt8} {s : Rs} (h : s.e ≠ 0) : (hdR b s).s = s := by
  rw [hdR_eq]
  unfold hdD
  dsimp only
  have e : ∀ c : Bool, fl (tkS b 2 (tkS b 1 s)) c 130 = s := fun c => by rw [tkS_x h, tkS_x h, fl_x h]
  rw [e, if_pos h]
theorem st_x {b : List UInt8} {kd le : Nat} {l1 l2 : List UInt8} {s : Rs} (h : s.e ≠ 0) : (stR b kd le l1 l2 s).1 = s := by
  unfold stR; rw [lk_eq, syS_x h]
  split
  · split
    · exact tkS_x h
    · rfl
  · first | rfl | rw [if_pos h]
theorem tl_err {b : List UInt8} {most : Int} : ∀ (k : Nat) (m : Option Kb) (s : Rs) (o : List UInt8), s.e ≠ 0 → tlF b most k m s o = (s, o)
  | 0, _, _, _, _ => rfl
  | k + 1, none, s, o, h => by rw [tlF, hd_x h]; exact tl_err k _ s o h
  | k + 1, some K, s, o, h => by
    have e : (stK b K s).1 = s := st_x h
    rw [tlF, e, if_pos (.inl h), if_pos (.inl h)]
def mu (b : List UInt8) (m : Option Kb) (s : Rs) : Nat := if s.e ≠ 0 then 0 else 2 * (8 * b.length + 1 - s.p) + (match m with | none => 0 | some _ => 1)
theorem mu_none {b : List UInt8} {s : Rs} (h : s.e = 0) : mu b none s = 2 * (8 * b.length + 1 - s.p) := if_neg (by omega)
theorem mu_some {b : List UInt8} {s : Rs} {K : Kb} (h : s.e = 0) : mu b (some K) s = 2 * (8 * b.length + 1 - s.p) + 1 := if_neg (by omega)
theorem mu_x {b : List UInt8} {s : Rs} {m : Option Kb} (h : s.e ≠ 0) : mu b m s = 0 := if_pos h
theorem tkC_p (most : Int) (d long : Nat) (s : Rs) (o : List UInt8) : (tkC most d long s o).p = s.p := by unfold tkC; rw [fl_p, fl_p]
theorem tkC_e {most : Int} {d long : Nat} {s : Rs} {o : List UInt8} (h : (tkC most d long s o).e = 0) : s.e = 0 ∧ d ≤ o.length ∧ ((o.length : Nat) : Int) + max 1 ((long : Nat) : Int) ≤ most ∧ tkC most d long s o = s := by
  unfold tkC at *
  have h1 := fl_0 (by decide) h
  have h2 := fl_0 (by decide) h1.1
  have h3 := of_decide_eq_true h1.2.1
  have h4 := of_decide_eq_true h2.2.1
  exact ⟨h2.1, by omega, h3, h1.2.2.trans h2.2.2⟩
theorem Rok.tc {n : Nat} {most : Int} {d long : Nat} {s : Rs} {o : List UInt8} (h : Rok n s) : Rok n (tkC most d long s o) := (h.fl _ _).fl _ _
theorem mu_in {b : List UInt8} {s : Rs} (hs : Rok b.length s) (h : s.e = 0) : mu b (some (kbH b s)) (hdR b s).s < mu b none s := by
  have := hs h
  rw [mu_none h]
  by_cases q : (hdR b s).s.e = 0
  · have := hd_adv b s q
    have := hd_ok hs q
    rw [mu_some q]; omega
  · rw [mu_x q]; omega
theorem mu_out {b : List UInt8} {K : Kb} {s : Rs} (hs : Rok b.length s) (h : (stK b K s).1.e = 0) : mu b none (stK b K s).1 < mu b (some K) s := by
  have h1 : s.e = 0 ∧ s.p ≤ (stK b K s).1.p := Adv.st b K.kd K.le K.l1 K.l2 s h
  have := hs h1.1
  rw [mu_none h, mu_some h1.1]; omega
theorem mu_go {b : List UInt8} {K K2 : Kb} {s z : Rs} (hs : Rok b.length s) (hz : Rok b.length z) (h : (stK b K s).1.e = 0) (h2 : (stK b K s).2.2.2.2 = false) (hp : z.p = (stK b K s).1.p) (he : z.e = 0) : mu b (some K2) z < mu b (some K) s := by
  have h1 : s.e = 0 ∧ s.p < (stK b K s).1.p := st_lt h h2
  have := hs h1.1
  have := hz he
  rw [mu_some he, mu_some h1.1]; omega
theorem tl_fuel {b : List UInt8} {most : Int} : ∀ (k m : Nat) (md : Option Kb) (s : Rs) (o : List UInt8), Rok b.length s → mu b md s ≤ k → mu b md s ≤ m → tlF b most k md s o = tlF b most m md s o
  | 0, m, md, s, o, _, h, _ => by
    by_cases he : s.e = 0
    · have : 0 < mu b md s := by
        cases md with
        | none => rw [mu_none he]; have := ‹Rok b.length s› he; omega
        | some K => rw [mu_some he]; omega
      omega
    · rw [tl_err _ _ _ _ he, tl_err _ _ _ _ he]
  | k + 1, 0, md, s, o, _, _, h => by
    by_cases he : s.e = 0
    · have : 0 < mu b md s := by
        cases md with
        | none => rw [mu_none he]; have := ‹Rok b.length s› he; omega
        | some K => rw [mu_some he]; omega
      omega
    · rw [tl_err _ _ _ _ he, tl_err _ _ _ _ he]
  | k + 1, m + 1, none, s, o, hs, h1, h2 => by
    by_cases he : s.e = 0
    · have := mu_in hs he
      rw [tlF, tlF]
      exact tl_fuel k m _ _ _ (hd_ok hs) (by omega) (by omega)
    · rw [tl_err _ _ _ _ he, tl_err _ _ _ _ he]
  | k + 1, m + 1, some K, s, o, hs, h1, h2 => by
    have hr : Rok b.length (stK b K s).1 := Rok.st hs
    rw [tlF, tlF]
    split
    · split
      · rfl
      · next q =>
        have q1 : (stK b K s).1.e = 0 := by
          rcases Classical.em ((stK b K s).1.e = 0) with y | y
          · exact y
          · exact absurd (.inl y) q
        have := mu_out hs q1
        exact tl_fuel k m _ _ _ hr (by omega) (by omega)
    · next q =>
      split
      · rfl
      · next q2 =>
        have q1 : (stK b K s).1.e = 0 := by
          rcases Classical.em ((stK b K s).1.e = 0) with y | y
          · exact y
          · exact absurd (.inl y) q
        have q3 : (stK b K s).2.2.2.2 = false := by
          cases y : (stK b K s).2.2.2.2
          · rfl
          · exact absurd (.inr y) q
        have := mu_go (K2 := { K with le := K.le - 1 }) hs hr.tc q1 q3 (tkC_p most (stK b K s).2.2.1 (stK b K s).2.2.2.1 (stK b K s).1 o) (by omega)
        exact tl_fuel k m _ _ _ hr.tc (by omega) (by omega)
def tlR (b : List UInt8) (most : Int) (m : Option Kb) (s : Rs) (o : List UInt8) : Rs × List UInt8 := lk b (tlF b most (mu b m s) m s o)
theorem tlR_eq {b : List UInt8} {most : Int} {m : Option Kb} {s : Rs} {o : List UInt8} : tlR b most m s o = tlF b most (mu b m s) m s o := lk_eq _ _
section
variable {b : List UInt8} {most : Int} {K : Kb} {s : Rs} {o : List UInt8} {R : Rs × List UInt8}
theorem tl_in (hs : Rok b.length s) (h : s.e = 0) (hR : tlR b most none s o = R) : tlR b most (some (kbH b s)) (hdR b s).s o = R := by
  rw [tlR_eq] at *
  have := mu_in hs h
  rw [← hR, show mu b none s = (mu b none s - 1) + 1 from by omega, tlF]
  exact tl_fuel _ _ _ _ _ (hd_ok hs) (Nat.le_refl _) (by omega)
theorem mu_pos (K : Kb) (h : s.e = 0) : 0 < mu b (some K) s := by rw [mu_some h]; omega
theorem tl_st (hR : tlR b most (some K) s o = R) (h : s.e = 0 ∨ (stK b K s).1.e ≠ 0) : R = tlF b most (mu b (some K) s - 1 + 1) (some K) s o := by
  rw [tlR_eq] at hR
  rw [← hR]
  by_cases q : s.e = 0
  · have := mu_pos (b := b) K q
    rw [show mu b (some K) s - 1 + 1 = mu b (some K) s from by omega]
  · rw [tl_err _ _ _ _ q, tl_err _ _ _ _ q]
theorem tl_end (hs : Rok b.length s) (hR : tlR b most (some K) s o = R) (h : (stK b K s).1.e ≠ 0 ∨ K.la = true) (h2 : (stK b K s).1.e ≠ 0 ∨ (stK b K s).2.2.2.2 = true) : R = ((stK b K s).1, o) := by
  rcases Classical.em (s.e = 0 ∨ (stK b K s).1.e ≠ 0) with q | q
  · rw [tl_st hR q, tlF, if_pos h2, if_pos h]
  · exfalso
    have q1 : (stK b K s).1.e = 0 := by
      rcases Classical.em ((stK b K s).1.e = 0) with y | y
      · exact y
      · exact absurd (.inr y) q
    exact q (.inl (Adv.st b K.kd K.le K.l1 K.l2 s q1).1)
theorem tl_out (hs : Rok b.length s) (hR : tlR b most (some K) s o = R) (h : (stK b K s).1.e = 0) (h1 : K.la = false) (h2 : (stK b K s).2.2.2.2 = true) : tlR b most none (stK b K s).1 o = R := by
  have h3 := (Adv.st b K.kd K.le K.l1 K.l2 s h).1
  have h4 := mu_out hs h
  rw [tl_st hR (.inl h3), tlF, if_pos (.inr h2), if_neg (fun q => q.elim (fun y => y h) (fun y => by rw [h1] at y; cases y)), tlR_eq]
  exact tl_fuel _ _ _ _ _ (Rok.st hs) (Nat.le_refl _) (Nat.le_sub_one_of_lt h4)
theorem tl_bad (hR : tlR b most (some K) s o = R) (h : (stK b K s).1.e = 0) (h2 : (stK b K s).2.2.2.2 = false) (h3 : (tkC most (stK b K s).2.2.1 (stK b K s).2.2.2.1 (stK b K s).1 o).e ≠ 0) : R = (tkC most (stK b K s).2.2.1 (stK b K s).2.2.2.1 (stK b K s).1 o, o) := by
  have h4 := (Adv.st b K.kd K.le K.l1 K.l2 s h).1
  rw [tl_st hR (.inl h4), tlF, if_neg (fun q => q.elim (fun y => y h) (fun y => by rw [h2] at y; cases y)), if_pos h3]
theorem tl_go (hs : Rok b.length s) (hR : tlR b most (some K) s o = R) (h : (stK b K s).1.e = 0) (h2 : (stK b K s).2.2.2.2 = false) (h3 : (tkC most (stK b K s).2.2.1 (stK b K s).2.2.2.1 (stK b K s).1 o).e = 0) : tlR b most (some { K with le := K.le - 1 }) (tkC most (stK b K s).2.2.1 (stK b K s).2.2.2.1 (stK b K s).1 o) (plT (stK b K s).2.1 (stK b K s).2.2.1 (stK b K s).2.2.2.1 o) = R := by
  have h4 := (Adv.st b K.kd K.le K.l1 K.l2 s h).1
  have hr : Rok b.length (stK b K s).1 := Rok.st hs
  have h5 := mu_go (K2 := { K with le := K.le - 1 }) hs hr.tc h h2 (tkC_p most (stK b K s).2.2.1 (stK b K s).2.2.2.1 (stK b K s).1 o) h3
  rw [tl_st hR (.inl h4), tlF, if_neg (fun q => q.elim (fun y => y h) (fun y => by rw [h2] at y; cases y)), if_neg (by omega), tlR_eq]
  exact tl_fuel _ _ _ _ _ hr.tc (Nat.le_refl _) (by omega)
end
section
variable {b : List UInt8} {n : Nat} {most : Int} {kd le : Nat} {la : Bool} {l1 l2 : List UInt8} {s : Rs} {o : List UInt8} {R : Rs × List UInt8}
theorem tl_end' (hn : n = b.length) (hs : Rok n s) (hR : tlR b most (some ⟨kd, la, le, l1, l2⟩) s o = R) (h2 : (stR b kd le l1 l2 s).1.e ≠ 0 ∨ (stR b kd le l1 l2 s).2.2.2.2 = true) (h : (stR b kd le l1 l2 s).1.e ≠ 0 ∨ la = true) : R = ((stR b kd le l1 l2 s).1, o) := by
  subst hn; exact tl_end (K := ⟨kd, la, le, l1, l2⟩) hs hR h h2
theorem tl_out' (hn : n = b.length) (hs : Rok n s) (hR : tlR b most (some ⟨kd, la, le, l1, l2⟩) s o = R) (h : (stR b kd le l1 l2 s).1.e = 0) (h1 : la = false) (h2 : (stR b kd le l1 l2 s).2.2.2.2 = true) : tlR b most none (stR b kd le l1 l2 s).1 o = R := by
  subst hn; exact tl_out (K := ⟨kd, la, le, l1, l2⟩) hs hR h h1 h2
theorem tl_bad' (hR : tlR b most (some ⟨kd, la, le, l1, l2⟩) s o = R) (h : (stR b kd le l1 l2 s).1.e = 0) (h2 : (stR b kd le l1 l2 s).2.2.2.2 = false) (h3 : (tkC most (stR b kd le l1 l2 s).2.2.1 (stR b kd le l1 l2 s).2.2.2.1 (stR b kd le l1 l2 s).1 o).e ≠ 0) : R = (tkC most (stR b kd le l1 l2 s).2.2.1 (stR b kd le l1 l2 s).2.2.2.1 (stR b kd le l1 l2 s).1 o, o) := tl_bad (K := ⟨kd, la, le, l1, l2⟩) hR h h2 h3
theorem tl_go' (hn : n = b.length) (hs : Rok n s) (hR : tlR b most (some ⟨kd, la, le, l1, l2⟩) s o = R) (h : (stR b kd le l1 l2 s).1.e = 0) (h2 : (stR b kd le l1 l2 s).2.2.2.2 = false) (h3 : (tkC most (stR b kd le l1 l2 s).2.2.1 (stR b kd le l1 l2 s).2.2.2.1 (stR b kd le l1 l2 s).1 o).e = 0) : tlR b most (some ⟨kd, la, le - 1, l1, l2⟩) (tkC most (stR b kd le l1 l2 s).2.2.1 (stR b kd le l1 l2 s).2.2.2.1 (stR b kd le l1 l2 s).1 o) (plT (stR b kd le l1 l2 s).2.1 (stR b kd le l1 l2 s).2.2.1 (stR b kd le l1 l2 s).2.2.2.1 o) = R := by
  subst hn; exact tl_go (K := ⟨kd, la, le, l1, l2⟩) hs hR h h2 h3
theorem mu_go' (hn : n = b.length) (hs : Rok n s) (h : (stR b kd le l1 l2 s).1.e = 0) (h2 : (stR b kd le l1 l2 s).2.2.2.2 = false) (h3 : (tkC most (stR b kd le l1 l2 s).2.2.1 (stR b kd le l1 l2 s).2.2.2.1 (stR b kd le l1 l2 s).1 o).e = 0) : mu b (some ⟨kd, la, le - 1, l1, l2⟩) (tkC most (stR b kd le l1 l2 s).2.2.1 (stR b kd le l1 l2 s).2.2.2.1 (stR b kd le l1 l2 s).1 o) < mu b (some ⟨kd, la, le, l1, l2⟩) s := by
  subst hn; exact mu_go (K := ⟨kd, la, le, l1, l2⟩) hs (Rok.tc (Rok.st hs)) h h2 (tkC_p _ _ _ _ _) h3
theorem mu_nx {a c : Rs} (hn : n = b.length) (hc : Rok n c) (h0 : a.e = 0) (h1 : c.e = 0) (hp : a.p + 3 ≤ c.p) : mu b none c < mu b none a := by
  have := hc h1
  rw [mu_none h0, mu_none h1]; omega
theorem go_p {a : Rs} (hp : s.e = 0 → a.p + 3 ≤ s.p) (q : (tkC most (stR b kd le l1 l2 s).2.2.1 (stR b kd le l1 l2 s).2.2.2.1 (stR b kd le l1 l2 s).1 o).e = 0) : a.p + 3 ≤ (tkC most (stR b kd le l1 l2 s).2.2.1 (stR b kd le l1 l2 s).2.2.2.1 (stR b kd le l1 l2 s).1 o).p := by
  have h := tkC_e q
  have h7 := Adv.st b kd le l1 l2 s h.1
  rw [tkC_p]; exact Nat.le_trans (hp h7.1) h7.2
end
theorem cpF_len (d : Nat) (o : List UInt8) : ∀ k, (cpF d k o).length = o.length + k
  | 0 => rfl
  | k + 1 => by rw [cpF, List.length_append, cpF_len d o k]; rfl
theorem plT_1 {lit d long : Nat} {o : List UInt8} (h : long ≠ 0) : plT lit d long o = cpF d long o := if_neg h
theorem pl_b0 {lit d long : Nat} {o : List UInt8} {t : TypeId} {r : Bool} (h : long = 0) (hl : lit < 256) : (⟨List.map dB o ++ [D.v (.int .u8 ((lit : Nat) : Int))], t, r⟩ : Blk) = ⟨List.map dB (plT lit d long o), t, r⟩ := by
  unfold plT
  rw [if_pos h, List.map_append]
  congr 2
  show _ = [dB _]
  unfold dB; rw [UInt8.toNat_ofNat', Nat.mod_eq_of_lt (by omega)]
theorem pl_r0 {lit d long k g : Nat} {o : List UInt8} {t : TypeId} {r : Bool} (h : long = 0) : (⟨[D.ref k g 0 (o.length + 1) 1], t, r⟩ : Blk) = ⟨[D.ref k g 0 (plT lit d long o).length 1], t, r⟩ := by
  unfold plT; rw [if_pos h, List.length_append]; rfl
theorem cp_b0 {d x : Nat} {o : List UInt8} {t : TypeId} {r : Bool} (h : x = o.length - d) : (⟨List.map dB o ++ [dB (o.getD x default)], t, r⟩ : Blk) = ⟨List.map dB (cpF d 1 o), t, r⟩ := by
  rw [cpF, List.map_append, h]; rfl
theorem cp_r0 {d k g : Nat} {o : List UInt8} {t : TypeId} {r : Bool} : (⟨[D.ref k g 0 (o.length + 1) 1], t, r⟩ : Blk) = ⟨[D.ref k g 0 (cpF d 1 o).length 1], t, r⟩ := by rw [cpF_len]
theorem cp_r {d j k g : Nat} {o : List UInt8} {t : TypeId} {r : Bool} : (⟨[D.ref k g 0 ((cpF d j o).length + 1) 1], t, r⟩ : Blk) = ⟨[D.ref k g 0 (cpF d (j + 1) o).length 1], t, r⟩ := by rw [cpF_len, cpF_len]; rfl
theorem plT_len (lit d long : Nat) (o : List UInt8) : (plT lit d long o).length = o.length + max 1 long := by
  unfold plT; split
  · rw [List.length_append]; simp; omega
  · rw [cpF_len]; omega
theorem step_q (b : List UInt8) (n : Nat) (hn : n = b.length) (hN : n ≤ 1000000) (s : Rs) (hs : Rok n s) (kd le : Nat) (la : Bool) (hkd : kd ≤ 3) (hle : le ≤ 1000000) (l1 l2 : List UInt8) (hT1 : canE l1 15 = 0) (hT2 : canE l2 15 = 0) : SpecH true Try.prog 31 [.ptr 0 0 0, .agg ([u8D kd, bD la, nD le] ++ (c16 (cnt l1) ++ [.ref 1 1 0 (symsL l1).length 1]) ++ (c16 (cnt l2) ++ [.ref 2 2 0 (symsL l2).length 1]))] [⟨[.sl false n 1 (b.map dB), nD (s).p, nD (s).e], 70, false⟩, ⟨(symsL l1).map nD, 3, true⟩, ⟨(symsL l2).map nD, 3, true⟩] (stD (stR b kd le l1 l2 s)) [⟨[.sl false n 1 (b.map dB), nD ((stR b kd le l1 l2 s).1).p, nD ((stR b kd le l1 l2 s).1).e], 70, false⟩, ⟨(symsL l1).map nD, 3, true⟩, ⟨(symsL l2).map nD, 3, true⟩] := by
  have ho : s.e = 0 → s.p ≤ 8 * n := hs
  have hr1 : Rok n (syS b l1 s) := by subst hn; exact hs.sy _
  have hr2 : Rok n (nbS b false (syN b l1 s) (syS b l1 s)) := by subst hn; exact (hs.sy _).nb _ _
  have hr3 : Rok n (syS b l2 (nbS b false (syN b l1 s) (syS b l1 s))) := by subst hn; exact ((hs.sy _).nb _ _).sy _
  refine SpecH.run T_ok mixed Try.func31 rfl rfl rfl ⟨rfl, cl_nD _, cl_nD _, trivial⟩ rfl 1000 64 (fun R ok => (.s 13 (.br ((↑kd : Int) == 0) (fun p0 => have p0f := eq_of_beq p0; (.s 8 (.br (decide (0 < (↑le : Int))) (fun p1 => have p1f := odt p1; (.s 2 (.cl 46 true [0] (.fn q46 (@take_t (b) (n) om om (s) om (8) om)) (.s 1 (.opt (wrapO .u8 (↑(tkN b 8 s) : Int)) (D.v (Value.int .u8 (↑(tkN b 8 s) : Int))) (wrapO_u8 zf1) (.s 26 (.out [0, 1, 2] [0, 1, 2] (D.tup [D.agg [D.v (Value.int .u8 (↑(tkN b 8 s) : Int)), iD 0, iD 0], D.v (.bool ((↑le : Int) == 0))]) [Blk.mk [D.sl false n 1 (List.map dB b), nD (Rs.p (tkS b 8 s)), nD (Rs.e (tkS b 8 s))] 70 false, Blk.mk (List.map nD (symsL l1)) 3 true, Blk.mk (List.map nD (symsL l2)) 3 true] R (ok _ _ (by ( rw [st_a om om, show (((le : Nat) : Int) == 0) = false from by simp; omega]; rfl)) (by ( have q := @st_a b kd le l1 l2 s om om; rw [q]; first | done | rfl | (unfold stD; refine st_lit ?_; omega))))))))))) (fun p1 => have p1f := odf p1; (.s 20 (.out [0, 1, 2] [0, 1, 2] (D.tup [D.agg [D.v (Value.int .u8 0), iD 0, iD 0], D.v (.bool ((↑le : Int) == 0))]) [Blk.mk [D.sl false n 1 (List.map dB b), nD (Rs.p s), nD (Rs.e s)] 70 false, Blk.mk (List.map nD (symsL l1)) 3 true, Blk.mk (List.map nD (symsL l2)) 3 true] R (ok _ _ (by ( rw [st_b om om, show (((le : Nat) : Int) == 0) = true from by simp; omega]; rfl)) (by ( have q := @st_b b kd le l1 l2 s om om; rw [q]; first | done | rfl | (unfold stD; refine st_lit ?_; omega)))))))))) (fun p0 => have p0f := of_beq_f p0; (.s 9 (.call 56 true [0, 1] (true) wr ([D.ptr 0 0 0, D.agg [nD (cnt l1 0), nD (cnt l1 1), nD (cnt l1 2), nD (cnt l1 3), nD (cnt l1 4), nD (cnt l1 5), nD (cnt l1 6), nD (cnt l1 7), nD (cnt l1 8), nD (cnt l1 9), nD (cnt l1 10), nD (cnt l1 11), nD (cnt l1 12), nD (cnt l1 13), nD (cnt l1 14), nD (cnt l1 15), D.ref 1 1 0 (List.length (symsL l1)) 1]]) _ zf2 (true && (closedL (List.map nD (symsL l1)) && true)) (by (simp; done)) _ _ _ (CallOk.fn (FnOk.of Try.func56 rfl rfl) (@sym_r (b) (n) om om (s) om (l1) om)) (.s 12 (.br ((↑(Rs.e (syS b l1 s)) : Int) != 0) (fun p2 => have p2f := of_bne_t p2; (.s 12 (.out [0, 1, 2] [0, 1, 2] (D.tup [D.agg [D.v (Value.int .u8 0), iD 0, iD 0], D.v (.bool false)]) [Blk.mk [D.sl false n 1 (List.map dB b), nD (Rs.p (syS b l1 s)), nD (Rs.e (syS b l1 s))] 70 false, Blk.mk (List.map nD (symsL l1)) 3 true, Blk.mk (List.map nD (symsL l2)) 3 true] R (ok _ _ zf5 zf5)))) (fun p2 => have p2f := of_bne_f p2; (.s 4 (.br (decide ((↑(syN b l1 s) : Int) < 256)) (fun p3 => have p3f := odt p3; (.s 2 (.opt (wrapO .u8 (↑(syN b l1 s) : Int)) (D.v (Value.int .u8 (↑(syN b l1 s) : Int))) (wrapO_u8 om) (.s 18 (.out [0, 1, 2] [0, 1, 2] (D.tup [D.agg [D.v (Value.int .u8 (↑(syN b l1 s) : Int)), iD 0, iD 0], D.v (.bool false)]) [Blk.mk [D.sl false n 1 (List.map dB b), nD (Rs.p (syS b l1 s)), nD (Rs.e (syS b l1 s))] 70 false, Blk.mk (List.map nD (symsL l1)) 3 true, Blk.mk (List.map nD (symsL l2)) 3 true] R (ok _ _ zf6 zf6)))))) (fun p3 => have p3f := odf p3; (.s 4 (.br ((↑(syN b l1 s) : Int) == 256) (fun p4 => have p4f := eq_of_beq p4; (.s 13 (.out [0, 1, 2] [0, 1, 2] (D.tup [D.agg [D.v (Value.int .u8 0), iD 0, iD 0], D.v (.bool true)]) [Blk.mk [D.sl false n 1 (List.map dB b), nD (Rs.p (syS b l1 s)), nD (Rs.e (syS b l1 s))] 70 false, Blk.mk (List.map nD (symsL l1)) 3 true, Blk.mk (List.map nD (symsL l2)) 3 true] R (ok _ _ zf7 zf7)))) (fun p4 => have p4f := of_beq_f p4; (.s 3 (.cl 57 true [0] (.fn q57 (@num_Long (b) (n) om om (syS b l1 s) om (syN b l1 s) zf1)) (.s 16 (.call 56 true [0, 2] (true) wr ([D.ptr 0 0 0, D.agg [nD (cnt l2 0), nD (cnt l2 1), nD (cnt l2 2), nD (cnt l2 3), nD (cnt l2 4), nD (cnt l2 5), nD (cnt l2 6), nD (cnt l2 7), nD (cnt l2 8), nD (cnt l2 9), nD (cnt l2 10), nD (cnt l2 11), nD (cnt l2 12), nD (cnt l2 13), nD (cnt l2 14), nD (cnt l2 15), D.ref 1 1 0 (List.length (symsL l2)) 1]]) _ zf2 (true && (closedL (List.map nD (symsL l2)) && true)) (by (simp; done)) _ _ _ (CallOk.fn (FnOk.of Try.func56 rfl rfl) (@sym_r (b) (n) om om (nbS b false (syN b l1 s) (syS b l1 s)) om (l2) om)) (.s 1 (.cl 57 true [0] (.fn q57 (@num_Far (b) (n) om om (syS b l2 (nbS b false (syN b l1 s) (syS b l1 s))) om (syN b l2 (nbS b false (syN b l1 s) (syS b l1 s))) zf1)) (.s 18 (.out [0, 1, 2] [0, 1, 2] (D.tup [D.agg [D.v (Value.int .u8 0), nD (nbN b true (syN b l2 (nbS b false (syN b l1 s) (syS b l1 s))) (syS b l2 (nbS b false (syN b l1 s) (syS b l1 s)))), nD (nbN b false (syN b l1 s) (syS b l1 s))], D.v (.bool false)]) [Blk.mk [D.sl false n 1 (List.map dB b), nD (Rs.p (nbS b true (syN b l2 (nbS b false (syN b l1 s) (syS b l1 s))) (syS b l2 (nbS b false (syN b l1 s) (syS b l1 s))))), nD (Rs.e (nbS b true (syN b l2 (nbS b false (syN b l1 s) (syS b l1 s))) (syS b l2 (nbS b false (syN b l1 s) (syS b l1 s)))))] 70 false, Blk.mk (List.map nD (symsL l1)) 3 true, Blk.mk (List.map nD (symsL l2)) 3 true] R (ok _ _ zf8 zf8)))))))))))))))))))))))) (by kernel_rfl)
theorem tell_t (b : List UInt8) (n : Nat) (hn : n = b.length) (hN : n ≤ 1000000) (s : Rs) (hs : Rok n s) (he : s.e = 0) (most : Int) (hm : 0 ≤ most ∧ most ≤ 1000000) : SpecH true Try.prog 38 [.ptr 0 0 0, iD most] [⟨[.sl false n 1 (b.map dB), nD (s).p, nD (s).e], 70, false⟩] (.ref 1 1 0 ((tlR b most none s [])).2.length 1) [⟨[.sl false n 1 (b.map dB), nD ((tlR b most none s []).1).p, nD ((tlR b most none s []).1).e], 70, false⟩, ⟨((tlR b most none s []).2).map dB, 5, true⟩] := by
  refine SpecH.run T_ok mixed Try.func38 rfl rfl rfl ⟨rfl, cl_bytes _, trivial⟩ rfl 1000 64 (fun R ok => (.s 16 (.nilc 17 17 (Blk.mk [nilD] 22 false) 0 97 1 5 (Hn.inl T_ok mixed false 40 97 (loopAt Try.prog 99 0) (fun (x : (a : Rs) ×' (ha : Rok n a) ×' (h0 : a.e = 0) ×' (o : List UInt8) ×' (ho : (o.length : Int) ≤ most) ×' (hR : tlR b most none a o = (tlR b most none s [])) ×' Unit) => match x with | ⟨a, ha, h0, o, ho, hR, _⟩ => CutS.mk [(0, D.yl 89 89), (1, D.ptr 41 41 0)] [⟨0, 0, 0, 0, .b ⟨[.sl false n 1 (b.map dB), nD (a).p, nD (a).e], 70, false⟩⟩, ⟨1, 1, 1, 1, .b ⟨[D.ptr 0 0 0], 65, false⟩⟩, ⟨9, 9, 9, 9, .b ⟨[iD most], 3, false⟩⟩, ⟨17, 17, 17, 17, .b ⟨[(D.ref 152 152 0 ((o).length) 1)], 22, false⟩⟩, ⟨41, 41, 41, 41, .b ⟨[D.ptr 0 0 0], 65, false⟩⟩, ⟨89, 89, 89, 89, .l LoopState.ready none (rangeAt Try.prog 38 0).1 (rangeAt Try.prog 38 0).2.1 (rangeAt Try.prog 38 0).2.2 58 [(0, D.ptr 0 0 0), (1, iD most), (3, D.ptr 9 9 0), (7, D.ptr 0 0 0), (2, D.ptr 1 1 0), (4, D.ptr 17 17 0), (8, D.fn (Fn.func 99) [] [D.ptr 41 41 0])]⟩, ⟨152, 152, 97, 97, .b ⟨(o).map dB, 5, true⟩⟩] 160) (fun (x : (a : Rs) ×' (ha : Rok n a) ×' (h0 : a.e = 0) ×' (o : List UInt8) ×' (ho : (o.length : Int) ≤ most) ×' (hR : tlR b most none a o = (tlR b most none s [])) ×' Unit) => match x with | ⟨a, ha, h0, o, ho, hR, _⟩ => mu b none a) [⟨Unit, .ret, fun x => match x with | () => CutS.mk [] [⟨0, 0, 0, 0, .b ⟨[.sl false n 1 (b.map dB), nD ((tlR b most none s []).1).p, nD ((tlR b most none s []).1).e], 70, false⟩⟩, ⟨1, 1, 1, 1, .b ⟨[D.ptr 0 0 0], 65, false⟩⟩, ⟨9, 9, 9, 9, .b ⟨[iD most], 3, false⟩⟩, ⟨17, 17, 17, 17, .b ⟨[(D.ref 152 152 0 (((tlR b most none s []).2).length) 1)], 22, false⟩⟩, ⟨41, 41, 41, 41, .b ⟨[D.ptr 0 0 0], 65, false⟩⟩, ⟨89, 89, 89, 89, .l LoopState.ready none (rangeAt Try.prog 38 0).1 (rangeAt Try.prog 38 0).2.1 (rangeAt Try.prog 38 0).2.2 58 [(0, D.ptr 0 0 0), (1, iD most), (3, D.ptr 9 9 0), (7, D.ptr 0 0 0), (2, D.ptr 1 1 0), (4, D.ptr 17 17 0), (8, D.fn (Fn.func 99) [] [D.ptr 41 41 0])]⟩, ⟨152, 152, 97, 97, .b ⟨((tlR b most none s []).2).map dB, 5, true⟩⟩] 160⟩, ⟨Unit, .ret, fun x => match x with | () => CutS.mk [] [⟨0, 0, 0, 0, .b ⟨[.sl false n 1 (b.map dB), nD ((tlR b most none s []).1).p, nD ((tlR b most none s []).1).e], 70, false⟩⟩, ⟨1, 1, 1, 1, .b ⟨[D.ptr 0 0 0], 65, false⟩⟩, ⟨9, 9, 9, 9, .b ⟨[iD most], 3, false⟩⟩, ⟨17, 17, 17, 17, .b ⟨[(D.ref 152 152 0 (((tlR b most none s []).2).length) 1)], 22, false⟩⟩, ⟨41, 41, 41, 41, .b ⟨[D.ptr 0 0 0], 65, false⟩⟩, ⟨89, 89, 89, 89, .l LoopState.done (some Code.ret) (rangeAt Try.prog 38 0).1 (rangeAt Try.prog 38 0).2.1 (rangeAt Try.prog 38 0).2.2 58 [(0, D.ptr 0 0 0), (1, iD most), (3, D.ptr 9 9 0), (7, D.ptr 0 0 0), (2, D.ptr 1 1 0), (4, D.ptr 17 17 0), (8, D.fn (Fn.func 99) [] [D.ptr 41 41 0])]⟩, ⟨152, 152, 97, 97, .b ⟨((tlR b most none s []).2).map dB, 5, true⟩⟩] 160⟩] 1000 64 (fun | ⟨a, ha, h0, o, ho, hR, _⟩, Q, next1, last1 => (.s 4 (.cl 27 true [0] (.fn q27 (@head_t (b) (n) om om (a) om)) (.s 5 (Hn.inl T_ok mixed false 40 97 (loopAt Try.prog 99 1) (fun (x : (kd : Nat) ×' (la : Bool) ×' (le : Nat) ×' (l1 : List UInt8) ×' (l2 : List UInt8) ×' (c : Rs) ×' (o : List UInt8) ×' (hkd : kd < 4) ×' (hk2 : c.e = 0 → kd ≤ 2) ×' (hle : le < 65536) ×' (hT1 : canE l1 15 = 0) ×' (hT2 : canE l2 15 = 0) ×' (hc : Rok n c) ×' (hp : c.e = 0 → a.p + 3 ≤ c.p) ×' (ho2 : (o.length : Int) ≤ most) ×' (hR : tlR b most (some ⟨kd, la, le, l1, l2⟩) c o = (tlR b most none s [])) ×' Unit) => match x with | ⟨kd, la, le, l1, l2, c, o, hkd, hk2, hle, hT1, hT2, hc, hp, ho2, hR, _⟩ => CutS.mk [(0, D.yl 89 89), (1, D.ptr 41 41 0), (3, D.ptr 176 176 0)] [⟨0, 0, 0, 0, .b ⟨[.sl false n 1 (b.map dB), nD (c).p, nD (c).e], 70, false⟩⟩, ⟨1, 1, 1, 1, .b ⟨[D.ptr 0 0 0], 65, false⟩⟩, ⟨9, 9, 9, 9, .b ⟨[iD most], 3, false⟩⟩, ⟨17, 17, 17, 17, .b ⟨[(D.ref 152 152 0 ((o).length) 1)], 22, false⟩⟩, ⟨41, 41, 41, 41, .b ⟨[D.ptr 0 0 0], 65, false⟩⟩, ⟨89, 89, 89, 89, .l LoopState.ready none (rangeAt Try.prog 38 0).1 (rangeAt Try.prog 38 0).2.1 (rangeAt Try.prog 38 0).2.2 58 [(0, D.ptr 0 0 0), (1, iD most), (3, D.ptr 9 9 0), (7, D.ptr 0 0 0), (2, D.ptr 1 1 0), (4, D.ptr 17 17 0), (8, D.fn (Fn.func 99) [] [D.ptr 41 41 0])]⟩, ⟨152, 152, 152, 152, .b ⟨(o).map dB, 5, true⟩⟩, ⟨160, 160, 168, 168, .b ⟨(symsL l1).map nD, 3, true⟩⟩, ⟨168, 168, 169, 169, .b ⟨(symsL l2).map nD, 3, true⟩⟩, ⟨176, 176, 176, 176, .b ⟨[u8D kd, bD la, nD le] ++ (c16 (cnt l1) ++ [(D.ref 160 160 0 ((symsL l1).length) 1)]) ++ (c16 (cnt l2) ++ [(D.ref 168 168 0 ((symsL l2).length) 1)]), 28, false⟩⟩] 184) (fun (x : (kd : Nat) ×' (la : Bool) ×' (le : Nat) ×' (l1 : List UInt8) ×' (l2 : List UInt8) ×' (c : Rs) ×' (o : List UInt8) ×' (hkd : kd < 4) ×' (hk2 : c.e = 0 → kd ≤ 2) ×' (hle : le < 65536) ×' (hT1 : canE l1 15 = 0) ×' (hT2 : canE l2 15 = 0) ×' (hc : Rok n c) ×' (hp : c.e = 0 → a.p + 3 ≤ c.p) ×' (ho2 : (o.length : Int) ≤ most) ×' (hR : tlR b most (some ⟨kd, la, le, l1, l2⟩) c o = (tlR b most none s [])) ×' Unit) => match x with | ⟨kd, la, le, l1, l2, c, o, hkd, hk2, hle, hT1, hT2, hc, hp, ho2, hR, _⟩ => mu b (some ⟨kd, la, le, l1, l2⟩) c) [⟨(la2 : Bool) ×' (le2 : Nat) ×' (l1 : List UInt8) ×' (l2 : List UInt8) ×' (kd : Nat) ×' (c2 : Rs) ×' (o2 : List UInt8) ×' (hc2 : Rok n c2) ×' (hp2 : c2.e = 0 → a.p + 3 ≤ c2.p) ×' (ho3 : (o2.length : Int) ≤ most) ×' (hE : (c2.e ≠ 0 ∨ la2 = true) → (tlR b most none s []) = (c2, o2)) ×' (hO : c2.e = 0 → la2 = false → tlR b most none c2 o2 = (tlR b most none s [])) ×' Unit, .exit 2, fun x => match x with | ⟨la2, le2, l1, l2, kd, c2, o2, hc2, hp2, ho3, hE, hO, _⟩ => CutS.mk [(0, D.yl 89 89), (1, D.ptr 41 41 0), (3, D.ptr 176 176 0)] [⟨0, 0, 0, 0, .b ⟨[.sl false n 1 (b.map dB), nD (c2).p, nD (c2).e], 70, false⟩⟩, ⟨1, 1, 1, 1, .b ⟨[D.ptr 0 0 0], 65, false⟩⟩, ⟨9, 9, 9, 9, .b ⟨[iD most], 3, false⟩⟩, ⟨17, 17, 17, 17, .b ⟨[(D.ref 152 152 0 ((o2).length) 1)], 22, false⟩⟩, ⟨41, 41, 41, 41, .b ⟨[D.ptr 0 0 0], 65, false⟩⟩, ⟨89, 89, 89, 89, .l LoopState.ready none (rangeAt Try.prog 38 0).1 (rangeAt Try.prog 38 0).2.1 (rangeAt Try.prog 38 0).2.2 58 [(0, D.ptr 0 0 0), (1, iD most), (3, D.ptr 9 9 0), (7, D.ptr 0 0 0), (2, D.ptr 1 1 0), (4, D.ptr 17 17 0), (8, D.fn (Fn.func 99) [] [D.ptr 41 41 0])]⟩, ⟨152, 152, 152, 152, .b ⟨(o2).map dB, 5, true⟩⟩, ⟨160, 160, 168, 168, .b ⟨(symsL l1).map nD, 3, true⟩⟩, ⟨168, 168, 169, 169, .b ⟨(symsL l2).map nD, 3, true⟩⟩, ⟨176, 176, 176, 176, .b ⟨[u8D kd, bD la2, nD le2] ++ (c16 (cnt l1) ++ [(D.ref 160 160 0 ((symsL l1).length) 1)]) ++ (c16 (cnt l2) ++ [(D.ref 168 168 0 ((symsL l2).length) 1)]), 28, false⟩⟩] 184⟩, ⟨Unit, .ret, fun x => match x with | () => CutS.mk [] [⟨0, 0, 0, 0, .b ⟨[.sl false n 1 (b.map dB), nD ((tlR b most none s []).1).p, nD ((tlR b most none s []).1).e], 70, false⟩⟩, ⟨1, 1, 1, 1, .b ⟨[D.ptr 0 0 0], 65, false⟩⟩, ⟨9, 9, 9, 9, .b ⟨[iD most], 3, false⟩⟩, ⟨17, 17, 17, 17, .b ⟨[(D.ref 152 152 0 (((tlR b most none s []).2).length) 1)], 22, false⟩⟩, ⟨41, 41, 41, 41, .b ⟨[D.ptr 0 0 0], 65, false⟩⟩, ⟨89, 89, 89, 89, .l LoopState.done (some Code.ret) (rangeAt Try.prog 38 0).1 (rangeAt Try.prog 38 0).2.1 (rangeAt Try.prog 38 0).2.2 58 [(0, D.ptr 0 0 0), (1, iD most), (3, D.ptr 9 9 0), (7, D.ptr 0 0 0), (2, D.ptr 1 1 0), (4, D.ptr 17 17 0), (8, D.fn (Fn.func 99) [] [D.ptr 41 41 0])]⟩, ⟨152, 152, 152, 152, .b ⟨((tlR b most none s []).2).map dB, 5, true⟩⟩] 184⟩] 1000 64 (fun | ⟨kd, la, le, l1, l2, c, o, hkd, hk2, hle, hT1, hT2, hc, hp, ho2, hR, _⟩, Q, next2, last2 => (.s 8 (.call 31 true [0, 160, 168] (true) wr ([D.ptr 0 0 0, D.agg [D.v (Value.int .u8 (↑kd : Int)), D.v (.bool la), nD le, nD (cnt l1 0), nD (cnt l1 1), nD (cnt l1 2), nD (cnt l1 3), nD (cnt l1 4), nD (cnt l1 5), nD (cnt l1 6), nD (cnt l1 7), nD (cnt l1 8), nD (cnt l1 9), nD (cnt l1 10), nD (cnt l1 11), nD (cnt l1 12), nD (cnt l1 13), nD (cnt l1 14), nD (cnt l1 15), D.ref 1 1 0 (List.length (symsL l1)) 1, nD (cnt l2 0), nD (cnt l2 1), nD (cnt l2 2), nD (cnt l2 3), nD (cnt l2 4), nD (cnt l2 5), nD (cnt l2 6), nD (cnt l2 7), nD (cnt l2 8), nD (cnt l2 9), nD (cnt l2 10), nD (cnt l2 11), nD (cnt l2 12), nD (cnt l2 13), nD (cnt l2 14), nD (cnt l2 15), D.ref 2 2 0 (List.length (symsL l2)) 1]]) _ zf2 (true && (closedL (List.map nD (symsL l1)) && (closedL (List.map nD (symsL l2)) && true))) (by (simp; done)) _ _ _ (CallOk.fn (FnOk.of Try.func31 rfl rfl) (@step_q (b) (n) om om (c) om (kd) (le) (la) om om (l1) (l2) om om)) (.s 25 (.br ((↑(Rs.e (Prod.fst (stR b kd le l1 l2 c))) : Int) != 0) (fun p0 => have p0f := of_bne_t p0; (.s 2 (Hn.last last2 0 (⟨(la), (le), (l1), (l2), (kd), ((stR b kd le l1 l2 c).1), (o), (by (subst hn; exact Rok.st hc)), om, om, zf9, om, ⟨⟩⟩ : (la2 : Bool) ×' (le2 : Nat) ×' (l1 : List UInt8) ×' (l2 : List UInt8) ×' (kd : Nat) ×' (c2 : Rs) ×' (o2 : List UInt8) ×' (hc2 : Rok n c2) ×' (hp2 : c2.e = 0 → a.p + 3 ≤ c2.p) ×' (ho3 : (o2.length : Int) ≤ most) ×' (hE : (c2.e ≠ 0 ∨ la2 = true) → (tlR b most none s []) = (c2, o2)) ×' (hO : c2.e = 0 → la2 = false → tlR b most none c2 o2 = (tlR b most none s [])) ×' Unit) rfl [(0, 0), (1, 1), (9, 9), (17, 17), (41, 41), (89, 89), (152, 152), (160, 160), (168, 168), (176, 176)] ro))) (fun p0 => have p0f := of_bne_f p0; (.s 1 (.br (Prod.snd (Prod.snd (Prod.snd (Prod.snd (stR b kd le l1 l2 c))))) (fun p1 => (Hn.last last2 0 (⟨(la), (le), (l1), (l2), (kd), ((stR b kd le l1 l2 c).1), (o), (by (subst hn; exact Rok.st hc)), (by (exact fun q => Nat.le_trans (hp (Adv.st b kd le l1 l2 c q).1) (Adv.st b kd le l1 l2 c q).2)), om, zf9, (by (exact fun q q2 => tl_out' hn hc hR q q2 asm)), ⟨⟩⟩ : (la2 : Bool) ×' (le2 : Nat) ×' (l1 : List UInt8) ×' (l2 : List UInt8) ×' (kd : Nat) ×' (c2 : Rs) ×' (o2 : List UInt8) ×' (hc2 : Rok n c2) ×' (hp2 : c2.e = 0 → a.p + 3 ≤ c2.p) ×' (ho3 : (o2.length : Int) ≤ most) ×' (hE : (c2.e ≠ 0 ∨ la2 = true) → (tlR b most none s []) = (c2, o2)) ×' (hO : c2.e = 0 → la2 = false → tlR b most none c2 o2 = (tlR b most none s [])) ×' Unit) rfl [(0, 0), (1, 1), (9, 9), (17, 17), (41, 41), (89, 89), (152, 152), (160, 160), (168, 168), (176, 176)] ro)) (fun p1 => (.s 8 (.ow ((↑le : Int) - 1) (.s 1 (.opt (minO IntKind.i64 true 0 ((↑le : Int) - 1)) (iD (max 0 ((↑le : Int) - 1))) (maxO_max _ _ _) (.s 24 (.opt (minO IntKind.i64 true 1 (↑(Prod.fst (Prod.snd (Prod.snd (Prod.snd (stR b kd le l1 l2 c))))) : Int)) (iD (max 1 (↑(Prod.fst (Prod.snd (Prod.snd (Prod.snd (stR b kd le l1 l2 c))))) : Int))) (maxO_max _ _ _) (.s 17 (.cl 47 true [0] (.fn q47 (@fail_t (b) (n) om om (Prod.fst (stR b kd le l1 l2 c)) (decide ((↑(Prod.fst (Prod.snd (Prod.snd (stR b kd le l1 l2 c)))) : Int) ≤ (↑(List.length o) : Int))) (60) om)) (.s 10 (.op ((↑(List.length o) : Int) + max 1 (↑(Prod.fst (Prod.snd (Prod.snd (Prod.snd (stR b kd le l1 l2 c))))) : Int)) zf3 (.s 6 (.cl 47 true [0] (.fn q47 (@fail_t (b) (n) om om (fl (Prod.fst (stR b kd le l1 l2 c)) (decide ((↑(Prod.fst (Prod.snd (Prod.snd (stR b kd le l1 l2 c)))) : Int) ≤ (↑(List.length o) : Int))) 60) (decide ((↑(List.length o) : Int) + max 1 (↑(Prod.fst (Prod.snd (Prod.snd (Prod.snd (stR b kd le l1 l2 c))))) : Int) ≤ most)) (140) om)) (.s 12 (.br ((↑(Rs.e (fl (fl (Prod.fst (stR b kd le l1 l2 c)) (decide ((↑(Prod.fst (Prod.snd (Prod.snd (stR b kd le l1 l2 c)))) : Int) ≤ (↑(List.length o) : Int))) 60) (decide ((↑(List.length o) : Int) + max 1 (↑(Prod.fst (Prod.snd (Prod.snd (Prod.snd (stR b kd le l1 l2 c))))) : Int) ≤ most)) 140)) : Int) != 0) (fun p2 => have p2f := of_bne_t p2; (.s 8 (.blk 0 0 (Blk.mk [D.sl false n 1 (List.map dB b), nD (Rs.p (fl (fl (Prod.fst (stR b kd le l1 l2 c)) (decide ((↑(Prod.fst (Prod.snd (Prod.snd (stR b kd le l1 l2 c)))) : Int) ≤ (↑(List.length o) : Int))) 60) (decide ((↑(List.length o) : Int) + max 1 (↑(Prod.fst (Prod.snd (Prod.snd (Prod.snd (stR b kd le l1 l2 c))))) : Int) ≤ most)) 140)), nD (Rs.e (fl (fl (Prod.fst (stR b kd le l1 l2 c)) (decide ((↑(Prod.fst (Prod.snd (Prod.snd (stR b kd le l1 l2 c)))) : Int) ≤ (↑(List.length o) : Int))) 60) (decide ((↑(List.length o) : Int) + max 1 (↑(Prod.fst (Prod.snd (Prod.snd (Prod.snd (stR b kd le l1 l2 c))))) : Int) ≤ most)) 140))] 70 false) (Blk.mk [D.sl false n 1 (List.map dB b), nD (Rs.p (Prod.fst (tlR b most none s []))), nD (Rs.e (Prod.fst (tlR b most none s [])))] 70 false) zf4 (.blk 17 17 (Blk.mk [D.ref 152 152 0 (List.length o) 1] 22 false) (Blk.mk [D.ref 152 152 0 (List.length (Prod.snd (tlR b most none s []))) 1] 22 false) zf4 (.blk 152 152 (Blk.mk (List.map dB o) 5 true) (Blk.mk (List.map dB (Prod.snd (tlR b most none s []))) 5 true) zf4 (Hn.last last2 1 (() : Unit) rfl [(0, 0), (1, 1), (9, 9), (17, 17), (41, 41), (89, 89), (152, 152)] ro)))))) (fun p2 => have p2f := of_bne_f p2; (.s 8 (.br ((↑(Prod.fst (Prod.snd (Prod.snd (Prod.snd (stR b kd le l1 l2 c))))) : Int) == 0) (fun p3 => have p3f := eq_of_beq p3; (.s 12 (.chk (true && Nat.beq (List.length o * 1) (List.length (List.map dB o)) && true && true && true && true && Nat.ble ((List.length o + 1) * 1) 140737488355328) zf10 (.s 5 (.blk 176 176 (Blk.mk [D.v (Value.int .u8 (↑kd : Int)), D.v (.bool la), iD (max 0 ((↑le : Int) - 1)), nD (cnt l1 0), nD (cnt l1 1), nD (cnt l1 2), nD (cnt l1 3), nD (cnt l1 4), nD (cnt l1 5), nD (cnt l1 6), nD (cnt l1 7), nD (cnt l1 8), nD (cnt l1 9), nD (cnt l1 10), nD (cnt l1 11), nD (cnt l1 12), nD (cnt l1 13), nD (cnt l1 14), nD (cnt l1 15), D.ref 160 160 0 (List.length (symsL l1)) 1, nD (cnt l2 0), nD (cnt l2 1), nD (cnt l2 2), nD (cnt l2 3), nD (cnt l2 4), nD (cnt l2 5), nD (cnt l2 6), nD (cnt l2 7), nD (cnt l2 8), nD (cnt l2 9), nD (cnt l2 10), nD (cnt l2 11), nD (cnt l2 12), nD (cnt l2 13), nD (cnt l2 14), nD (cnt l2 15), D.ref 168 168 0 (List.length (symsL l2)) 1] 28 false) (Blk.mk [D.v (Value.int .u8 (↑kd : Int)), D.v (.bool la), nD (le - 1), nD (cnt l1 0), nD (cnt l1 1), nD (cnt l1 2), nD (cnt l1 3), nD (cnt l1 4), nD (cnt l1 5), nD (cnt l1 6), nD (cnt l1 7), nD (cnt l1 8), nD (cnt l1 9), nD (cnt l1 10), nD (cnt l1 11), nD (cnt l1 12), nD (cnt l1 13), nD (cnt l1 14), nD (cnt l1 15), D.ref 160 160 0 (List.length (symsL l1)) 1, nD (cnt l2 0), nD (cnt l2 1), nD (cnt l2 2), nD (cnt l2 3), nD (cnt l2 4), nD (cnt l2 5), nD (cnt l2 6), nD (cnt l2 7), nD (cnt l2 8), nD (cnt l2 9), nD (cnt l2 10), nD (cnt l2 11), nD (cnt l2 12), nD (cnt l2 13), nD (cnt l2 14), nD (cnt l2 15), D.ref 168 168 0 (List.length (symsL l2)) 1] 28 false) (by (simp;  have h9 := @st_bd b kd le l1 l2 c; omega)) (.blk 17 17 (Blk.mk [D.ref 656 656 0 (List.length o + 1) 1] 22 false) (Blk.mk [D.ref 656 656 0 (List.length (plT (Prod.fst (Prod.snd (stR b kd le l1 l2 c))) (Prod.fst (Prod.snd (Prod.snd (stR b kd le l1 l2 c)))) (Prod.fst (Prod.snd (Prod.snd (Prod.snd (stR b kd le l1 l2 c))))) o)) 1] 22 false) (by ( exact pl_r0 om)) (.blk 656 656 (Blk.mk (List.map dB o ++ [D.v (Value.int .u8 (↑(Prod.fst (Prod.snd (stR b kd le l1 l2 c))) : Int))]) 5 true) (Blk.mk (List.map dB (plT (Prod.fst (Prod.snd (stR b kd le l1 l2 c))) (Prod.fst (Prod.snd (Prod.snd (stR b kd le l1 l2 c)))) (Prod.fst (Prod.snd (Prod.snd (Prod.snd (stR b kd le l1 l2 c))))) o)) 5 true) (by ( have h9 := @st_bd b kd le l1 l2 c; exact pl_b0 om om)) (Hn.next next2 ⟨(kd), (la), (le - 1), (l1), (l2), ((tkC most (stR b kd le l1 l2 c).2.2.1 (stR b kd le l1 l2 c).2.2.2.1 (stR b kd le l1 l2 c).1 o)), (plT (stR b kd le l1 l2 c).2.1 (stR b kd le l1 l2 c).2.2.1 (stR b kd le l1 l2 c).2.2.2.1 o), om, (by (exact fun q => hk2 (Adv.st b kd le l1 l2 c (tkC_e q).1).1)), om, om, om, (by (subst hn; exact Rok.tc (Rok.st hc))), (by (exact fun q => go_p hp q)), zf11, zf12, ⟨⟩⟩ zf13 [(0, 0), (1, 1), (9, 9), (17, 17), (41, 41), (89, 89), (656, 656), (160, 160), (168, 168), (176, 176)] ro)))))))) (fun p3 => have p3f := of_beq_f p3; (.s 2 (.two (.s 2 (.t (decide (0 < max 1 (↑(Prod.fst (Prod.snd (Prod.snd (Prod.snd (stR b kd le l1 l2 c))))) : Int))) (by (refine decide_eq_true ?_; (omega))) (.s 19 (.op ((↑(List.length o) : Int) - (↑(Prod.fst (Prod.snd (Prod.snd (stR b kd le l1 l2 c)))) : Int)) zf3 (.s 1 (.chk (decide (0 ≤ (↑(List.length o) : Int) - (↑(Prod.fst (Prod.snd (Prod.snd (stR b kd le l1 l2 c)))) : Int)) && decide ((↑(List.length o) : Int) - (↑(Prod.fst (Prod.snd (Prod.snd (stR b kd le l1 l2 c)))) : Int) < (↑(List.length o) : Int))) (by ((refine and_tI ?_ ?_) <;> (repeat' (first | (refine and_tI ?_ ?_) | (with_reducible rfl) | (refine decide_eq_true ?_) | (refine Nat.ble_eq_true_of_le ?_) | (refine nbeq ?_))) <;> ( have h9 := @st_bd b kd le l1 l2 c; have q := tkC_e (most := most) (d := (stR b kd le l1 l2 c).2.2.1) (long := (stR b kd le l1 l2 c).2.2.2.1) (s := (stR b kd le l1 l2 c).1) (o := o) (show (fl (fl (stR b kd le l1 l2 c).1 (decide (((stR b kd le l1 l2 c).2.2.1 : Int) ≤ ((o.length : Nat) : Int))) 60) (decide (((o.length : Nat) : Int) + max 1 (((stR b kd le l1 l2 c).2.2.2.1 : Nat) : Int) ≤ most)) 140).e = 0 by omega); have h7 := @st_d1 b kd le l1 l2 c om om; omega))) (.s 2 (.opt ((List.map dB o)[0 + Int.toNat ((↑(List.length o) : Int) - (↑(Prod.fst (Prod.snd (Prod.snd (stR b kd le l1 l2 c)))) : Int)) * 1]?) (dB (List.getD o (0 + Int.toNat ((↑(List.length o) : Int) - (↑(Prod.fst (Prod.snd (Prod.snd (stR b kd le l1 l2 c)))) : Int)) * 1) default)) (map_get _ _ (by ( have h9 := @st_bd b kd le l1 l2 c; have q := tkC_e (most := most) (d := (stR b kd le l1 l2 c).2.2.1) (long := (stR b kd le l1 l2 c).2.2.2.1) (s := (stR b kd le l1 l2 c).1) (o := o) (show (fl (fl (stR b kd le l1 l2 c).1 (decide (((stR b kd le l1 l2 c).2.2.1 : Int) ≤ ((o.length : Nat) : Int))) 60) (decide (((o.length : Nat) : Int) + max 1 (((stR b kd le l1 l2 c).2.2.2.1 : Nat) : Int) ≤ most)) 140).e = 0 by omega); have h7 := @st_d1 b kd le l1 l2 c om om; omega))) (.s 3 (.chk (true && Nat.beq (List.length o * 1) (List.length (List.map dB o)) && true && true && true && true && Nat.ble ((List.length o + 1) * 1) 140737488355328) zf10 (.s 7 (.blk 17 17 (Blk.mk [D.ref 728 728 0 (List.length o + 1) 1] 22 false) (Blk.mk [D.ref 728 728 0 (List.length (cpF (Prod.fst (Prod.snd (Prod.snd (stR b kd le l1 l2 c)))) 1 o)) 1] 22 false) (by (exact cp_r0)) (.blk 728 728 (Blk.mk (List.map dB o ++ [D.v (Value.int .u8 (↑(UInt8.toNat (List.getD o (0 + Int.toNat ((↑(List.length o) : Int) - (↑(Prod.fst (Prod.snd (Prod.snd (stR b kd le l1 l2 c)))) : Int)) * 1) default)) : Int))]) 5 true) (Blk.mk (List.map dB (cpF (Prod.fst (Prod.snd (Prod.snd (stR b kd le l1 l2 c)))) 1 o)) 5 true) zf14 (Hn.inl T_ok mixed true 58 392 (loopAt Try.prog 38 0) (fun (x : (j : Nat) ×' (hj : 1 ≤ j ∧ j ≤ (stR b kd le l1 l2 c).2.2.2.1) ×' Unit) => match x with | ⟨j, hj, _⟩ => CutS.mk [(2, D.ptr 1 1 0), (3, D.ptr 9 9 0), (4, D.ptr 17 17 0), (5, D.ptr 472 472 0), (6, iD (max 1 (↑(Prod.fst (Prod.snd (Prod.snd (Prod.snd (stR b kd le l1 l2 c))))) : Int))), (8, D.fn (Fn.func 99) [] [D.ptr 41 41 0]), (9, D.agg [D.v (Value.int .u8 (↑(Prod.fst (Prod.snd (stR b kd le l1 l2 c))) : Int)), nD (Prod.fst (Prod.snd (Prod.snd (stR b kd le l1 l2 c)))), nD (Prod.fst (Prod.snd (Prod.snd (Prod.snd (stR b kd le l1 l2 c)))))]), (42, iD (max 1 (↑(Prod.fst (Prod.snd (Prod.snd (Prod.snd (stR b kd le l1 l2 c))))) : Int))), (43, nD j)] [⟨0, 0, 0, 0, .b ⟨[D.sl false n 1 (List.map dB b), nD (Rs.p (fl (fl (Prod.fst (stR b kd le l1 l2 c)) (decide ((↑(Prod.fst (Prod.snd (Prod.snd (stR b kd le l1 l2 c)))) : Int) ≤ (↑(List.length o) : Int))) 60) (decide ((↑(List.length o) : Int) + max 1 (↑(Prod.fst (Prod.snd (Prod.snd (Prod.snd (stR b kd le l1 l2 c))))) : Int) ≤ most)) 140)), nD (Rs.e (fl (fl (Prod.fst (stR b kd le l1 l2 c)) (decide ((↑(Prod.fst (Prod.snd (Prod.snd (stR b kd le l1 l2 c)))) : Int) ≤ (↑(List.length o) : Int))) 60) (decide ((↑(List.length o) : Int) + max 1 (↑(Prod.fst (Prod.snd (Prod.snd (Prod.snd (stR b kd le l1 l2 c))))) : Int) ≤ most)) 140))], 70, false⟩⟩, ⟨1, 1, 1, 1, .b ⟨[D.ptr 0 0 0], 65, false⟩⟩, ⟨9, 9, 9, 9, .b ⟨[iD most], 3, false⟩⟩, ⟨17, 17, 17, 17, .b ⟨[(D.ref 488 488 0 ((cpF (stR b kd le l1 l2 c).2.2.1 j o).length) 1)], 22, false⟩⟩, ⟨41, 41, 41, 41, .b ⟨[D.ptr 0 0 0], 65, false⟩⟩, ⟨89, 89, 89, 89, .l LoopState.busy none (rangeAt Try.prog 38 0).1 (rangeAt Try.prog 38 0).2.1 (rangeAt Try.prog 38 0).2.2 58 [(0, D.ptr 0 0 0), (1, iD most), (3, D.ptr 9 9 0), (7, D.ptr 0 0 0), (2, D.ptr 1 1 0), (4, D.ptr 17 17 0), (8, D.fn (Fn.func 99) [] [D.ptr 41 41 0])]⟩, ⟨160, 160, 160, 160, .b ⟨List.map nD (symsL l1), 3, true⟩⟩, ⟨168, 168, 168, 168, .b ⟨List.map nD (symsL l2), 3, true⟩⟩, ⟨176, 176, 176, 176, .b ⟨[D.v (Value.int .u8 (↑kd : Int)), D.v (.bool la), iD (max 0 ((↑le : Int) - 1)), nD (cnt l1 0), nD (cnt l1 1), nD (cnt l1 2), nD (cnt l1 3), nD (cnt l1 4), nD (cnt l1 5), nD (cnt l1 6), nD (cnt l1 7), nD (cnt l1 8), nD (cnt l1 9), nD (cnt l1 10), nD (cnt l1 11), nD (cnt l1 12), nD (cnt l1 13), nD (cnt l1 14), nD (cnt l1 15), D.ref 160 160 0 (List.length (symsL l1)) 1, nD (cnt l2 0), nD (cnt l2 1), nD (cnt l2 2), nD (cnt l2 3), nD (cnt l2 4), nD (cnt l2 5), nD (cnt l2 6), nD (cnt l2 7), nD (cnt l2 8), nD (cnt l2 9), nD (cnt l2 10), nD (cnt l2 11), nD (cnt l2 12), nD (cnt l2 13), nD (cnt l2 14), nD (cnt l2 15), D.ref 168 168 0 (List.length (symsL l2)) 1], 28, false⟩⟩, ⟨232, 232, 232, 232, .b ⟨[D.v (Value.int .u8 (↑(Prod.fst (Prod.snd (stR b kd le l1 l2 c))) : Int)), nD (Prod.fst (Prod.snd (Prod.snd (stR b kd le l1 l2 c)))), nD (Prod.fst (Prod.snd (Prod.snd (Prod.snd (stR b kd le l1 l2 c)))))], 36, false⟩⟩, ⟨472, 472, 392, 392, .b ⟨[D.v (Value.int .u8 (↑(Prod.fst (Prod.snd (stR b kd le l1 l2 c))) : Int)), nD (Prod.fst (Prod.snd (Prod.snd (stR b kd le l1 l2 c)))), nD (Prod.fst (Prod.snd (Prod.snd (Prod.snd (stR b kd le l1 l2 c)))))], 36, false⟩⟩, ⟨480, 480, 720, 720, .b ⟨[D.v (Value.int .u8 (↑(UInt8.toNat (List.getD o (0 + Int.toNat ((↑(List.length o) : Int) - (↑(Prod.fst (Prod.snd (Prod.snd (stR b kd le l1 l2 c)))) : Int)) * 1) default)) : Int))], 5, false⟩⟩, ⟨488, 488, 728, 728, .b ⟨(cpF (stR b kd le l1 l2 c).2.2.1 j o).map dB, 5, true⟩⟩] 496) (fun (x : (j : Nat) ×' (hj : 1 ≤ j ∧ j ≤ (stR b kd le l1 l2 c).2.2.2.1) ×' Unit) => match x with | ⟨j, hj, _⟩ => (stR b kd le l1 l2 c).2.2.2.1 - j) [⟨Unit, .exit 2, fun x => match x with | () => CutS.mk [(2, D.ptr 1 1 0), (3, D.ptr 9 9 0), (4, D.ptr 17 17 0), (5, D.ptr 472 472 0), (6, iD (max 1 (↑(Prod.fst (Prod.snd (Prod.snd (Prod.snd (stR b kd le l1 l2 c))))) : Int))), (8, D.fn (Fn.func 99) [] [D.ptr 41 41 0]), (9, D.agg [D.v (Value.int .u8 (↑(Prod.fst (Prod.snd (stR b kd le l1 l2 c))) : Int)), nD (Prod.fst (Prod.snd (Prod.snd (stR b kd le l1 l2 c)))), nD (Prod.fst (Prod.snd (Prod.snd (Prod.snd (stR b kd le l1 l2 c)))))])] [⟨0, 0, 0, 0, .b ⟨[D.sl false n 1 (List.map dB b), nD (Rs.p (fl (fl (Prod.fst (stR b kd le l1 l2 c)) (decide ((↑(Prod.fst (Prod.snd (Prod.snd (stR b kd le l1 l2 c)))) : Int) ≤ (↑(List.length o) : Int))) 60) (decide ((↑(List.length o) : Int) + max 1 (↑(Prod.fst (Prod.snd (Prod.snd (Prod.snd (stR b kd le l1 l2 c))))) : Int) ≤ most)) 140)), nD (Rs.e (fl (fl (Prod.fst (stR b kd le l1 l2 c)) (decide ((↑(Prod.fst (Prod.snd (Prod.snd (stR b kd le l1 l2 c)))) : Int) ≤ (↑(List.length o) : Int))) 60) (decide ((↑(List.length o) : Int) + max 1 (↑(Prod.fst (Prod.snd (Prod.snd (Prod.snd (stR b kd le l1 l2 c))))) : Int) ≤ most)) 140))], 70, false⟩⟩, ⟨1, 1, 1, 1, .b ⟨[D.ptr 0 0 0], 65, false⟩⟩, ⟨9, 9, 9, 9, .b ⟨[iD most], 3, false⟩⟩, ⟨17, 17, 17, 17, .b ⟨[(D.ref 488 488 0 ((cpF (stR b kd le l1 l2 c).2.2.1 (stR b kd le l1 l2 c).2.2.2.1 o).length) 1)], 22, false⟩⟩, ⟨41, 41, 41, 41, .b ⟨[D.ptr 0 0 0], 65, false⟩⟩, ⟨89, 89, 89, 89, .l LoopState.busy none (rangeAt Try.prog 38 0).1 (rangeAt Try.prog 38 0).2.1 (rangeAt Try.prog 38 0).2.2 58 [(0, D.ptr 0 0 0), (1, iD most), (3, D.ptr 9 9 0), (7, D.ptr 0 0 0), (2, D.ptr 1 1 0), (4, D.ptr 17 17 0), (8, D.fn (Fn.func 99) [] [D.ptr 41 41 0])]⟩, ⟨160, 160, 160, 160, .b ⟨List.map nD (symsL l1), 3, true⟩⟩, ⟨168, 168, 168, 168, .b ⟨List.map nD (symsL l2), 3, true⟩⟩, ⟨176, 176, 176, 176, .b ⟨[D.v (Value.int .u8 (↑kd : Int)), D.v (.bool la), iD (max 0 ((↑le : Int) - 1)), nD (cnt l1 0), nD (cnt l1 1), nD (cnt l1 2), nD (cnt l1 3), nD (cnt l1 4), nD (cnt l1 5), nD (cnt l1 6), nD (cnt l1 7), nD (cnt l1 8), nD (cnt l1 9), nD (cnt l1 10), nD (cnt l1 11), nD (cnt l1 12), nD (cnt l1 13), nD (cnt l1 14), nD (cnt l1 15), D.ref 160 160 0 (List.length (symsL l1)) 1, nD (cnt l2 0), nD (cnt l2 1), nD (cnt l2 2), nD (cnt l2 3), nD (cnt l2 4), nD (cnt l2 5), nD (cnt l2 6), nD (cnt l2 7), nD (cnt l2 8), nD (cnt l2 9), nD (cnt l2 10), nD (cnt l2 11), nD (cnt l2 12), nD (cnt l2 13), nD (cnt l2 14), nD (cnt l2 15), D.ref 168 168 0 (List.length (symsL l2)) 1], 28, false⟩⟩, ⟨232, 232, 232, 232, .b ⟨[D.v (Value.int .u8 (↑(Prod.fst (Prod.snd (stR b kd le l1 l2 c))) : Int)), nD (Prod.fst (Prod.snd (Prod.snd (stR b kd le l1 l2 c)))), nD (Prod.fst (Prod.snd (Prod.snd (Prod.snd (stR b kd le l1 l2 c)))))], 36, false⟩⟩, ⟨472, 472, 392, 392, .b ⟨[D.v (Value.int .u8 (↑(Prod.fst (Prod.snd (stR b kd le l1 l2 c))) : Int)), nD (Prod.fst (Prod.snd (Prod.snd (stR b kd le l1 l2 c)))), nD (Prod.fst (Prod.snd (Prod.snd (Prod.snd (stR b kd le l1 l2 c)))))], 36, false⟩⟩, ⟨480, 480, 720, 720, .b ⟨[D.v (Value.int .u8 (↑(UInt8.toNat (List.getD o (0 + Int.toNat ((↑(List.length o) : Int) - (↑(Prod.fst (Prod.snd (Prod.snd (stR b kd le l1 l2 c)))) : Int)) * 1) default)) : Int))], 5, false⟩⟩, ⟨488, 488, 728, 728, .b ⟨(cpF (stR b kd le l1 l2 c).2.2.1 (stR b kd le l1 l2 c).2.2.2.1 o).map dB, 5, true⟩⟩] 496⟩] 1000 64 (fun | ⟨j, hj, _⟩, Q, next3, last3 => (.s 2 (.br (decide ((↑j : Int) < max 1 (↑(Prod.fst (Prod.snd (Prod.snd (Prod.snd (stR b kd le l1 l2 c))))) : Int))) (fun p4 => have p4f := odt p4; (.s 19 (.op ((↑(List.length (cpF (Prod.fst (Prod.snd (Prod.snd (stR b kd le l1 l2 c)))) j o)) : Int) - (↑(Prod.fst (Prod.snd (Prod.snd (stR b kd le l1 l2 c)))) : Int)) zf15 (.s 1 (.chk (decide (0 ≤ (↑(List.length (cpF (Prod.fst (Prod.snd (Prod.snd (stR b kd le l1 l2 c)))) j o)) : Int) - (↑(Prod.fst (Prod.snd (Prod.snd (stR b kd le l1 l2 c)))) : Int)) && decide ((↑(List.length (cpF (Prod.fst (Prod.snd (Prod.snd (stR b kd le l1 l2 c)))) j o)) : Int) - (↑(Prod.fst (Prod.snd (Prod.snd (stR b kd le l1 l2 c)))) : Int) < (↑(List.length (cpF (Prod.fst (Prod.snd (Prod.snd (stR b kd le l1 l2 c)))) j o)) : Int))) (by ((refine and_tI ?_ ?_) <;> (repeat' (first | (refine and_tI ?_ ?_) | (with_reducible rfl) | (refine decide_eq_true ?_) | (refine Nat.ble_eq_true_of_le ?_) | (refine nbeq ?_))) <;> ( have h9 := @st_bd b kd le l1 l2 c; have q := tkC_e (most := most) (d := (stR b kd le l1 l2 c).2.2.1) (long := (stR b kd le l1 l2 c).2.2.2.1) (s := (stR b kd le l1 l2 c).1) (o := o) (show (fl (fl (stR b kd le l1 l2 c).1 (decide (((stR b kd le l1 l2 c).2.2.1 : Int) ≤ ((o.length : Nat) : Int))) 60) (decide (((o.length : Nat) : Int) + max 1 (((stR b kd le l1 l2 c).2.2.2.1 : Nat) : Int) ≤ most)) 140).e = 0 by omega); have h8 := cpF_len (stR b kd le l1 l2 c).2.2.1 o j; have h7 := @st_d1 b kd le l1 l2 c om om; omega))) (.s 2 (.opt ((List.map dB (cpF (Prod.fst (Prod.snd (Prod.snd (stR b kd le l1 l2 c)))) j o))[0 + Int.toNat ((↑(List.length (cpF (Prod.fst (Prod.snd (Prod.snd (stR b kd le l1 l2 c)))) j o)) : Int) - (↑(Prod.fst (Prod.snd (Prod.snd (stR b kd le l1 l2 c)))) : Int)) * 1]?) (dB (List.getD (cpF (Prod.fst (Prod.snd (Prod.snd (stR b kd le l1 l2 c)))) j o) (0 + Int.toNat ((↑(List.length (cpF (Prod.fst (Prod.snd (Prod.snd (stR b kd le l1 l2 c)))) j o)) : Int) - (↑(Prod.fst (Prod.snd (Prod.snd (stR b kd le l1 l2 c)))) : Int)) * 1) default)) (map_get _ _ zf15) (.s 3 (.chk (true && Nat.beq (List.length (cpF (Prod.fst (Prod.snd (Prod.snd (stR b kd le l1 l2 c)))) j o) * 1) (List.length (List.map dB (cpF (Prod.fst (Prod.snd (Prod.snd (stR b kd le l1 l2 c)))) j o))) && true && true && true && true && Nat.ble ((List.length (cpF (Prod.fst (Prod.snd (Prod.snd (stR b kd le l1 l2 c)))) j o) + 1) * 1) 140737488355328) (by (simp only [List.length_map, Nat.mul_one, Nat.beq_refl, Bool.true_and, Bool.and_true];  have h9 := @st_bd b kd le l1 l2 c; have q := tkC_e (most := most) (d := (stR b kd le l1 l2 c).2.2.1) (long := (stR b kd le l1 l2 c).2.2.2.1) (s := (stR b kd le l1 l2 c).1) (o := o) (show (fl (fl (stR b kd le l1 l2 c).1 (decide (((stR b kd le l1 l2 c).2.2.1 : Int) ≤ ((o.length : Nat) : Int))) 60) (decide (((o.length : Nat) : Int) + max 1 (((stR b kd le l1 l2 c).2.2.2.1 : Nat) : Int) ≤ most)) 140).e = 0 by omega); have h8 := cpF_len (stR b kd le l1 l2 c).2.2.1 o j; have h7 := @st_d1 b kd le l1 l2 c om om; refine Nat.ble_eq_true_of_le ?_; omega)) (.s 5 (.op ((↑j : Int) + 1) zf3 (.s 1 (.val 43 (iD ((↑j : Int) + 1)) (nD (j + 1)) (by (refine iv_eq ?_; (omega))) (.blk 17 17 (Blk.mk [D.ref 584 584 0 (List.length (cpF (Prod.fst (Prod.snd (Prod.snd (stR b kd le l1 l2 c)))) j o) + 1) 1] 22 false) (Blk.mk [D.ref 584 584 0 (List.length (cpF (Prod.fst (Prod.snd (Prod.snd (stR b kd le l1 l2 c)))) (j + 1) o)) 1] 22 false) (by ( exact cp_r)) (.blk 584 584 (Blk.mk (List.map dB (cpF (Prod.fst (Prod.snd (Prod.snd (stR b kd le l1 l2 c)))) j o) ++ [D.v (Value.int .u8 (↑(UInt8.toNat (List.getD (cpF (Prod.fst (Prod.snd (Prod.snd (stR b kd le l1 l2 c)))) j o) (0 + Int.toNat ((↑(List.length (cpF (Prod.fst (Prod.snd (Prod.snd (stR b kd le l1 l2 c)))) j o)) : Int) - (↑(Prod.fst (Prod.snd (Prod.snd (stR b kd le l1 l2 c)))) : Int)) * 1) default)) : Int))]) 5 true) (Blk.mk (List.map dB (cpF (Prod.fst (Prod.snd (Prod.snd (stR b kd le l1 l2 c)))) (j + 1) o)) 5 true) zf14 (Hn.next next3 ⟨(j + 1), om, ⟨⟩⟩ (by show Prod.fst (Prod.snd (Prod.snd (Prod.snd (stR b kd le l1 l2 c)))) - (j + 1) < Prod.fst (Prod.snd (Prod.snd (Prod.snd (stR b kd le l1 l2 c)))) - j; clear next3 last3 next2 last2 next1 last1; omega) [(0, 0), (1, 1), (9, 9), (17, 17), (41, 41), (89, 89), (160, 160), (168, 168), (176, 176), (232, 232), (472, 472), (480, 480), (584, 584)] ro)))))))))))))))) (fun p4 => have p4f := odf p4; (.blk 17 17 (Blk.mk [D.ref 488 488 0 (List.length (cpF (Prod.fst (Prod.snd (Prod.snd (stR b kd le l1 l2 c)))) j o)) 1] 22 false) (Blk.mk [D.ref 488 488 0 (List.length (cpF (Prod.fst (Prod.snd (Prod.snd (stR b kd le l1 l2 c)))) (Prod.fst (Prod.snd (Prod.snd (Prod.snd (stR b kd le l1 l2 c))))) o)) 1] 22 false) (by ( rw [show j = (stR b kd le l1 l2 c).2.2.2.1 from by omega])) (.blk 488 488 (Blk.mk (List.map dB (cpF (Prod.fst (Prod.snd (Prod.snd (stR b kd le l1 l2 c)))) j o)) 5 true) (Blk.mk (List.map dB (cpF (Prod.fst (Prod.snd (Prod.snd (stR b kd le l1 l2 c)))) (Prod.fst (Prod.snd (Prod.snd (Prod.snd (stR b kd le l1 l2 c))))) o)) 5 true) (by ( rw [show j = (stR b kd le l1 l2 c).2.2.2.1 from by omega])) (Hn.last last3 0 (() : Unit) rfl [(0, 0), (1, 1), (9, 9), (17, 17), (41, 41), (89, 89), (160, 160), (168, 168), (176, 176), (232, 232), (472, 472), (480, 480), (488, 488)] ro))))))) (fun | ⟨j, hj, _⟩ => by kernel_rfl) ⟨(1), om, ⟨⟩⟩ [(0, 0), (1, 1), (9, 9), (17, 17), (41, 41), (89, 89), (160, 160), (168, 168), (176, 176), (232, 232), (392, 392), (720, 720), (728, 728)] ro (hs1 (fun | () => (.s 2 (.blk 176 176 (Blk.mk [D.v (Value.int .u8 (↑kd : Int)), D.v (.bool la), iD (max 0 ((↑le : Int) - 1)), nD (cnt l1 0), nD (cnt l1 1), nD (cnt l1 2), nD (cnt l1 3), nD (cnt l1 4), nD (cnt l1 5), nD (cnt l1 6), nD (cnt l1 7), nD (cnt l1 8), nD (cnt l1 9), nD (cnt l1 10), nD (cnt l1 11), nD (cnt l1 12), nD (cnt l1 13), nD (cnt l1 14), nD (cnt l1 15), D.ref 160 160 0 (List.length (symsL l1)) 1, nD (cnt l2 0), nD (cnt l2 1), nD (cnt l2 2), nD (cnt l2 3), nD (cnt l2 4), nD (cnt l2 5), nD (cnt l2 6), nD (cnt l2 7), nD (cnt l2 8), nD (cnt l2 9), nD (cnt l2 10), nD (cnt l2 11), nD (cnt l2 12), nD (cnt l2 13), nD (cnt l2 14), nD (cnt l2 15), D.ref 168 168 0 (List.length (symsL l2)) 1] 28 false) (Blk.mk [D.v (Value.int .u8 (↑kd : Int)), D.v (.bool la), nD (le - 1), nD (cnt l1 0), nD (cnt l1 1), nD (cnt l1 2), nD (cnt l1 3), nD (cnt l1 4), nD (cnt l1 5), nD (cnt l1 6), nD (cnt l1 7), nD (cnt l1 8), nD (cnt l1 9), nD (cnt l1 10), nD (cnt l1 11), nD (cnt l1 12), nD (cnt l1 13), nD (cnt l1 14), nD (cnt l1 15), D.ref 160 160 0 (List.length (symsL l1)) 1, nD (cnt l2 0), nD (cnt l2 1), nD (cnt l2 2), nD (cnt l2 3), nD (cnt l2 4), nD (cnt l2 5), nD (cnt l2 6), nD (cnt l2 7), nD (cnt l2 8), nD (cnt l2 9), nD (cnt l2 10), nD (cnt l2 11), nD (cnt l2 12), nD (cnt l2 13), nD (cnt l2 14), nD (cnt l2 15), D.ref 168 168 0 (List.length (symsL l2)) 1] 28 false) (by (simp;  have h9 := @st_bd b kd le l1 l2 c; omega)) (.blk 17 17 (Blk.mk [D.ref 488 488 0 (List.length (cpF (Prod.fst (Prod.snd (Prod.snd (stR b kd le l1 l2 c)))) (Prod.fst (Prod.snd (Prod.snd (Prod.snd (stR b kd le l1 l2 c))))) o)) 1] 22 false) (Blk.mk [D.ref 488 488 0 (List.length (plT (Prod.fst (Prod.snd (stR b kd le l1 l2 c))) (Prod.fst (Prod.snd (Prod.snd (stR b kd le l1 l2 c)))) (Prod.fst (Prod.snd (Prod.snd (Prod.snd (stR b kd le l1 l2 c))))) o)) 1] 22 false) (by ( rw [plT_1 om])) (.blk 488 488 (Blk.mk (List.map dB (cpF (Prod.fst (Prod.snd (Prod.snd (stR b kd le l1 l2 c)))) (Prod.fst (Prod.snd (Prod.snd (Prod.snd (stR b kd le l1 l2 c))))) o)) 5 true) (Blk.mk (List.map dB (plT (Prod.fst (Prod.snd (stR b kd le l1 l2 c))) (Prod.fst (Prod.snd (Prod.snd (stR b kd le l1 l2 c)))) (Prod.fst (Prod.snd (Prod.snd (Prod.snd (stR b kd le l1 l2 c))))) o)) 5 true) (by ( rw [plT_1 om])) (Hn.next next2 ⟨(kd), (la), (le - 1), (l1), (l2), ((tkC most (stR b kd le l1 l2 c).2.2.1 (stR b kd le l1 l2 c).2.2.2.1 (stR b kd le l1 l2 c).1 o)), (plT (stR b kd le l1 l2 c).2.1 (stR b kd le l1 l2 c).2.2.1 (stR b kd le l1 l2 c).2.2.2.1 o), om, (by (exact fun q => hk2 (Adv.st b kd le l1 l2 c (tkC_e q).1).1)), om, om, om, (by (subst hn; exact Rok.tc (Rok.st hc))), (by (exact fun q => go_p hp q)), zf11, zf12, ⟨⟩⟩ zf13 [(0, 0), (1, 1), (9, 9), (17, 17), (41, 41), (89, 89), (488, 488), (160, 160), (168, 168), (176, 176)] ro))))))))))))))))))))) .nil))))))))))))))))))))))))))))) (fun | ⟨kd, la, le, l1, l2, c, o, hkd, hk2, hle, hT1, hT2, hc, hp, ho2, hR, _⟩ => by kernel_rfl) ⟨((hdR b a).kd), ((hdR b a).la), ((hdR b a).le), ((hdR b a).l1), ((hdR b a).l2), ((hdR b a).s), (o), (by (exact (hd_t b a).2.2.1)), (by (exact (hd_t b a).2.2.2.2)), (by (exact (hd_t b a).2.2.2.1)), (by (exact (hd_t b a).1)), (by (exact (hd_t b a).2.1)), (by (subst hn; exact hd_ok ha)), (by (exact fun q => (hd_adv b a q).2)), om, (by (subst hn; exact tl_in ha h0 hR)), ⟨⟩⟩ [(0, 0), (1, 1), (9, 9), (17, 17), (41, 41), (89, 89), (152, 152), (168, 168), (169, 169), (176, 176)] ro (hs2 (fun | ⟨la2, le2, l1, l2, kd, c2, o2, hc2, hp2, ho3, hE, hO, _⟩ => (.s 14 (.br ((↑(Rs.e c2) : Int) != 0) (fun p5 => have p5f := of_bne_t p5; (.s 4 (.blk 0 0 (Blk.mk [D.sl false n 1 (List.map dB b), nD (Rs.p c2), nD (Rs.e c2)] 70 false) (Blk.mk [D.sl false n 1 (List.map dB b), nD (Rs.p (Prod.fst (tlR b most none s []))), nD (Rs.e (Prod.fst (tlR b most none s [])))] 70 false) zf0 (.blk 17 17 (Blk.mk [D.ref 152 152 0 (List.length o2) 1] 22 false) (Blk.mk [D.ref 152 152 0 (List.length (Prod.snd (tlR b most none s []))) 1] 22 false) zf0 (.blk 152 152 (Blk.mk (List.map dB o2) 5 true) (Blk.mk (List.map dB (Prod.snd (tlR b most none s []))) 5 true) zf0 (Hn.last last1 0 (() : Unit) rfl [(0, 0), (1, 1), (9, 9), (17, 17), (41, 41), (89, 89), (152, 152)] ro)))))) (fun p5 => have p5f := of_bne_f p5; (.s 7 (.br (la2) (fun p6 => (.blk 0 0 (Blk.mk [D.sl false n 1 (List.map dB b), nD (Rs.p c2), nD (Rs.e c2)] 70 false) (Blk.mk [D.sl false n 1 (List.map dB b), nD (Rs.p (Prod.fst (tlR b most none s []))), nD (Rs.e (Prod.fst (tlR b most none s [])))] 70 false) zf0 (.blk 17 17 (Blk.mk [D.ref 152 152 0 (List.length o2) 1] 22 false) (Blk.mk [D.ref 152 152 0 (List.length (Prod.snd (tlR b most none s []))) 1] 22 false) zf0 (.blk 152 152 (Blk.mk (List.map dB o2) 5 true) (Blk.mk (List.map dB (Prod.snd (tlR b most none s []))) 5 true) zf0 (Hn.last last1 0 (() : Unit) rfl [(0, 0), (1, 1), (9, 9), (17, 17), (41, 41), (89, 89), (152, 152)] ro))))) (fun p6 => (Hn.next next1 ⟨(c2), om, om, (o2), om, (by ( exact hO om asm)), ⟨⟩⟩ (by show mu b none c2 < mu b none a; clear next1 last1; ( exact mu_nx hn hc2 h0 om (hp2 om))) [(0, 0), (1, 1), (9, 9), (17, 17), (41, 41), (89, 89), (152, 152)] ro)))))))) (fun | () => (Hn.last last1 1 (() : Unit) rfl [(0, 0), (1, 1), (9, 9), (17, 17), (41, 41), (89, 89), (152, 152)] ro)))))))) (fun | ⟨a, ha, h0, o, ho, hR, _⟩ => by kernel_rfl) ⟨(s), om, om, ([]), (by (simp <;> (omega))), wr, ⟨⟩⟩ [(0, 0), (1, 1), (9, 9), (17, 17), (41, 41), (89, 89), (97, 97)] ro (hs2 (fun | () => (.s 8 (.out [0, 152] [0, 152] (D.ref 1 1 0 (List.length (Prod.snd (tlR b most none s []))) 1) [Blk.mk [D.sl false n 1 (List.map dB b), nD (Rs.p (Prod.fst (tlR b most none s []))), nD (Rs.e (Prod.fst (tlR b most none s [])))] 70 false, Blk.mk (List.map dB (Prod.snd (tlR b most none s []))) 5 true] R (ok _ _ wr wr)))) (fun | () => (.s 2 (.out [0, 152] [0, 152] (D.ref 1 1 0 (List.length (Prod.snd (tlR b most none s []))) 1) [Blk.mk [D.sl false n 1 (List.map dB b), nD (Rs.p (Prod.fst (tlR b most none s []))), nD (Rs.e (Prod.fst (tlR b most none s [])))] 70 false, Blk.mk (List.map dB (Prod.snd (tlR b most none s []))) 5 true] R (ok _ _ wr wr))))))))) (by kernel_rfl)
end Vp
end Go.Proofs.Ytegjeagfcfhbeaa

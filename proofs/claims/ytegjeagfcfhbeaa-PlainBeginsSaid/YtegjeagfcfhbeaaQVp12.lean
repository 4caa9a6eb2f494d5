/- Vp12: made by vx.py. -/
import Derived.Test.YtegjeagfcfhbeaaQVp11
namespace Go.Proofs.Ytegjeagfcfhbeaa
open Go.RowKit Go.Bw Go.Vx
namespace Vp
set_option linter.unusedVariables false
set_option linter.unusedSimpArgs false
def dyR (b : List UInt8) (s : Rs) : Rs × List UInt8 × List UInt8 :=
  let g := tkN b 5 s
  let s1 := tkS b 5 s
  let f := tkN b 5 s1
  let s2 := tkS b 5 s1
  let h := tkN b 4 s2
  let s3 := tkS b 4 s2
  let s4 := fl s3 (decide (g + 257 ≤ 286) && decide (f + 1 ≤ 30)) 132
  let s5 := rwS b s4 (h + 4)
  let W := rwL b s4 (h + 4)
  let t := okL W 7
  let s6 := fl s5 (((canE W 7 : Nat) : Int) == 0) 132
  let s7 := fl s6 (decide ((1 : Int) < (((symsL t).length : Nat) : Int))) 132
  let N := g + 257 + (f + 1)
  let o := lnO b t N s7
  let s8 := lnS b t N s7
  if s8.e ≠ 0 then (s8, [], []) else
  let L1 := (o.drop 0).take (g + 257)
  let L2 := (o.drop (g + 257)).take (N - (g + 257))
  let s9 := fl s8 (decide ((0 : Int) < (((o.getD 256 default).toNat : Nat) : Int))) 132
  let s10 := fl s9 (((canE L1 15 : Nat) : Int) == 0) 132
  let s11 := fl s10 (((canE L1 15 : Nat) : Int) == 0) 132
  let s12 := fl s11 (((canE L2 15 : Nat) : Int) == 0) 132
  (s12, okL L1 15, okL L2 15)
structure Hd where
  s : Rs
  kd : Nat
  la : Bool
  le : Nat
  l1 : List UInt8
  l2 : List UInt8
def hdD (b : List UInt8) (s : Rs) : Hd :=
  let a := tkN b 1 s
  let s1 := tkS b 1 s
  let kd := tkN b 2 s1
  let s2 := tkS b 2 s1
  let s3 := fl s2 (decide ((kd : Int) ≤ 2)) 130
  let la := ((a : Nat) : Int) == 1
  if s3.e ≠ 0 then ⟨s3, kd, la, 0, [], []⟩ else if kd = 0 then
    let s4 : Rs := ⟨(s3.p + 7) / 8 * 8, 0⟩
    let le := tkN b 16 s4
    let s5 := tkS b 16 s4
    let ag := tkN b 16 s5
    let s6 := tkS b 16 s5
    ⟨fl s6 (((le : Nat) : Int) + ((ag : Nat) : Int) == 65535) 131, kd, la, le, [], []⟩
  else if kd = 1 then ⟨s3, kd, la, 0, longsB, farsB⟩
  else ⟨(dyR b s3).1, kd, la, 0, (dyR b s3).2.1, (dyR b s3).2.2⟩
def hdR (b : List UInt8) (s : Rs) : Hd := lk b (hdD b s)
theorem hdR_eq (b : List UInt8) (s : Rs) : hdR b s = hdD b s := lk_eq _ _
theorem zeroNL (j : Nat) : simNL j zeroC (c16 (cnt []) ++ [.ref j j 0 0 1]) := simNL.app (a := [iD 0, iD 0, iD 0, iD 0, iD 0, iD 0, iD 0, iD 0, iD 0, iD 0, iD 0, iD 0, iD 0, iD 0, iD 0, iD 0]) (simNL.refl j _) ⟨simN.nil j 1, trivial⟩
theorem nil2 {f : FuncId} {ds : List D} {hin : List Blk} {x y z : D} {B : Blk} (h : SpecH true Try.prog f ds hin (.agg ([x, y, z] ++ zeroC ++ zeroC)) [B]) : SpecH true Try.prog f ds hin (.agg ([x, y, z] ++ (c16 (cnt []) ++ [.ref 1 1 0 (symsL []).length 1]) ++ (c16 (cnt []) ++ [.ref 2 2 0 (symsL []).length 1]))) [B, ⟨(symsL []).map nD, 3, true⟩, ⟨(symsL []).map nD, 3, true⟩] := by
  have h1 := SpecH.nilA h 3 (r' := .agg ([x, y, z] ++ (c16 (cnt []) ++ [.ref 1 1 0 0 1]) ++ zeroC)) (simN.agg ((simNL.refl 1 [x, y, z]).app (zeroNL 1) |>.app (simNL.refl 1 _)))
  exact SpecH.nilA h1 3 (r' := .agg ([x, y, z] ++ (c16 (cnt []) ++ [.ref 1 1 0 0 1]) ++ (c16 (cnt []) ++ [.ref 2 2 0 0 1]))) (show simN 2 _ _ from simN.agg ((simNL.refl 2 ([x, y, z] ++ (c16 (cnt []) ++ [.ref 1 1 0 0 1]))).app (zeroNL 2)))
theorem longs_len : longsB.length = 288 := by unfold longsB; rw [List.length_append, List.length_append, List.length_append, List.length_replicate, List.length_replicate, List.length_replicate, List.length_replicate]
theorem fars_len : farsB.length = 32 := by unfold farsB; rw [List.length_replicate]
theorem longs_can : canE longsB 15 = 0 := by decide +kernel
theorem fars_can : canE farsB 15 = 0 := by decide +kernel
theorem head_f2 (L F : List UInt8) (hL : L = longsB) (hF : F = farsB) (b : List UInt8) (n : Nat) (hn : n = b.length) (hN : n ≤ 1000000) (s : Rs) (hs : Rok n s) (a kd : Nat) (s1 s2 s3 : Rs) (x1 : tkN b 1 s = a) (z1 : tkS b 1 s = s1) (x2 : tkN b 2 s1 = kd) (z2 : tkS b 2 s1 = s2) (z3 : FlE s2 (decide ((kd : Int) ≤ 2)) 130 s3) (h3 : s3.e = 0) (h0 : kd = 1) : SpecH true Try.prog 27 [.ptr 0 0 0] [⟨[.sl false n 1 (b.map dB), nD (s).p, nD (s).e], 70, false⟩] (.agg ([u8D kd, bD (((a : Nat) : Int) == 1), iD 0] ++ (c16 (cnt L) ++ [.ref 1 1 0 (symsL L).length 1]) ++ (c16 (cnt F) ++ [.ref 2 2 0 (symsL F).length 1]))) [⟨[.sl false n 1 (b.map dB), nD (s3).p, nD (s3).e], 70, false⟩, ⟨(symsL L).map nD, 3, true⟩, ⟨(symsL F).map nD, 3, true⟩] := by
  have c1 : canE L 15 = 0 := by rw [hL]; exact longs_can
  have c2 : canE F 15 = 0 := by rw [hF]; exact fars_can
  have l1 : L.length = 288 := by rw [hL]; exact longs_len
  have l2 : F.length = 32 := by rw [hF]; exact fars_len
  exact head_f b n hn hN s hs a kd s1 s2 s3 x1 z1 x2 z2 z3 h3 h0 L F hL hF (by rw [List.drop_zero, List.take_of_length_le (Nat.le_of_eq l1)]) (by rw [List.drop_zero, List.take_of_length_le (Nat.le_of_eq l2)]) l1 l2 (okL_y c1) (okL_y c2) (by rw [c1]; exact fl_t) (by rw [c2]; exact fl_t)
set_option maxRecDepth 100000 in
set_option maxHeartbeats 2000000 in
theorem head_t (b : List UInt8) (n : Nat) (hn : n = b.length) (hN : n ≤ 1000000) (s : Rs) (hs : Rok n s) : SpecH true Try.prog 27 [.ptr 0 0 0] [⟨[.sl false n 1 (b.map dB), nD (s).p, nD (s).e], 70, false⟩] (.agg ([u8D (hdR b s).kd, bD (hdR b s).la, nD (hdR b s).le] ++ (c16 (cnt (hdR b s).l1) ++ [.ref 1 1 0 (symsL (hdR b s).l1).length 1]) ++ (c16 (cnt (hdR b s).l2) ++ [.ref 2 2 0 (symsL (hdR b s).l2).length 1]))) [⟨[.sl false n 1 (b.map dB), nD ((hdR b s).s).p, nD ((hdR b s).s).e], 70, false⟩, ⟨(symsL (hdR b s).l1).map nD, 3, true⟩, ⟨(symsL (hdR b s).l2).map nD, 3, true⟩] := by
  rw [hdR_eq]
  unfold hdD
  dsimp only
  have r1 : Rok n (tkS b 1 s) := by subst hn; exact hs.tk _
  have r2 : Rok n (tkS b 2 (tkS b 1 s)) := by subst hn; exact (hs.tk _).tk _
  have hk : tkN b 2 (tkS b 1 s) < 4 := tkN_lt b 2 _
  generalize e3 : fl (tkS b 2 (tkS b 1 s)) (decide (((tkN b 2 (tkS b 1 s) : Nat) : Int) ≤ 2)) 130 = s3
  have r3 : Rok n s3 := by rw [← e3]; exact r2.fl _ _
  split
  · next h => exact nil2 (head_e b n hn hN s hs _ _ _ _ s3 rfl rfl rfl rfl ⟨e3⟩ h)
  · next h =>
    have h : s3.e = 0 := by omega
    have hk2 : tkN b 2 (tkS b 1 s) ≤ 2 := by
      rw [← e3] at h
      have := (fl_0 (by decide) h).2.1
      simp at this; omega
    split
    · next h0 => exact nil2 (head_s b n hn hN s hs _ _ _ _ s3 rfl rfl rfl rfl ⟨e3⟩ h h0 ⟨(s3.p + 7) / 8 * 8, 0⟩ _ _ _ _ _ ⟨by push_cast; rfl, h, rfl⟩ rfl rfl rfl rfl ⟨rfl⟩)
    · next h0 =>
      split
      · next h1 => exact head_f2 _ _ rfl rfl b n hn hN s hs _ _ _ _ s3 rfl rfl rfl rfl ⟨e3⟩ h h1
      · next h1 =>
        have h2 : tkN b 2 (tkS b 1 s) = 2 := by omega
        unfold dyR
        dsimp only
        split
        · next h3 => exact nil2 (head_de b n hn hN s hs _ _ _ _ s3 rfl rfl rfl rfl ⟨e3⟩ h h2 _ _ _ _ _ _ _ _ _ _ _ _ _ _ _ ⟨rfl, rfl, rfl, rfl, rfl, rfl, rfl, rfl, rfl, rfl, rfl, ⟨rfl⟩, rfl, rfl, rfl⟩ h3)
        · next h3 => exact head_dl b n hn hN s hs _ _ _ _ s3 rfl rfl rfl rfl ⟨e3⟩ h h2 _ _ _ _ _ _ _ _ _ _ _ _ _ _ _ ⟨rfl, rfl, rfl, rfl, rfl, rfl, rfl, rfl, rfl, rfl, rfl, ⟨rfl⟩, rfl, rfl, rfl⟩ _ rfl _ _ _ _ _ _ _ _ ⟨by omega, ⟨rfl⟩, rfl, rfl, ⟨rfl⟩, rfl, rfl, rfl, rfl⟩
end Vp
end Go.Proofs.Ytegjeagfcfhbeaa

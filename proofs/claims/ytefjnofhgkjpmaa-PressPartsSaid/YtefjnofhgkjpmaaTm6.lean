/- Part 6. -/
import Derived.Test.YtefjnofhgkjpmaaTm5
set_option linter.unusedVariables false
set_option linter.unusedSimpArgs false
set_option maxRecDepth 100000
set_option maxHeartbeats 4000000
open And renaming intro → KI
open Array renaming length_toList → Np
open BitVec renaming ofInt → KE, toNat → K6
open Bool renaming and_eq_true → Ky, and_true → K2, true_and → KX
open Go.Fn renaming func → K9
open Go.IntKind renaming i64 → KY, u64 → LY, wrap → KP
open Go.Value renaming int → Ll
open Inhabited renaming default → i4
open Int renaming fdiv → Lb, tmod → MB, toNat → un
open List renaming append_assoc → KS, append_nil → Lk, drop_append → Oq, drop_replicate → Nq, drop_zero → Ma, eq_nil_of_length_eq_zero → KT, eq_replicate_iff → M8, flatMap_append → Mb, flatMap_singleton → MH, length_append → Kw, length_cons → KU, length_map → KH, length_nil → Ml, length_range → LG, length_replicate → K1, length_take → KC, length_take_of_le → Lj, map → Mg, map_append → Lh, map_replicate → L4, map_take → Nh, range → Lf, replicate → KJ, take → K7, take_append_of_le_length → LW, take_length → LF, take_replicate → N4, take_succ_eq_append_getElem → K4
open Nat renaming add_assoc → LK, add_sub_cancel → Me, beq → Kv, beq_eq → Md, beq_refl → Ly, ble → Kx, ble_eq → L2, ble_eq_true_of_le → KA, blt → Mf, eq_of_beq_eq_true → Kz, le_refl → KG, le_trans → KK, lt_irrefl → Nf, lt_or_ge → K3, lt_succ_self → NI, min → Lv, min_eq_left → NO, mod_one → Ou, mul_comm → L0, mul_one → KW, not_lt_zero → LJ, pow_add → NZ, pow_le_pow_right → Ln, zero_add → KV, zero_le → Li, zero_lt_one → My, zero_mul → LQ
open Prod renaming fst → KR, snd → KF
open UInt8 renaming toNat → Ku, toNat_lt → Lm
namespace Go.Proofs.Ytefjnofhgkjpmaa
open Go.RowKit Go.Bw Go.Vx
open List (length getD map take drop flatMap replicate)
namespace Vp
theorem Db {p:Prop} (h:p:=by ( have h8:=yO (l:=l) (k:=k) hc15 om (0 + (l.getD (k * 1) i4).toNat * 1) om om; omega)):p:=h
theorem FZ {p:Prop} (h:p:=by (refine decide_eq_true ?_;  have h8:=yO (l:=l) (k:=k) hc15 om (0 + (l.getD (k * 1) i4).toNat * 1) om om; omega)):p:=h
theorem HL {p:Prop} (h:p:=by (refine aJ ?_; (omega))):p:=h
theorem HM {p:Prop} (h:p:=by show n - (k + 1) < n - k; clear next1 last1; omega):p:=h
theorem J9 {p:Prop} (h:p:=by ((refine aF ?_ ?_) <;> (repeat' (first | (refine aF ?_ ?_) | (with_reducible rfl) | (refine decide_eq_true ?_) | (refine KA ?_) | (refine er ?_))) <;> (omega))):p:=h
theorem Ka {p:Prop} (h:p:=by ((refine aF ?_ ?_) <;> (repeat' (first | (refine aF ?_ ?_) | (with_reducible rfl) | (refine decide_eq_true ?_) | (refine KA ?_) | (refine er ?_))) <;> ( have h8:=yO (l:=l) (k:=k) hc15 om (0 + (l.getD (k * 1) i4).toNat * 1) om om; omega))):p:=h
theorem Kb {p:Prop} (h:p:=by ( have h7:=Bj (l:=l) (a:=a) hc15 om (0 + a * 1) om; omega)):p:=h
theorem Kc {p:Prop} (h:p:=by ( have h7:=Bj (l:=l) (a:=a) hc15 om (0 + a * 1) om; refine aJ ?_; omega)):p:=h
def gO (f:Nat → Nat):List D:=[cJ (f 0),cJ (f 1),cJ (f 2),cJ (f 3),cJ (f 4),cJ (f 5),cJ (f 6),cJ (f 7),cJ (f 8),cJ (f 9),cJ (f 10),cJ (f 11),cJ (f 12),cJ (f 13),cJ (f 14),cJ (f 15),cJ (f 16)]
theorem s7 (f:Nat → Nat) (n:Nat) (h:n < 17):(gO f)[n]? = some (cJ (f n)):=by
 match n,h with
 | 0,_=>rfl | 1,_=>rfl | 2,_=>rfl | 3,_=>rfl | 4,_=>rfl | 5,_=>rfl | 6,_=>rfl | 7,_=>rfl | 8,_=>rfl | 9,_=>rfl | 10,_=>rfl | 11,_=>rfl | 12,_=>rfl | 13,_=>rfl | 14,_=>rfl | 15,_=>rfl | 16,_=>rfl
 | n + 17,h=>exact absurd h (by omega)
theorem wx (f:Nat → Nat) (n:Nat) (h:n < 17) (x:Nat):af (gO f) n [cJ x] = gO (fun m=>if m = n then x else f m):=by
 match n,h with
 | 0,_=>rfl | 1,_=>rfl | 2,_=>rfl | 3,_=>rfl | 4,_=>rfl | 5,_=>rfl | 6,_=>rfl | 7,_=>rfl | 8,_=>rfl | 9,_=>rfl | 10,_=>rfl | 11,_=>rfl | 12,_=>rfl | 13,_=>rfl | 14,_=>rfl | 15,_=>rfl | 16,_=>rfl
 | n + 17,h=>exact absurd h (by omega)
theorem cu {f g:Nat → Nat} (h:∀ n,n < 17 → f n = g n):gO f = gO g:=by
 unfold gO
 rw [h 0 (by decide),h 1 (by decide),h 2 (by decide),h 3 (by decide),h 4 (by decide),h 5 (by decide),h 6 (by decide),h 7 (by decide),h 8 (by decide),h 9 (by decide),h 10 (by decide),h 11 (by decide),h 12 (by decide),h 13 (by decide),h 14 (by decide),h 15 (by decide),h 16 (by decide)]
def aX (l:List UInt8) (k m:Nat):Nat:=lk l (if m = 0 then 0 else (ef l m k).length)
theorem gk (l:List UInt8) (k m:Nat):aX l k m = if m = 0 then 0 else (ef l m k).length:=aA _ _
theorem Be (l:List UInt8) (m:Nat):aX l 0 m = 0:=by rw [gk]; split <;> rfl
theorem Bf (l:List UInt8) (m:Nat):aX l l.length m = aD l m:=by rw [gk,k7]; rfl
theorem wy (l:List UInt8) (k m:Nat):aX l k m ≤ k:=by
 rw [gk]; split
 ·exact Li _
 ·exact yG _ _ _
theorem qa {l:List UInt8} {k:Nat} (m:Nat):aX l (k + 1) m = aX l k m + (if m ≠ 0 ∧ (l.getD k i4).toNat = m then 1 else 0):=by
 rw [gk,gk]
 by_cases h0:m = 0
 ·rw [if_pos h0,if_pos h0,if_neg (fun q=>q.1 h0)]
 ·rw [if_neg h0,if_neg h0,gK]
  by_cases h:(l.getD k i4).toNat = m
  ·rw [if_pos h,if_pos ⟨h0,h⟩,Kw]; rfl
  ·rw [if_neg h,if_neg (fun q=>h q.2),Lk]; rfl
def bJ (l:List UInt8) (a m:Nat):Nat:=lk l (if m < a then jG l m else aD l m)
theorem lg (l:List UInt8) (a m:Nat):bJ l a m = if m < a then jG l m else aD l m:=aA _ _
def bi (l:List UInt8) (k m:Nat):Nat:=lk l (jG l m + aX l k m)
theorem eV (l:List UInt8) (k m:Nat):bi l k m = jG l m + aX l k m:=aA _ _
def qb (l:List UInt8) (a:Nat):Nat:=lk l (jG l a)
theorem nY (l:List UInt8) (a:Nat):qb l a = jG l a:=aA _ _
def Dc (l:List UInt8) (k j:Nat):Nat × Nat:=if j < k ∧ (l.getD j i4).toNat ≠ 0 then (pU l j,(l.getD j i4).toNat) else (0,0)
def j8 (l:List UInt8) (k:Nat):List (Nat × Nat):=lk l ((Lf l.length).map (Dc l k))
theorem lh (l:List UInt8) (k:Nat):j8 l k = (Lf l.length).map (Dc l k):=aA _ _
theorem nZ (l:List UInt8) (k:Nat):(j8 l k).length = l.length:=by rw [lh,KH,LG]
theorem F0 (l:List UInt8):j8 l 0 = KJ l.length (0,0):=by
 rw [lh]
 apply List.ext_getElem?
 intro i
 rw [List.getElem?_map,List.getElem?_replicate]
 rcases K3 i l.length with hi | hi
 ·rw [List.getElem?_range hi,if_pos hi]; rfl
 ·rw [List.getElem?_eq_none (by simpa using hi),if_neg (by omega)]; rfl
theorem Bg {l:List UInt8} {k:Nat} (hk:k < l.length):j8 l (k + 1) = if (l.getD k i4).toNat = 0 then j8 l k else (j8 l k).set k (pU l k,(l.getD k i4).toNat):=by
 apply List.ext_getElem?
 intro i
 have e:∀ j,(j8 l j)[i]? = if i < l.length then some (Dc l j i) else none:=fun j=>by
  rw [lh,List.getElem?_map]
  rcases K3 i l.length with hi | hi
  ·rw [List.getElem?_range hi,if_pos hi]; rfl
  ·rw [List.getElem?_eq_none (by simpa using hi),if_neg (by omega)]; rfl
 by_cases h:(l.getD k i4).toNat = 0
 ·rw [if_pos h,e,e]
  split
  ·congr 1; unfold Dc
   by_cases hi:i = k
   ·subst hi; rw [if_neg (fun q=>q.2 h),if_neg (fun q=>q.2 h)]
   ·by_cases q:i < k ∧ (l.getD i i4).toNat ≠ 0
    ·rw [if_pos q,if_pos ⟨by omega,q.2⟩]
    ·rw [if_neg q,if_neg (fun z=>q ⟨by omega,z.2⟩)]
  ·rfl
 ·rw [if_neg h,List.getElem?_set,nZ,e,e]
  by_cases hi:k = i
  ·subst hi
   rw [if_pos hk,if_pos rfl,if_pos hk]
   unfold Dc; rw [if_pos ⟨NI k,h⟩]
  ·rw [if_neg hi]
   split
   ·congr 1; unfold Dc
    by_cases q:i < k ∧ (l.getD i i4).toNat ≠ 0
    ·rw [if_pos q,if_pos ⟨by omega,q.2⟩]
    ·rw [if_neg q,if_neg (fun z=>q ⟨by omega,z.2⟩)]
   ·rfl
theorem Bh {l:List UInt8} (ho:dj l 15 = false):j8 l l.length = ab l:=by
 rw [lh,wu,Bc]
 apply List.map_congr_left
 intro j hj
 have hj:=List.mem_range.1 hj
 have h:=eJ ho hj
 unfold Dc IR
 by_cases q:(l.getD j i4).toNat = 0
 ·rw [if_neg (fun z=>z.2 q),if_neg (fun z=>z.1 q)]
 ·rw [if_pos ⟨hj,q⟩,if_pos ⟨q,.inl (by omega)⟩]
theorem Bi {l:List UInt8} (hc:cz l 15 = 0) {a:Nat} (h:a ≤ 15):jG l a + aD l a ≤ 2 ^ a:=by
 have ho:=(eU hc).2.1
 have hk:=(eU hc).2.2
 have h1:=rK l a h
 have h2:=pX l (a + 1) (16 - (a + 1))
 rw [show a + 1 + (16 - (a + 1)) = 16 from by omega,FY l ho,h1] at h2
 have h3:(jG l a + aD l a) * dk 32768 a ≤ 2 ^ a * dk 32768 a:=by
  rw [dV h,← NZ,show a + (15 - a) = 15 from by omega]
  rw [dV h] at h2
  omega
 exact Nat.le_of_mul_le_mul_right h3 (pV h)
theorem Dd {l:List UInt8} (ho:dj l 15 = false) {a:Nat} (h:16 ≤ a):aD l a = 0:=by
 rw [k7]; unfold wc
 rw [if_neg (by omega)]
 have:ef l a l.length = []:=by
  rw [List.eq_nil_iff_forall_not_mem]
  intro i hi
  have:=wd.1 hi
  have:=eJ ho this.1
  omega
 rw [this]; rfl
theorem wz {l:List UInt8} (hc:cz l 15 = 0) {a:Nat} (h:a ≤ 17):jG l a ≤ 131072 ∧ (a ≤ 16 → jG l a + aD l a ≤ 65536):=by
 have ho:=(eU hc).2.1
 have p:∀ b,b ≤ 15 → jG l b + aD l b ≤ 32768:=fun b hb=>KK (Bi hc hb) (Ln (n:=2) (by decide) hb)
 have q16:jG l 16 = 2 * (jG l 15 + aD l 15):=rfl
 have q17:jG l 17 = 2 * (jG l 16 + aD l 16):=rfl
 have J3:=Dd ho (a:=16) (by decide)
 have p15:=p 15 (by decide)
 rcases K3 a 16 with z | z
 ·have:=p a (by omega); exact ⟨by omega,fun _=>by omega⟩
 ·rcases K3 a 17 with y | y
  ·have e:a = 16:=by omega
   subst e; exact ⟨by omega,fun _=>by omega⟩
  ·have e:a = 17:=by omega
   subst e; exact ⟨by omega,fun q=>by omega⟩
theorem F1 (l:List UInt8):gO (fun _=>0) = gO (aX l 0):=cu fun m _=>(Be l m).symm
theorem De {l:List UInt8} {k:Nat} (h:(l.getD (k * 1) i4).toNat = 0):gO (aX l k) = gO (aX l (k + 1)):=cu fun m _=>by
 rw [KW] at h
 rw [qa,if_neg (fun q=>by omega)]; rfl
theorem F2 {l:List UInt8} {k:Nat} (h:k = l.length):gO (aX l k) = gO (aD l):=cu fun m _=>by rw [h,Bf]
theorem F3 (l:List UInt8):gO (aD l) = gO (bJ l 0):=cu fun m _=>by rw [lg,if_neg (LJ m)]
theorem F4 {l:List UInt8} {a:Nat} (h:17 ≤ a):gO (bJ l a) = gO (bi l 0):=cu fun m hm=>by rw [lg,if_pos (by omega),eV,Be]; rfl
theorem Df {l:List UInt8} {k:Nat} (h:(l.getD (k * 1) i4).toNat = 0):gO (bi l k) = gO (bi l (k + 1)):=cu fun m _=>by
 rw [KW] at h
 rw [eV,eV,qa,if_neg (fun q=>by omega)]; rfl
theorem IS (l:List UInt8) (k:Nat) {o:Nat} (h:(l.getD (k * 1) i4).toNat = o) (h0:0 < o) (h1:o < 17):af (gO (aX l k)) o [D.v (.int .u32 (((aX l k o:Nat):Int) + 1))] = gO (aX l (k + 1)):=by
 rw [KW] at h
 refine (wx (aX l k) o h1 (aX l k o + 1)).trans (cu fun m _=>?_)
 rw [qa]
 by_cases e:m = o
 ·rw [if_pos e,e,if_pos ⟨by omega,h⟩]
 ·rw [if_neg e,if_neg (fun q=>e (by omega))]; rfl
theorem F5 (l:List UInt8) (a:Nat) {o:Nat} {z:Int} (ho:o = a) (h1:a < 17) (hz:z = ((qb l a:Nat):Int)):af (gO (bJ l a)) o [D.v (.int .u32 z)] = gO (bJ l (a + 1)):=by
 subst ho hz
 refine (wx (bJ l o) o h1 (qb l o)).trans (cu fun m _=>?_)
 rw [lg,lg,nY]
 by_cases e:m = o
 ·rw [if_pos e,e,if_pos (NI o)]
 ·rw [if_neg e]
  by_cases q:m < o
  ·rw [if_pos q,if_pos (by omega)]
  ·rw [if_neg q,if_neg (by omega)]
theorem F6 (l:List UInt8) (k:Nat) {o:Nat} (h:(l.getD (k * 1) i4).toNat = o) (h0:0 < o) (h1:o < 17):af (gO (bi l k)) o [D.v (.int .u32 (((bi l k o:Nat):Int) + 1))] = gO (bi l (k + 1)):=by
 rw [KW] at h
 refine (wx (bi l k) o h1 (bi l k o + 1)).trans (cu fun m _=>?_)
 rw [eV,eV,eV,qa]
 by_cases e:m = o
 ·rw [if_pos e,e,if_pos ⟨by omega,h⟩]; rfl
 ·rw [if_neg e,if_neg (fun q=>e (by omega))]; rfl
theorem yO {l:List UInt8} {k:Nat} (hc:cz l 15 = 0) (hk:k < l.length) (o:Nat) (h:(l.getD (k * 1) i4).toNat = o) (h0:0 < o):o ≤ 15 ∧ bi l k o = pU l k ∧ bi l (k + 1) o = pU l k + 1 ∧ pU l k ≤ 65536 ∧ aX l k o ≤ k:=by
 rw [KW] at h
 have ho:=eJ (eU hc).2.1 hk
 have h1:o ≤ 15:=by omega
 have e:=Bd h (by omega) h1
 have h2:bi l k o = pU l k:=by rw [eV,gk,if_neg (by omega),e]
 have h3:=(wz hc (a:=o) (by omega)).2 (by omega)
 have h4:aX l (k + 1) o = aX l k o + 1:=by rw [qa,if_pos ⟨by omega,h⟩]
 have h5:bi l (k + 1) o = pU l k + 1:=by
  rw [eV,h4,← h2,eV,LK]
 have h6:aX l (k + 1) o ≤ aD l o:=by
  rw [← Bf,gk,gk,if_neg (by omega),if_neg (by omega)]
  obtain ⟨r,hr⟩:=lf l o (k + 1) (l.length - (k + 1))
  rw [show k + 1 + (l.length - (k + 1)) = l.length from by omega] at hr
  rw [hr,Kw]; omega
 refine ⟨h1,h2,h5,?_,wy l k o⟩
 rw [← h2,eV]; omega
theorem Bj {l:List UInt8} {a:Nat} (hc:cz l 15 = 0) (h:a < 17) (o:Nat) (ho:o = a):qb l a + bJ l a o ≤ 65536 ∧ (qb l a + bJ l a o) * 2 = qb l (a + 1) ∧ qb l (a + 1) ≤ 131072:=by
 subst ho
 have h1:=(wz hc (a:=o) (by omega)).2 (by omega)
 have h2:=(wz hc (a:=o + 1) (by omega)).1
 rw [nY,nY,lg,if_neg (Nf o)]
 refine ⟨h1,?_,h2⟩
 rw [jG,L0]
theorem F7 {l:List UInt8} {k:Nat} (hk:k < l.length) (h:(l.getD (k * 1) i4).toNat = 0):j8 l (k + 1) = j8 l k:=by
 rw [KW] at h; rw [Bg hk,if_pos h]
theorem F8 {l:List UInt8} {k:Nat} (hk:k < l.length) (h:0 < (l.getD (k * 1) i4).toNat):j8 l (k + 1) = (j8 l k).set k (pU l k,(l.getD k i4).toNat):=by
 rw [KW] at h; rw [Bg hk,if_neg (by omega)]
theorem Kt {l:List UInt8} {k:Nat} (hc:cz l 15 = 0) (hk:k < l.length) (h:0 < (l.getD (k * 1) i4).toNat):af ((j8 l k).flatMap jy) (k * 2) [D.v (.int .u32 (((bi l (k + 1) (l.getD k i4).toNat:Nat):Int) - 1)),D.v (.int .u8 (((l.getD k i4).toNat:Nat):Int))] = (j8 l (k + 1)).flatMap jy:=by
 have h2:=yO hc hk (l.getD k i4).toNat (by rw [KW]) (by rwa [KW] at h)
 rw [F8 hk h,h2.2.2.1,show (((pU l k + 1:Nat):Int) - 1) = ((pU l k:Nat):Int) from by omega]
 exact yM (c:=(pU l k,(l.getD k i4).toNat)) (by rw [nZ]; exact hk) (L0 k 2)
theorem yP (l:List UInt8) (n:Nat) (hn:n = l.length) (m:Nat) (hm:1 ≤ m ∧ m ≤ 15) (hc:cz l m = 0):SpecH false Try.prog 80 [.sl false n 1 (l.map dB),nD m] [] (.tup [.ref 0 0 0 n 2,iD 0]) [⟨(ab l).flatMap jy, 198, true⟩]:=by
 have hL:=(eU hc).1
 have hc15:=(nX hm.2 hc).1
 have ho:=(eU hc15).2.1
 refine SpecH.run T_ok ag Try.func80 rfl rfl rfl ⟨ee (fun _=>rfl) _,trivial⟩ rfl 1000 64 (fun R ok=>(.s 5 (.cl 86 false [] (.fn Kn (@CV (l) (n) om om (m) om)) (.s 4 (.f ((↑(cz l m):Int) != 0) (by (simp <;> (omega))) (.s 8 (.blk 80 80 (Blk.mk [uI 0,uI 0,uI 0,uI 0,uI 0,uI 0,uI 0,uI 0,uI 0,uI 0,uI 0,uI 0,uI 0,uI 0,uI 0,uI 0,uI 0] 195 false) (Blk.mk [ac (aX l 0 0),ac (aX l 0 1),ac (aX l 0 2),ac (aX l 0 3),ac (aX l 0 4),ac (aX l 0 5),ac (aX l 0 6),ac (aX l 0 7),ac (aX l 0 8),ac (aX l 0 9),ac (aX l 0 10),ac (aX l 0 11),ac (aX l 0 12),ac (aX l 0 13),ac (aX l 0 14),ac (aX l 0 15),ac (aX l 0 16)] 195 false) (by (exact au (F1 l))) (Hn.inl T_ok ag false 20 80 (aq Try.prog 104 0) (fun (x:(k:Nat) ×' (hk:k ≤ n) ×' Unit)=>match x with | ⟨k,hk,_⟩=>CutS.mk [(2,D.ptr 80 80 0),(5,D.sl false n 1 (map dB l)),(6,zN n),(7,nD k)] [⟨80,80,80,80,.c ⟨gO (aX l k),195,false⟩⟩] 88) (fun (x:(k:Nat) ×' (hk:k ≤ n) ×' Unit)=>match x with | ⟨k,hk,_⟩=>n - k) [⟨Unit,.exit 0,fun x=>match x with | ()=>CutS.mk [(2,D.ptr 80 80 0),(5,D.sl false n 1 (map dB l)),(6,zN n)] [⟨80,80,80,80,.c ⟨gO (aD l),195,false⟩⟩] 88⟩] 1000 64 (fun | ⟨k,hk,_⟩,Q,next1,last1=>(.s 2 (.br (decide ((k:Int) < (n:Int))) (fun p0=>have p0f:=aN p0; (.s 1 (.chk (true && decide ((k:Int) < (n:Int)) && true) J9 (.s 2 (.opt ((map dB l)[k * 1]?) (dB (getD l (k * 1) i4)) (ao _ _ om) (.s 4 (.br (decide (0 < (↑(Ku (getD l (k * 1) i4)):Int))) (fun p1=>have p1f:=aN p1; (.s 2 (.chk (true && decide ((↑(Ku (getD l (k * 1) i4)):Int) < (↑17:Int))) FZ (.s 3 (.opt ((gO (aX l k))[0 + Ku (getD l (k * 1) i4) * 1]?) (cJ (aX l k (0 + Ku (getD l (k * 1) i4) * 1))) (@s7 (aX l k) (0 + Ku (getD l (k * 1) i4) * 1) Db) (.s 2 (.opt (ap .u32 ((↑(aX l k (0 + Ku (getD l (k * 1) i4) * 1)):Int) + 1)) (uI ((↑(aX l k (0 + Ku (getD l (k * 1) i4) * 1)):Int) + 1)) (ar (by ( have h9:=wy l k (0 + (l.getD (k * 1) i4).toNat * 1); omega))) (.s 1 (.chk (true && decide ((↑(Ku (getD l (k * 1) i4)):Int) < (↑17:Int))) FZ (.s 2 (.chk (true && Kx (0 + Ku (getD l (k * 1) i4) * 1 + 1) 17) Ka (.lst (af [ac (aX l k 0),ac (aX l k 1),ac (aX l k 2),ac (aX l k 3),ac (aX l k 4),ac (aX l k 5),ac (aX l k 6),ac (aX l k 7),ac (aX l k 8),ac (aX l k 9),ac (aX l k 10),ac (aX l k 11),ac (aX l k 12),ac (aX l k 13),ac (aX l k 14),ac (aX l k 15),ac (aX l k 16)] (0 + Ku (getD l (k * 1) i4) * 1) [uI ((↑(aX l k (0 + Ku (getD l (k * 1) i4) * 1)):Int) + 1)]) ([ac (aX l (k + 1) 0),ac (aX l (k + 1) 1),ac (aX l (k + 1) 2),ac (aX l (k + 1) 3),ac (aX l (k + 1) 4),ac (aX l (k + 1) 5),ac (aX l (k + 1) 6),ac (aX l (k + 1) 7),ac (aX l (k + 1) 8),ac (aX l (k + 1) 9),ac (aX l (k + 1) 10),ac (aX l (k + 1) 11),ac (aX l (k + 1) 12),ac (aX l (k + 1) 13),ac (aX l (k + 1) 14),ac (aX l (k + 1) 15),ac (aX l (k + 1) 16)]) (@IS l k (0 + Ku (getD l (k * 1) i4) * 1) om om Db) (.s 2 (.ow ((k:Int) + 1) (.s 1 (.val 7 (zI ((k:Int) + 1)) (zN (k + 1)) HL (Hn.next next1 ⟨(k + 1),om,⟨⟩⟩ HM [(80,80)] ro))))))))))))))))) (fun p1=>have p1f:=aO p1; (.s 2 (.ow ((k:Int) + 1) (.s 1 (.val 7 (zI ((k:Int) + 1)) (zN (k + 1)) HL (.blk 80 80 (Blk.mk [ac (aX l k 0),ac (aX l k 1),ac (aX l k 2),ac (aX l k 3),ac (aX l k 4),ac (aX l k 5),ac (aX l k 6),ac (aX l k 7),ac (aX l k 8),ac (aX l k 9),ac (aX l k 10),ac (aX l k 11),ac (aX l k 12),ac (aX l k 13),ac (aX l k 14),ac (aX l k 15),ac (aX l k 16)] 195 false) (Blk.mk [ac (aX l (k + 1) 0),ac (aX l (k + 1) 1),ac (aX l (k + 1) 2),ac (aX l (k + 1) 3),ac (aX l (k + 1) 4),ac (aX l (k + 1) 5),ac (aX l (k + 1) 6),ac (aX l (k + 1) 7),ac (aX l (k + 1) 8),ac (aX l (k + 1) 9),ac (aX l (k + 1) 10),ac (aX l (k + 1) 11),ac (aX l (k + 1) 12),ac (aX l (k + 1) 13),ac (aX l (k + 1) 14),ac (aX l (k + 1) 15),ac (aX l (k + 1) 16)] 195 false) (by (exact au (De (by (omega))))) (Hn.next next1 ⟨(k + 1),om,⟨⟩⟩ HM [(80,80)] ro)))))))))))))) (fun p0=>have p0f:=aO p0; (.blk 80 80 (Blk.mk [ac (aX l k 0),ac (aX l k 1),ac (aX l k 2),ac (aX l k 3),ac (aX l k 4),ac (aX l k 5),ac (aX l k 6),ac (aX l k 7),ac (aX l k 8),ac (aX l k 9),ac (aX l k 10),ac (aX l k 11),ac (aX l k 12),ac (aX l k 13),ac (aX l k 14),ac (aX l k 15),ac (aX l k 16)] 195 false) (Blk.mk [ac (aD l 0),ac (aD l 1),ac (aD l 2),ac (aD l 3),ac (aD l 4),ac (aD l 5),ac (aD l 6),ac (aD l 7),ac (aD l 8),ac (aD l 9),ac (aD l 10),ac (aD l 11),ac (aD l 12),ac (aD l 13),ac (aD l 14),ac (aD l 15),ac (aD l 16)] 195 false) (by (exact au (F2 (by (omega))))) (Hn.last last1 0 (():Unit) rfl [(80,80)] ro)))))) (fun | ⟨k,hk,_⟩=>by kernel_rfl) ⟨(0),om,⟨⟩⟩ [(80,80)] ro (bX (fun | ()=>(.s 19 (.val 2 (uI 0) (ac (qb l 0)) (by (rw [nY]; rfl)) (.blk 120 120 (Blk.mk [ac (aD l 0),ac (aD l 1),ac (aD l 2),ac (aD l 3),ac (aD l 4),ac (aD l 5),ac (aD l 6),ac (aD l 7),ac (aD l 8),ac (aD l 9),ac (aD l 10),ac (aD l 11),ac (aD l 12),ac (aD l 13),ac (aD l 14),ac (aD l 15),ac (aD l 16)] 195 false) (Blk.mk [ac (bJ l 0 0),ac (bJ l 0 1),ac (bJ l 0 2),ac (bJ l 0 3),ac (bJ l 0 4),ac (bJ l 0 5),ac (bJ l 0 6),ac (bJ l 0 7),ac (bJ l 0 8),ac (bJ l 0 9),ac (bJ l 0 10),ac (bJ l 0 11),ac (bJ l 0 12),ac (bJ l 0 13),ac (bJ l 0 14),ac (bJ l 0 15),ac (bJ l 0 16)] 195 false) (by (exact au (F3 l))) (Hn.inl T_ok ag false 21 144 (aq Try.prog 105 0) (fun (x:(a:Nat) ×' (ha:a ≤ 17) ×' Unit)=>match x with | ⟨a,ha,_⟩=>CutS.mk [(0,D.ptr 120 120 0),(2,cJ (qb l a)),(4,nD a)] [⟨80,80,80,80,.b ⟨[ac (aD l 0),ac (aD l 1),ac (aD l 2),ac (aD l 3),ac (aD l 4),ac (aD l 5),ac (aD l 6),ac (aD l 7),ac (aD l 8),ac (aD l 9),ac (aD l 10),ac (aD l 11),ac (aD l 12),ac (aD l 13),ac (aD l 14),ac (aD l 15),ac (aD l 16)],195,false⟩⟩,⟨120,120,120,120,.c ⟨gO (bJ l a),195,false⟩⟩] 160) (fun (x:(a:Nat) ×' (ha:a ≤ 17) ×' Unit)=>match x with | ⟨a,ha,_⟩=>17 - a) [⟨Unit,.exit 0,fun x=>match x with | ()=>CutS.mk [(0,D.ptr 120 120 0)] [⟨80,80,80,80,.b ⟨[ac (aD l 0),ac (aD l 1),ac (aD l 2),ac (aD l 3),ac (aD l 4),ac (aD l 5),ac (aD l 6),ac (aD l 7),ac (aD l 8),ac (aD l 9),ac (aD l 10),ac (aD l 11),ac (aD l 12),ac (aD l 13),ac (aD l 14),ac (aD l 15),ac (aD l 16)],195,false⟩⟩,⟨120,120,120,120,.c ⟨gO (bi l 0),195,false⟩⟩] 160⟩] 1000 64 (fun | ⟨a,ha,_⟩,Q,next1,last1=>(.s 2 (.br (decide ((a:Int) < 17)) (fun p2=>have p2f:=aN p2; (.s 10 (.chk (true && decide ((a:Int) < (↑17:Int))) bk (.s 3 (.opt ((gO (bJ l a))[0 + a * 1]?) (cJ (bJ l a (0 + a * 1))) (@s7 (bJ l a) (0 + a * 1) om) (.s 2 (.opt (ap .u32 ((↑(qb l a):Int) + (↑(bJ l a (0 + a * 1)):Int))) (uI ((↑(qb l a):Int) + (↑(bJ l a (0 + a * 1)):Int))) (ar Kb) (.s 2 (.opt (ap .u32 (((↑(qb l a):Int) + (↑(bJ l a (0 + a * 1)):Int)) * 2)) (uI (((↑(qb l a):Int) + (↑(bJ l a (0 + a * 1)):Int)) * 2)) (ar Kb) (.s 4 (.chk (true && decide ((a:Int) < (↑17:Int))) bk (.s 2 (.chk (true && Kx (0 + a * 1 + 1) 17) (by (refine KA ?_; (omega))) (.lst (af [ac (bJ l a 0),ac (bJ l a 1),ac (bJ l a 2),ac (bJ l a 3),ac (bJ l a 4),ac (bJ l a 5),ac (bJ l a 6),ac (bJ l a 7),ac (bJ l a 8),ac (bJ l a 9),ac (bJ l a 10),ac (bJ l a 11),ac (bJ l a 12),ac (bJ l a 13),ac (bJ l a 14),ac (bJ l a 15),ac (bJ l a 16)] (0 + a * 1) [ac (qb l a)]) ([ac (bJ l (a + 1) 0),ac (bJ l (a + 1) 1),ac (bJ l (a + 1) 2),ac (bJ l (a + 1) 3),ac (bJ l (a + 1) 4),ac (bJ l (a + 1) 5),ac (bJ l (a + 1) 6),ac (bJ l (a + 1) 7),ac (bJ l (a + 1) 8),ac (bJ l (a + 1) 9),ac (bJ l (a + 1) 10),ac (bJ l (a + 1) 11),ac (bJ l (a + 1) 12),ac (bJ l (a + 1) 13),ac (bJ l (a + 1) 14),ac (bJ l (a + 1) 15),ac (bJ l (a + 1) 16)]) (@F5 l a (0 + a * 1) ((↑(qb l a):Int)) om om om) (.s 2 (.ow ((a:Int) + 1) (.s 1 (.val 2 (uI (((↑(qb l a):Int) + (↑(bJ l a (0 + a * 1)):Int)) * 2)) (ac (qb l (a + 1))) Kc (.val 4 (zI ((a:Int) + 1)) (zN (a + 1)) Kc (Hn.next next1 ⟨(a + 1),om,⟨⟩⟩ (by show 17 - (a + 1) < 17 - a; clear next1 last1; omega) [(80,80),(120,120)] ro)))))))))))))))))))) (fun p2=>have p2f:=aO p2; (.blk 120 120 (Blk.mk [ac (bJ l a 0),ac (bJ l a 1),ac (bJ l a 2),ac (bJ l a 3),ac (bJ l a 4),ac (bJ l a 5),ac (bJ l a 6),ac (bJ l a 7),ac (bJ l a 8),ac (bJ l a 9),ac (bJ l a 10),ac (bJ l a 11),ac (bJ l a 12),ac (bJ l a 13),ac (bJ l a 14),ac (bJ l a 15),ac (bJ l a 16)] 195 false) (Blk.mk [ac (bi l 0 0),ac (bi l 0 1),ac (bi l 0 2),ac (bi l 0 3),ac (bi l 0 4),ac (bi l 0 5),ac (bi l 0 6),ac (bi l 0 7),ac (bi l 0 8),ac (bi l 0 9),ac (bi l 0 10),ac (bi l 0 11),ac (bi l 0 12),ac (bi l 0 13),ac (bi l 0 14),ac (bi l 0 15),ac (bi l 0 16)] 195 false) (by (exact au (F4 (by (omega))))) (Hn.last last1 0 (():Unit) rfl [(80,80),(120,120)] ro)))))) (fun | ⟨a,ha,_⟩=>by kernel_rfl) ⟨(0),om,⟨⟩⟩ [(80,80),(120,120)] ro (bX (fun | ()=>(.s 3 (.chk (true && decide ((n:Int) ≤ (n:Int)) && true && true && true && true && decide ((↑(TI.bytes sY):Int) * (n:Int) ≤ 140737488355328)) (by (have h9:((sY.bytes:Nat):Int) = 8:=rfl; rw [h9]; simp; omega)) (.s 4 (.blk 184 184 (Blk.mk (co [uI 0,bI 0] (n * 2)) 198 true) (Blk.mk (flatMap jy (j8 l 0)) 198 true) (by (refine au ?_; rw [C8,F0,hn])) (Hn.inl T_ok ag false 39 0 (aq Try.prog 80 0) (fun (x:(k:Nat) ×' (hk:k ≤ n) ×' Unit)=>match x with | ⟨k,hk,_⟩=>CutS.mk [(7,D.ptr 0 0 0),(8,D.ref 8 8 0 n 2),(23,D.sl false n 1 (map dB l)),(24,zN n),(25,nD k)] [⟨0,0,120,120,.c ⟨gO (bi l k),195,false⟩⟩,⟨8,8,184,184,.b ⟨(j8 l k).flatMap jy,198,true⟩⟩] 16) (fun (x:(k:Nat) ×' (hk:k ≤ n) ×' Unit)=>match x with | ⟨k,hk,_⟩=>n - k) [⟨Unit,.exit 0,fun x=>match x with | ()=>CutS.mk [(7,D.ptr 0 0 0),(8,D.ref 8 8 0 n 2),(23,D.sl false n 1 (map dB l)),(24,zN n)] [⟨8,8,184,184,.b ⟨(ab l).flatMap jy,198,true⟩⟩] 16⟩] 1000 64 (fun | ⟨k,hk,_⟩,Q,next1,last1=>(.s 2 (.br (decide ((k:Int) < (n:Int))) (fun p3=>have p3f:=aN p3; (.s 2 (.chk (true && decide ((k:Int) < (n:Int)) && true) J9 (.s 2 (.opt ((map dB l)[k * 1]?) (dB (getD l (k * 1) i4)) (ao _ _ om) (.s 5 (.br (decide (0 < (↑(Ku (getD l (k * 1) i4)):Int))) (fun p4=>have p4f:=aN p4; (.s 12 (.chk (true && decide ((↑(Ku (getD l (k * 1) i4)):Int) < (↑17:Int))) FZ (.s 3 (.opt ((gO (bi l k))[0 + Ku (getD l (k * 1) i4) * 1]?) (cJ (bi l k (0 + Ku (getD l (k * 1) i4) * 1))) (@s7 (bi l k) (0 + Ku (getD l (k * 1) i4) * 1) Db) (.s 2 (.opt (ap .u32 ((↑(bi l k (0 + Ku (getD l (k * 1) i4) * 1)):Int) + 1)) (uI ((↑(bi l k (0 + Ku (getD l (k * 1) i4) * 1)):Int) + 1)) (ar Db) (.s 2 (.chk (true && decide ((↑(Ku (getD l (k * 1) i4)):Int) < (↑17:Int))) FZ (.s 2 (.chk (true && Kx (0 + Ku (getD l (k * 1) i4) * 1 + 1) 17) Ka (.lst (af [ac (bi l k 0),ac (bi l k 1),ac (bi l k 2),ac (bi l k 3),ac (bi l k 4),ac (bi l k 5),ac (bi l k 6),ac (bi l k 7),ac (bi l k 8),ac (bi l k 9),ac (bi l k 10),ac (bi l k 11),ac (bi l k 12),ac (bi l k 13),ac (bi l k 14),ac (bi l k 15),ac (bi l k 16)] (0 + Ku (getD l (k * 1) i4) * 1) [uI ((↑(bi l k (0 + Ku (getD l (k * 1) i4) * 1)):Int) + 1)]) ([ac (bi l (k + 1) 0),ac (bi l (k + 1) 1),ac (bi l (k + 1) 2),ac (bi l (k + 1) 3),ac (bi l (k + 1) 4),ac (bi l (k + 1) 5),ac (bi l (k + 1) 6),ac (bi l (k + 1) 7),ac (bi l (k + 1) 8),ac (bi l (k + 1) 9),ac (bi l (k + 1) 10),ac (bi l (k + 1) 11),ac (bi l (k + 1) 12),ac (bi l (k + 1) 13),ac (bi l (k + 1) 14),ac (bi l (k + 1) 15),ac (bi l (k + 1) 16)]) (@F6 l k (0 + Ku (getD l (k * 1) i4) * 1) om om Db) (.s 4 (.chk (true && decide ((↑(Ku (getD l (k * 1) i4)):Int) < (↑17:Int))) FZ (.s 3 (.opt ((gO (bi l (k + 1)))[0 + Ku (getD l (k * 1) i4) * 1]?) (cJ (bi l (k + 1) (0 + Ku (getD l (k * 1) i4) * 1))) (@s7 (bi l (k + 1)) (0 + Ku (getD l (k * 1) i4) * 1) Db) (.s 2 (.opt (ap .u32 ((↑(bi l (k + 1) (0 + Ku (getD l (k * 1) i4) * 1)):Int) - 1)) (uI ((↑(bi l (k + 1) (0 + Ku (getD l (k * 1) i4) * 1)):Int) - 1)) (ar Db) (.s 10 (.chk (true && decide ((k:Int) < (n:Int))) bk (.s 1 (.chk (true && Kx (0 + k * 2 + 2) (length (flatMap jy (j8 l k)))) (by (rw [ba (k:=2) (fun _=>rfl),nZ]; simp only [KX]; refine KA ?_; (omega))) (.lst (af (flatMap jy (j8 l k)) (0 + k * 2) [uI ((↑(bi l (k + 1) (0 + Ku (getD l (k * 1) i4) * 1)):Int) - 1),dO (Ku (getD l (k * 1) i4))]) (af (flatMap jy (j8 l k)) (k * 2) [uI ((↑(bi l (k + 1) (Ku (getD l k i4))):Int) - 1),dO (Ku (getD l k i4))]) (by (simp; done)) (.s 2 (.ow ((k:Int) + 1) (.s 1 (.val 25 (zI ((k:Int) + 1)) (zN (k + 1)) HL (.blk 8 8 (Blk.mk (af (flatMap jy (j8 l k)) (k * 2) [uI ((↑(bi l (k + 1) (Ku (getD l k i4))):Int) - 1),dO (Ku (getD l k i4))]) 198 true) (Blk.mk (flatMap jy (j8 l (k + 1))) 198 true) (by (exact au (Kt hc15 (by (omega)) (by (omega))))) (Hn.next next1 ⟨(k + 1),om,⟨⟩⟩ HM [(0,0),(8,8)] ro))))))))))))))))))))))))))))) (fun p4=>have p4f:=aO p4; (.s 2 (.ow ((k:Int) + 1) (.s 1 (.val 25 (zI ((k:Int) + 1)) (zN (k + 1)) HL (.blk 0 0 (Blk.mk [ac (bi l k 0),ac (bi l k 1),ac (bi l k 2),ac (bi l k 3),ac (bi l k 4),ac (bi l k 5),ac (bi l k 6),ac (bi l k 7),ac (bi l k 8),ac (bi l k 9),ac (bi l k 10),ac (bi l k 11),ac (bi l k 12),ac (bi l k 13),ac (bi l k 14),ac (bi l k 15),ac (bi l k 16)] 195 false) (Blk.mk [ac (bi l (k + 1) 0),ac (bi l (k + 1) 1),ac (bi l (k + 1) 2),ac (bi l (k + 1) 3),ac (bi l (k + 1) 4),ac (bi l (k + 1) 5),ac (bi l (k + 1) 6),ac (bi l (k + 1) 7),ac (bi l (k + 1) 8),ac (bi l (k + 1) 9),ac (bi l (k + 1) 10),ac (bi l (k + 1) 11),ac (bi l (k + 1) 12),ac (bi l (k + 1) 13),ac (bi l (k + 1) 14),ac (bi l (k + 1) 15),ac (bi l (k + 1) 16)] 195 false) (by (exact au (Df (by (omega))))) (.blk 8 8 (Blk.mk (flatMap jy (j8 l k)) 198 true) (Blk.mk (flatMap jy (j8 l (k + 1))) 198 true) (by (rw [F7 (by (omega)) (by (omega))])) (Hn.next next1 ⟨(k + 1),om,⟨⟩⟩ HM [(0,0),(8,8)] ro))))))))))))))) (fun p3=>have p3f:=aO p3; (.blk 8 8 (Blk.mk (flatMap jy (j8 l k)) 198 true) (Blk.mk (flatMap jy (ab l)) 198 true) (by (rw [show k = l.length from by (omega),Bh ho])) (Hn.last last1 0 (():Unit) rfl [(8,8)] ro)))))) (fun | ⟨k,hk,_⟩=>by kernel_rfl) ⟨(0),om,⟨⟩⟩ [(120,120),(184,184)] ro (bX (fun | ()=>(.s 3 (.out [8] [8] (D.tup [D.ref 0 0 0 n 2,zI 0]) [Blk.mk (flatMap jy (ab l)) 198 true] R (ok _ _ wr wr)))))))))))))))))))))))))) (by kernel_rfl)
def s8 (l:List UInt8) (m:Nat):Nat → Nat
 | 0=>0
 | n + 1=>if m < n + 1 ∧ l.getD n i4 = 0 then s8 l m n else n + 1
def gl (l:List UInt8) (m:Nat):Nat:=lk l (s8 l m l.length)
theorem li (l:List UInt8) (m:Nat):gl l m = s8 l m l.length:=aA _ _
theorem IT {l:List UInt8} {m n T u:Nat} (hR:s8 l m n = T) (h:m < n) (hu:u = n - 1) (h2:(((l.getD u i4).toNat:Nat):Int) = 0):s8 l m (n - 1) = T:=by
 subst hu
 obtain ⟨g,rfl⟩:∃ g,n = g + 1:=⟨n - 1,by omega⟩
 rw [← hR,s8,if_pos ⟨by omega,A4 h2⟩]; rfl
theorem F9 {l:List UInt8} {m n T:Nat} (hR:s8 l m n = T) (h:¬ (m < n ∧ (l.getD (n - 1) i4).toNat = 0)):n = T:=by
 rw [← hR]
 cases n with
 | zero=>rfl
 | succ n=>exact (if_neg (fun q=>h ⟨by omega,by rw [Me,q.2]; rfl⟩)).symm
theorem wA {l:List UInt8} {m:Nat}:∀ n,s8 l m n ≤ n ∧ (m ≤ n → m ≤ s8 l m n)
 | 0=>⟨KG _,id⟩
 | n + 1=>by
  rw [s8]; split
  ·have:=wA (l:=l) (m:=m) n; omega
  ·omega
theorem jc (l:List UInt8) (m:Nat):gl l m ≤ l.length ∧ (m ≤ l.length → m ≤ gl l m):=by rw [li]; exact wA _
structure Nm where
 v:Nat
 n:Nat
 deriving Inhabited
abbrev aK (x:Nm):List D:=[cJ x.v,nD x.n]
theorem bS (l:List Nm):(l.flatMap aK).length = l.length * 2:=ba (k:=2) (fun _=>rfl) l
theorem bT (l m:List Nm):(l ++ m).flatMap aK = l.flatMap aK ++ m.flatMap aK:=Mb
theorem Dg (l:List UInt8) (L:Nat) (hL:L = l.length) (hL2:L ≤ 320) (m:Nat) (hm:m ≤ 1000) (T:Nat) (hT:gl l m = T):SpecH false Try.prog 77 [.sl false L 1 (l.map dB),nD m] [] (nD T) []:=by
 refine SpecH.run T_ok ag Try.func77 rfl rfl rfl trivial rfl 1000 64 (fun R ok=>(.s 4 (Hn.inl T_ok ag false 22 0 (aq Try.prog 77 0) (fun (x:(n:Nat) ×' (hn:n ≤ L) ×' (hR:s8 l m n = T) ×' Unit)=>match x with | ⟨n,hn,hR,_⟩=>CutS.mk [(0,D.sl false L 1 (map dB l)),(1,zN m),(5,nD n)] [] 0) (fun (x:(n:Nat) ×' (hn:n ≤ L) ×' (hR:s8 l m n = T) ×' Unit)=>match x with | ⟨n,hn,hR,_⟩=>n) [⟨Unit,.exit 0,fun x=>match x with | ()=>CutS.mk [(0,D.sl false L 1 (map dB l)),(1,zN m),(5,nD T)] [] 0⟩] 1000 64 (fun | ⟨n,hn,hR,_⟩,Q,next1,last1=>(.s 6 (.br (decide ((m:Int) < (n:Int))) (fun p0=>have p0f:=aN p0; (.s 5 (.ow ((n:Int) - 1) (.s 2 (.chk (decide (0 ≤ (n:Int) - 1) && decide ((n:Int) - 1 < (L:Int)) && true) (by ((refine aF ?_ ?_) <;> (repeat' (first | (refine aF ?_ ?_) | (with_reducible rfl) | (refine decide_eq_true ?_) | (refine KA ?_) | (refine er ?_))) <;> (omega))) (.s 3 (.opt ((map dB l)[un ((n:Int) - 1) * 1]?) (dB (getD l (un ((n:Int) - 1) * 1) i4)) (ao _ _ om) (.s 4 (.br ((↑(Ku (getD l (un ((n:Int) - 1) * 1) i4)):Int) == 0) (fun p1=>have p1f:=eq_of_beq p1; (.s 3 (.ow ((n:Int) - 1) (.s 1 (.val 5 (zI ((n:Int) - 1)) (zN (n - 1)) (by ( refine aJ ?_; omega)) (Hn.next next1 ⟨(n - 1),om,(by (simp only [KW] at *;  exact IT hR om (u:=((n:Int) - 1).toNat) om om)),⟨⟩⟩ (by show n - 1 < n; clear next1 last1; omega) [] ro)))))) (fun p1=>have p1f:=am p1; (.val 5 (zN n) (zN T) (by (simp only [KW] at *;  rw [F9 hR (by rw [show ((n:Int) - 1).toNat = n - 1 from by omega] at *; omega)])) (Hn.last last1 0 (():Unit) rfl [] ro)))))))))))) (fun p0=>have p0f:=aO p0; (.s 12 (.val 5 (zN n) (zN T) (by ( rw [F9 hR om])) (Hn.last last1 0 (():Unit) rfl [] ro))))))) (fun | ⟨n,hn,hR,_⟩=>by kernel_rfl) ⟨(L),om,(by (rw [hL]; exact (li l m).symm.trans hT)),⟨⟩⟩ [] ro (bX (fun | ()=>(.s 2 (.out [] [] (zN T) [] R (ok _ _ wr wr)))))))) (by kernel_rfl)
def mW (X:List Nm):Nat → Nat
 | 0=>0
 | i + 1=>mW X i + (X.getD i i4).n
def wB (X:List Nm):Nat:=lk X (mW X X.length)
theorem rL (X:List Nm):wB X = mW X X.length:=aA _ _
theorem Bk {X:List Nm} (h:∀ i,(X.getD i i4).n ≤ 32):∀ i,mW X i ≤ 32 * i
 | 0=>KG _
 | i + 1=>by have:=Bk h i; have:=h i; rw [mW]; omega
theorem Ga {p:Prop} (h:p:=by (simp;  have h9:=fl (v:=v) (c:=c) (m:=m) om; have h8:=mn m (c - m); omega)):p:=h
theorem Gb {p:Prop} (h:p:=by ( have h9:=fl (v:=v) (c:=c) (m:=m) om; have h8:=mn m (c - m); omega)):p:=h
theorem Gc (c:Nat) (hc:c ≤ 100000):SpecH false Try.prog 97 [.v (.int .u64 1),.v (.int .u64 c)] [] (.tup [.v (.int .u64 0),.v (.int .u64 c)]) []:=by
 refine SpecH.run T_ok ag Try.func97 rfl rfl rfl trivial rfl 1000 64 (fun R ok=>(.s 22 (.opt (bq LY (KP LY (↑(K6 (KE 64 (c:Int) &&& KE 64 4294967295)):Int))) (D.v (Ll .u64 ((c:Int) % 4294967296))) (aC (@jx 32 (4294967296:Int) ((c:Int)) (4294967295) om om om om)) (.s 4 (.opt (bq LY (Lb (c:Int) 4294967296)) (D.v (Ll .u64 ((c:Int) / 4294967296))) (aC (@fM  ((c:Int)) (4294967296) om)) (.s 5 (.opt (ap .u64 (1 * ((c:Int) % 4294967296))) (D.v (Ll .u64 (1 * ((c:Int) % 4294967296)))) (a9 om) (.s 5 (.opt (ap .u64 (0 * ((c:Int) % 4294967296))) (D.v (Ll .u64 (0 * ((c:Int) % 4294967296)))) (a9 om) (.s 3 (.opt (bq LY (Lb (1 * ((c:Int) % 4294967296)) 4294967296)) (D.v (Ll .u64 (1 * ((c:Int) % 4294967296) / 4294967296))) (aC (@fM  (1 * ((c:Int) % 4294967296)) (4294967296) om)) (.s 2 (.opt (ap .u64 (0 * ((c:Int) % 4294967296) + 1 * ((c:Int) % 4294967296) / 4294967296)) (D.v (Ll .u64 (0 * ((c:Int) % 4294967296) + 1 * ((c:Int) % 4294967296) / 4294967296))) (a9 om) (.s 4 (.opt (bq LY (KP LY (↑(K6 (KE 64 (0 * ((c:Int) % 4294967296) + 1 * ((c:Int) % 4294967296) / 4294967296) &&& KE 64 4294967295)):Int))) (D.v (Ll .u64 ((0 * ((c:Int) % 4294967296) + 1 * ((c:Int) % 4294967296) / 4294967296) % 4294967296))) (aC (@jx 32 (4294967296:Int) (0 * ((c:Int) % 4294967296) + 1 * ((c:Int) % 4294967296) / 4294967296) (4294967295) om om om om)) (.s 4 (.opt (bq LY (Lb (0 * ((c:Int) % 4294967296) + 1 * ((c:Int) % 4294967296) / 4294967296) 4294967296)) (D.v (Ll .u64 ((0 * ((c:Int) % 4294967296) + 1 * ((c:Int) % 4294967296) / 4294967296) / 4294967296))) (aC (@fM  (0 * ((c:Int) % 4294967296) + 1 * ((c:Int) % 4294967296) / 4294967296) (4294967296) om)) (.s 6 (.opt (ap .u64 (1 * ((c:Int) / 4294967296))) (D.v (Ll .u64 (1 * ((c:Int) / 4294967296)))) (a9 om) (.s 2 (.opt (ap .u64 ((0 * ((c:Int) % 4294967296) + 1 * ((c:Int) % 4294967296) / 4294967296) % 4294967296 + 1 * ((c:Int) / 4294967296))) (D.v (Ll .u64 ((0 * ((c:Int) % 4294967296) + 1 * ((c:Int) % 4294967296) / 4294967296) % 4294967296 + 1 * ((c:Int) / 4294967296)))) (a9 om) (.s 5 (.opt (ap .u64 (0 * ((c:Int) / 4294967296))) (D.v (Ll .u64 (0 * ((c:Int) / 4294967296)))) (a9 om) (.s 3 (.opt (ap .u64 (0 * ((c:Int) / 4294967296) + (0 * ((c:Int) % 4294967296) + 1 * ((c:Int) % 4294967296) / 4294967296) / 4294967296)) (D.v (Ll .u64 (0 * ((c:Int) / 4294967296) + (0 * ((c:Int) % 4294967296) + 1 * ((c:Int) % 4294967296) / 4294967296) / 4294967296))) (a9 om) (.s 3 (.opt (bq LY (Lb ((0 * ((c:Int) % 4294967296) + 1 * ((c:Int) % 4294967296) / 4294967296) % 4294967296 + 1 * ((c:Int) / 4294967296)) 4294967296)) (D.v (Ll .u64 (((0 * ((c:Int) % 4294967296) + 1 * ((c:Int) % 4294967296) / 4294967296) % 4294967296 + 1 * ((c:Int) / 4294967296)) / 4294967296))) (aC (@fM  ((0 * ((c:Int) % 4294967296) + 1 * ((c:Int) % 4294967296) / 4294967296) % 4294967296 + 1 * ((c:Int) / 4294967296)) (4294967296) om)) (.s 2 (.opt (ap .u64 (0 * ((c:Int) / 4294967296) + (0 * ((c:Int) % 4294967296) + 1 * ((c:Int) % 4294967296) / 4294967296) / 4294967296 + ((0 * ((c:Int) % 4294967296) + 1 * ((c:Int) % 4294967296) / 4294967296) % 4294967296 + 1 * ((c:Int) / 4294967296)) / 4294967296)) (D.v (Ll .u64 (0 * ((c:Int) / 4294967296) + (0 * ((c:Int) % 4294967296) + 1 * ((c:Int) % 4294967296) / 4294967296) / 4294967296 + ((0 * ((c:Int) % 4294967296) + 1 * ((c:Int) % 4294967296) / 4294967296) % 4294967296 + 1 * ((c:Int) / 4294967296)) / 4294967296))) (a9 om) (.s 5 (.opt (ap .u64 (1 * (c:Int))) (D.v (Ll .u64 (1 * (c:Int)))) (a9 om) (.s 12 (.out [] [] (D.tup [D.v (Ll .u64 (0 * ((c:Int) / 4294967296) + (0 * ((c:Int) % 4294967296) + 1 * ((c:Int) % 4294967296) / 4294967296) / 4294967296 + ((0 * ((c:Int) % 4294967296) + 1 * ((c:Int) % 4294967296) / 4294967296) % 4294967296 + 1 * ((c:Int) / 4294967296)) / 4294967296)),D.v (Ll .u64 (1 * (c:Int)))]) [] R (ok _ _ (by (simp <;> (omega))) wr)))))))))))))))))))))))))))))))))) (by kernel_rfl)
def bV (v:UInt8) (c m:Nat):List UInt8:=KJ m v ++ KJ (c - m) 0
theorem fl {v:UInt8} {c m:Nat} (h:m ≤ c):(bV v c m).length = c:=by unfold bV; simp; omega
theorem mn (a b:Nat):Lv a b ≤ a ∧ Lv a b ≤ b ∧ (1 ≤ a → 1 ≤ b → 1 ≤ Lv a b):=by
 show min a b ≤ a ∧ min a b ≤ b ∧ (1 ≤ a → 1 ≤ b → 1 ≤ min a b)
 omega
theorem IU {L:List D} {m:Nat}:(bif true && Kv (m * 1) L.length then L else (L.drop 0).take (m * 1)) = L.take m:=by
 rw [KW,Ma]
 cases h:(true && Kv m L.length) with
 | false=>rfl
 | true =>
  have:=Kz ((KX _).symm.trans h)
  rw [cond_true,this,LF]
theorem Dh {v:UInt8} {c:Nat} (h:1 ≤ c):af (co [D.v (.int .u8 0)] c) 0 (K7 (Lv 1 c) [D.v (.int .u8 ((v.toNat:Nat):Int))]) = (bV v c 1).map dB:=by
 have e:Lv 1 c = 1:=by show min 1 c = 1; omega
 have r:co [D.v (.int .u8 0)] c = KJ c (dB 0):=by
  rw [M8]
  refine ⟨by simp [co],fun d hd=>?_⟩
  unfold co at hd
  obtain ⟨j,_,rfl⟩:=List.mem_map.1 hd
  show [D.v (.int .u8 0)].getD (j % 1) i4 = dB 0
  rw [Ou]; rfl
 rw [e,r]
 unfold bV af
 rw [Lh,L4,L4,Nq]
 rfl
theorem Di {v:UInt8} {c m k:Nat} (h:k ≤ m) (h2:m + k ≤ c):af ((bV v c m).map dB) m (Mg dB (K7 k (K7 m (bV v c m)))) = (bV v c (m + k)).map dB:=by
 have e1:(bV v c m).take m = KJ m v:=by
  unfold bV
  rw [LW (by simp),N4,Nat.min_self]
 unfold af
 rw [← Nh,e1,N4,NO h,KH,K1,← List.map_drop,← Lh,← Lh]
 congr 1
 unfold bV
 rw [Oq,Nq,Nq,K1,show m - (m + k) = 0 from by omega,show c - m - (m + k - m) = c - (m + k) from by omega]
 simp [List.replicate_append_replicate]
theorem qc (nn:Bool) (v:UInt8) (c:Nat) (hc:1 ≤ c ∧ c ≤ 100000):SpecH false Try.prog 73 [.sl nn 1 1 [dB v],nD c] [] (.ref 0 0 0 c 1) [⟨(KJ c v).map dB, 5, true⟩]:=by
 refine SpecH.run T_ok ag Try.func73 rfl rfl rfl ⟨bf _,trivial⟩ rfl 1000 64 (fun R ok=>(.s 11 (.opt (ap .u64 (c:Int)) (D.v (Ll .u64 (c:Int))) (a9 om) (.s 1 (.cl 97 false [] (.fn Kq (@Gc (c) om)) (.s 17 (.f (decide (9223372036854775807 < (c:Int))) (by (refine decide_eq_false ?_; (omega))) (.s 2 (.ow (c:Int) (.s 1 (.chk (true && decide ((c:Int) ≤ (c:Int)) && true && true && true && true && decide ((↑(TI.bytes yF):Int) * (c:Int) ≤ 140737488355328)) (by (have h9:((yF.bytes:Nat):Int) = 1:=rfl; rw [h9]; simp; omega)) (.s 4 (.chk (true && Mf 0 (Lv 1 c) && Kx (0 + c) (length (co [bI 0] (c * 1)))) (by (simp_all; done)) (.lst (af (co [bI 0] (c * 1)) 0 (take (Lv 1 c) [dO (Ku v)])) (af (co [bI 0] c) 0 (take (Lv 1 c) [dO (Ku v)])) (by (simp; done)) (.s 1 (.val 8 (zN (Lv 1 c)) (zI 1) (by (simp_all; done)) (.blk 176 176 (Blk.mk (af (co [bI 0] c) 0 (take (Lv 1 c) [dO (Ku v)])) 5 true) (Blk.mk (map dB (bV v c 1)) 5 true) (by (refine au (Dh om))) (Hn.inl T_ok ag false 48 0 (aq Try.prog 73 0) (fun (x:(m:Nat) ×' (hm:1 ≤ m ∧ m ≤ c) ×' Unit)=>match x with | ⟨m,hm,_⟩=>CutS.mk [(7,D.ref 0 0 0 c 1),(8,nD m)] [⟨0,0,176,176,.b ⟨(bV v c m).map dB,5,true⟩⟩] 8) (fun (x:(m:Nat) ×' (hm:1 ≤ m ∧ m ≤ c) ×' Unit)=>match x with | ⟨m,hm,_⟩=>c - m) [⟨Unit,.exit 0,fun x=>match x with | ()=>CutS.mk [(7,D.ref 0 0 0 c 1)] [⟨0,0,176,176,.b ⟨(replicate c v).map dB,5,true⟩⟩] 8⟩] 1000 64 (fun | ⟨m,hm,_⟩,Q,next1,last1=>(.s 5 (.br (decide ((m:Int) < (c:Int))) (fun p0=>have p0f:=aN p0; (.s 5 (.chk (aS (some (m:Int)) none none c && true) Ga (.s 3 (.chk (aS none (some (m:Int)) none c && true) Ga (.s 1 (.chk (true && Kx (0 + m * 1) (length (map dB (bV v c m))) && true && true && true && Mf 0 (Lv m (c - m)) && Kx (0 + m * 1 + (c - m)) (length (map dB (bV v c m)))) (by (simp only [KX,K2,KH];  have h9:=fl (v:=v) (c:=c) (m:=m) om; have h8:=mn m (c - m); simp only [Ky]; refine ⟨⟨KA om,KA om⟩,KA om⟩)) (.lst (af (map dB (bV v c m)) (0 + m * 1) (take (Lv m (c - m)) (bif true && Kv (m * 1) (length (map dB (bV v c m))) then map dB (bV v c m) else take (m * 1) (drop 0 (map dB (bV v c m)))))) (af (map dB (bV v c m)) m (map dB (take (Lv m (c - m)) (take m (bV v c m))))) (by (rw [IU,KW,KV,Nh,Nh])) (.s 2 (.op ((m:Int) + (↑(Lv m (c - m)):Int)) Gb (.s 1 (.val 8 (zI ((m:Int) + (↑(Lv m (c - m)):Int))) (zN (m + Lv m (c - m))) (by (refine aJ ?_; (omega))) (.blk 0 0 (Blk.mk (af (map dB (bV v c m)) m (map dB (take (Lv m (c - m)) (take m (bV v c m))))) 5 true) (Blk.mk (map dB (bV v c (m + Lv m (c - m)))) 5 true) (by ( have h9:=fl (v:=v) (c:=c) (m:=m) om; have h8:=mn m (c - m); refine au (Di om om))) (Hn.next next1 ⟨(m + Lv m (c - m)),Gb,⟨⟩⟩ (by show c - (m + Lv m (c - m)) < c - m; clear next1 last1; ( have h9:=fl (v:=v) (c:=c) (m:=m) om; have h8:=mn m (c - m); omega)) [(0,0)] ro)))))))))))))) (fun p0=>have p0f:=aO p0; (.blk 0 0 (Blk.mk (map dB (bV v c m)) 5 true) (Blk.mk (map dB (replicate c v)) 5 true) (by (rw [show m = c from by (omega)]; unfold bV; simp; done)) (Hn.last last1 0 (():Unit) rfl [(0,0)] ro)))))) (fun | ⟨m,hm,_⟩=>by kernel_rfl) ⟨(1),om,⟨⟩⟩ [(176,176)] ro (bX (fun | ()=>(.s 2 (.out [0] [0] (D.ref 0 0 0 c 1) [Blk.mk (map dB (replicate c v)) 5 true] R (ok _ _ wr wr))))))))))))))))))))))) (by kernel_rfl)
def cD:List UInt8:=KJ 144 8 ++ KJ 112 9 ++ KJ 24 7 ++ KJ 8 8
def fm:List UInt8:=KJ 32 5
theorem Gd (R:List UInt8) (hR:R = KJ 144 8):SpecH false Try.prog 73 [.sl true 1 1 [.v (.int .u8 8)],iD 144] [] (.ref 0 0 0 144 1) [⟨R.map dB, 5, true⟩]:=by
 subst hR; exact qc true 8 144 (by decide)
theorem Ge (R:List UInt8) (hR:R = KJ 112 9):SpecH false Try.prog 73 [.sl true 1 1 [.v (.int .u8 9)],iD 112] [] (.ref 0 0 0 112 1) [⟨R.map dB, 5, true⟩]:=by
 subst hR; exact qc true 9 112 (by decide)
theorem Gf (R:List UInt8) (hR:R = KJ 24 7):SpecH false Try.prog 73 [.sl true 1 1 [.v (.int .u8 7)],iD 24] [] (.ref 0 0 0 24 1) [⟨R.map dB, 5, true⟩]:=by
 subst hR; exact qc true 7 24 (by decide)
theorem Gg (R:List UInt8) (hR:R = KJ 8 8):SpecH false Try.prog 73 [.sl true 1 1 [.v (.int .u8 8)],iD 8] [] (.ref 0 0 0 8 1) [⟨R.map dB, 5, true⟩]:=by
 subst hR; exact qc true 8 8 (by decide)
theorem Gh (R:List UInt8) (hR:R = KJ 32 5):SpecH false Try.prog 73 [.sl true 1 1 [.v (.int .u8 5)],iD 32] [] (.ref 0 0 0 32 1) [⟨R.map dB, 5, true⟩]:=by
 subst hR; exact qc true 5 32 (by decide)
theorem yQ (R1 R2 R3 R4 R5:List UInt8) (h1:R1 = KJ 144 8) (h2:R2 = KJ 112 9) (h3:R3 = KJ 24 7) (h4:R4 = KJ 8 8) (h5:R5 = KJ 32 5):SpecH false Try.prog 47 [] [] (.tup [.ref 0 0 0 288 1,.ref 1 1 0 32 1]) [⟨(R1 ++ R2 ++ R3 ++ R4).map dB, 5, true⟩,⟨R5.map dB, 5, true⟩]:=by
 have l1:R1.length = 144:=by rw [h1,K1]
 have l2:R2.length = 112:=by rw [h2,K1]
 have l3:R3.length = 24:=by rw [h3,K1]
 have l4:R4.length = 8:=by rw [h4,K1]
 have l5:R5.length = 32:=by rw [h5,K1]
 refine SpecH.run T_ok ag Try.func47 rfl rfl rfl ⟨bf _,bf _,trivial⟩ rfl 1000 64 (fun R ok=>(.s 5 (.cl 73 false [] (.fn FA (@Gd (R1) bk)) (.s 3 (.cl 73 false [] (.fn FA (@Ge (R2) bk)) (.s 3 (.cl 73 false [] (.fn FA (@Gf (R3) bk)) (.s 3 (.cl 73 false [] (.fn FA (@Gg (R4) bk)) (.s 165 (.chk (true && (true && Kx 144 (length (map dB R1))) && true && true && true) (by (simp <;> (omega))) (.s 17 (.chk (true && Kv 144 (length (bif true && Kv 144 (length (map dB R1)) then map dB R1 else take 144 (drop 0 (map dB R1)))) && true && (true && Kx 112 (length (map dB R2))) && true && true && true) (by (simp_all; done)) (.s 17 (.chk (true && Kv 256 (length ((bif true && Kv 144 (length (map dB R1)) then map dB R1 else take 144 (drop 0 (map dB R1))) ++ bif true && Kv 112 (length (map dB R2)) then map dB R2 else take 112 (drop 0 (map dB R2)))) && true && (true && Kx 24 (length (map dB R3))) && true && true && true) (by (simp_all; done)) (.s 17 (.chk (true && Kv 280 (length (((bif true && Kv 144 (length (map dB R1)) then map dB R1 else take 144 (drop 0 (map dB R1))) ++ bif true && Kv 112 (length (map dB R2)) then map dB R2 else take 112 (drop 0 (map dB R2))) ++ bif true && Kv 24 (length (map dB R3)) then map dB R3 else take 24 (drop 0 (map dB R3)))) && true && (true && Kx 8 (length (map dB R4))) && true && true && true) (by (simp_all; done)) (.s 15 (.cl 73 false [] (.fn FA (@Gh (R5) bk)) (.s 2 (.out [1112,1272] [1112,1272] (D.tup [D.ref 0 0 0 288 1,D.ref 1 1 0 32 1]) [Blk.mk ((((bif true && Kv 144 (length (map dB R1)) then map dB R1 else take 144 (drop 0 (map dB R1))) ++ bif true && Kv 112 (length (map dB R2)) then map dB R2 else take 112 (drop 0 (map dB R2))) ++ bif true && Kv 24 (length (map dB R3)) then map dB R3 else take 24 (drop 0 (map dB R3))) ++ bif true && Kv 8 (length (map dB R4)) then map dB R4 else take 8 (drop 0 (map dB R4))) 5 true,Blk.mk (map dB R5) 5 true] R (ok _ _ wr (by (simp_all; done)))))))))))))))))))))))) (by kernel_rfl)
theorem j9 (L F:List UInt8) (hL:L = cD) (hF:F = fm):SpecH false Try.prog 47 [] [] (.tup [.ref 0 0 0 288 1,.ref 1 1 0 32 1]) [⟨L.map dB, 5, true⟩,⟨F.map dB, 5, true⟩]:=by
 subst hL hF; exact yQ _ _ _ _ _ rfl rfl rfl rfl rfl
theorem yR  : SpecH false Try.prog 79 [] [] (.agg ([16,17,18,0,8,7,9,6,10,5,11,4,12,3,13,2,14,1,15].map nD)) []:=by
 refine SpecH.run T_ok ag Try.func79 rfl rfl rfl trivial rfl 1000 64 (fun R ok=>(.s 10 (.out [] [] (D.agg [zI 16,zI 17,zI 18,zI 0,zI 8,zI 7,zI 9,zI 6,zI 10,zI 5,zI 11,zI 4,zI 12,zI 3,zI 13,zI 2,zI 14,zI 1,zI 15]) [] R (ok _ _ (by (simp; done)) wr)))) (by kernel_rfl)
theorem HN {p:Prop} (h:p:=by (refine aJ ?_; (omega))):p:=h
theorem Kd {p:Prop} (h:p:=by ((refine aF ?_ ?_) <;> (repeat' (first | (refine aF ?_ ?_) | (with_reducible rfl) | (refine decide_eq_true ?_) | (refine KA ?_) | (refine er ?_))) <;> (omega))):p:=h
def rM (at' : Nat):Nat:=lk [()] ((8 - (at' + 3) % 8) % 8)
theorem n5 (at' : Nat):rM at' = (8 - (at' + 3) % 8) % 8:=aA _ _
def HO (x:UInt8):Nm:=⟨x.toNat,8⟩
def lJ (e k:Nat):List Nm:=[⟨e,1⟩,⟨k,2⟩]
def IV (e a r:Nat):List Nm:=[⟨e,1⟩,⟨0,2⟩,⟨0,rM a⟩,⟨r,16⟩,⟨65535 - r,16⟩]
def lY (e a:Nat) (raw:List UInt8) (i:Nat):List Nm:=lk raw (IV e a raw.length ++ (raw.take i).map HO)
theorem gm (e a:Nat) (raw:List UInt8) (i:Nat):lY e a raw i = IV e a raw.length ++ (raw.take i).map HO:=aA _ _
def oN (e a:Nat) (raw:List UInt8):List Nm:=lY e a raw raw.length
theorem iE {e a:Nat} {raw:List UInt8} {i:Nat} (h:i ≤ raw.length):(lY e a raw i).length = 5 + i:=by
 rw [gm,Kw,KH,KC,NO h]; rfl
theorem Gi {e a:Nat} {raw:List UInt8} {i:Nat} (h:i < raw.length):(lY e a raw (i + 1)).flatMap aK = (lY e a raw i).flatMap aK ++ aK ⟨(raw.getD i i4).toNat,8⟩:=by
 have e1:raw.take (i + 1) = raw.take i ++ [raw.getD i i4]:=by
  rw [K4 h,List.getD_eq_getElem?_getD,List.getElem?_eq_getElem h]; rfl
 rw [gm,gm,e1,Lh,← KS,bT]; rfl
theorem Gj {e a:Nat} {raw:List UInt8}:(lY e a raw 0).flatMap aK = [cJ e,nD 1,cJ 0,nD 2,cJ 0,nD (rM a),cJ raw.length,nD 16,cJ (65535 - raw.length),nD 16]:=by
 rw [gm]; rfl
theorem Bl {e a:Nat} {raw:List UInt8} {r:Nat} {x y:Int} (hr:r = raw.length) (hx:x = (rM a:Int)) (hy:y = ((65535 - r:Nat):Int)):[D.v (.int .u32 (e:Int)),D.v (.int .i64 1),D.v (.int .u32 0),D.v (.int .i64 2),D.v (.int .u32 0),D.v (.int .i64 x),D.v (.int .u32 (r:Int)),D.v (.int .i64 16),D.v (.int .u32 y),D.v (.int .i64 16)] = (lY e a raw 0).flatMap aK:=by
 subst hr hx hy; exact Gj.symm
theorem Bm {e a:Nat} {raw:List UInt8} {i u:Nat} (hu:u = i) (h:i < raw.length):(lY e a raw i).flatMap aK ++ [D.v (.int .u32 (((raw.getD u i4).toNat:Nat):Int)),D.v (.int .i64 8)] = (lY e a raw (i + 1)).flatMap aK:=by
 subst hu; exact (Gi h).symm
theorem Gk (k:Nat) (cs:List D) (hcs:cs.length = k * 3) (a:Nat) (ha:a ≤ 7) (raw:List UInt8) (r:Nat) (hr:r = raw.length) (hr2:r ≤ 65535) (L F:List UInt8) (hL:L = cD) (hF:F = fm):SpecH false Try.prog 29 [nD a,ie 0,.sl false r 1 (raw.map dB),.sl false k 3 cs,.v (.bool true)] [] (.ptr 0 0 0) [⟨[.ref 1 1 0 (5 + r) 2], 78, false⟩,⟨(oN 1 a raw).flatMap aK, 81, true⟩]:=by
 refine SpecH.run T_ok ag Try.func29 rfl rfl rfl ⟨rfl,ee (fun _=>rfl) _,trivial⟩ rfl 1000 64 (fun R ok=>(.s 43 (.cl 47 false [] (.fn HI (@j9 (L) (F) bk bk)) (.s 21 (.ow ((a:Int) + 3) (.s 2 (.opt (bq KY (MB ((a:Int) + 3) 8)) (zI (((a:Int) + 3) % 8)) (aC (@cO  ((a:Int) + 3) (8) om)) (.s 2 (.ow (8 - ((a:Int) + 3) % 8) (.s 2 (.opt (bq KY (MB (8 - ((a:Int) + 3) % 8) 8)) (zI ((8 - ((a:Int) + 3) % 8) % 8)) (aC (@cO  (8 - ((a:Int) + 3) % 8) (8) om)) (.s 5 (.opt (ap .u32 (r:Int)) (ac r) (ar om) (.s 6 (.ow (65535 - (r:Int)) (.s 1 (.opt (ap .u32 (65535 - (r:Int))) (uI (65535 - (r:Int))) (ar om) (.s 28 (.blk 560 560 (Blk.mk [uI 1,zI 1,uI 0,zI 2,uI 0,zI ((8 - ((a:Int) + 3) % 8) % 8),ac r,zI 16,uI (65535 - (r:Int)),zI 16] 81 true) (Blk.mk (flatMap aK (lY 1 a raw 0)) 81 true) (by ( refine au (Bl (e:=1) hr ?_ ?_) <;> (try rw [n5]) <;> omega)) (Hn.inl T_ok ag false 39 368 (aq Try.prog 48 0) (fun (x:(i:Nat) ×' (hi:i ≤ r) ×' Unit)=>match x with | ⟨i,hi,_⟩=>CutS.mk [(0,D.ptr 16 16 0),(26,D.sl false r 1 (map dB raw)),(27,zN r),(28,nD i)] [⟨16,16,16,16,.b ⟨[(D.ref 400 400 (0) (5 + i) 2)],78,false⟩⟩,⟨104,104,104,104,.b ⟨[uI 1,zI 1,uI 0,zI 2],81,false⟩⟩,⟨264,264,264,264,.b ⟨map dB L,5,true⟩⟩,⟨265,265,265,265,.b ⟨map dB F,5,true⟩⟩,⟨400,400,560,560,.b ⟨(lY 1 a raw i).flatMap aK,81,true⟩⟩] 408) (fun (x:(i:Nat) ×' (hi:i ≤ r) ×' Unit)=>match x with | ⟨i,hi,_⟩=>r - i) [⟨Unit,.exit 0,fun x=>match x with | ()=>CutS.mk [(0,D.ptr 16 16 0),(26,D.sl false r 1 (map dB raw)),(27,zN r),(28,nD r)] [⟨16,16,16,16,.b ⟨[(D.ref 400 400 (0) (5 + r) 2)],78,false⟩⟩,⟨104,104,104,104,.b ⟨[uI 1,zI 1,uI 0,zI 2],81,false⟩⟩,⟨264,264,264,264,.b ⟨map dB L,5,true⟩⟩,⟨265,265,265,265,.b ⟨map dB F,5,true⟩⟩,⟨400,400,560,560,.b ⟨(oN 1 a raw).flatMap aK,81,true⟩⟩] 408⟩] 1000 64 (fun | ⟨i,hi,_⟩,Q,next1,last1=>(.s 2 (.br (decide ((i:Int) < (r:Int))) (fun p0=>have p0f:=aN p0; (.s 1 (.chk (true && decide ((i:Int) < (r:Int)) && true) Kd (.s 2 (.opt ((map dB raw)[i * 1]?) (dB (getD raw (i * 1) i4)) (ao _ _ om) (.s 4 (.opt (ap .u32 (↑(Ku (getD raw (i * 1) i4)):Int)) (ac (Ku (getD raw (i * 1) i4))) (ar (by (exact fN _ (by decide) (by decide)))) (.s 17 (.chk (true && Kv ((5 + i) * 2) (length (flatMap aK (lY 1 a raw i))) && true && true && true && true && Kx ((5 + i + 1) * 16) 140737488355328) (by ( simp only [bS,iE (raw:=raw) (e:=1) (a:=a) (i:=i) om,Ly,KX,K2]; refine KA ?_; omega)) (.s 9 (.ow ((i:Int) + 1) (.s 1 (.val 28 (zI ((i:Int) + 1)) (zN (i + 1)) HN (.blk 16 16 (Blk.mk [D.ref 536 536 0 (5 + i + 1) 2] 78 false) (Blk.mk [D.ref 536 536 0 (5 + (i + 1)) 2] 78 false) (by (simp <;> (omega))) (.blk 536 536 (Blk.mk (flatMap aK (lY 1 a raw i) ++ [ac (Ku (getD raw (i * 1) i4)),zI 8]) 81 true) (Blk.mk (flatMap aK (lY 1 a raw (i + 1))) 81 true) (by ( refine au (Bm om om))) (Hn.next next1 ⟨(i + 1),om,⟨⟩⟩ (by show r - (i + 1) < r - i; clear next1 last1; omega) [(16,16),(104,104),(264,264),(265,265),(536,536)] ro)))))))))))))))) (fun p0=>have p0f:=aO p0; (.val 28 (zN i) (zN r) HN (.blk 16 16 (Blk.mk [D.ref 400 400 0 (5 + i) 2] 78 false) (Blk.mk [D.ref 400 400 0 (5 + r) 2] 78 false) (by (simp <;> (omega))) (.blk 400 400 (Blk.mk (flatMap aK (lY 1 a raw i)) 81 true) (Blk.mk (flatMap aK (oN 1 a raw)) 81 true) (by ( rw [show i = raw.length from by omega]; rfl)) (Hn.last last1 0 (():Unit) rfl [(16,16),(104,104),(264,264),(265,265),(400,400)] ro)))))))) (fun | ⟨i,hi,_⟩=>by kernel_rfl) ⟨(0),om,⟨⟩⟩ [(16,16),(104,104),(264,264),(265,265),(560,560)] ro (bX (fun | ()=>(.s 2 (.out [16,400] [16,400] (D.ptr 0 0 0) [Blk.mk [D.ref 1 1 0 (5 + r) 2] 78 false,Blk.mk (flatMap aK (oN 1 a raw)) 81 true] R (ok _ _ wr wr))))))))))))))))))))))))) (by kernel_rfl)
theorem Gl (k:Nat) (cs:List D) (hcs:cs.length = k * 3) (a:Nat) (ha:a ≤ 7) (raw:List UInt8) (r:Nat) (hr:r = raw.length) (hr2:r ≤ 65535) (L F:List UInt8) (hL:L = cD) (hF:F = fm):SpecH false Try.prog 29 [nD a,ie 0,.sl false r 1 (raw.map dB),.sl false k 3 cs,.v (.bool false)] [] (.ptr 0 0 0) [⟨[.ref 1 1 0 (5 + r) 2], 78, false⟩,⟨(oN 0 a raw).flatMap aK, 81, true⟩]:=by
 refine SpecH.run T_ok ag Try.func29 rfl rfl rfl ⟨rfl,ee (fun _=>rfl) _,trivial⟩ rfl 1000 64 (fun R ok=>(.s 42 (.cl 47 false [] (.fn HI (@j9 (L) (F) bk bk)) (.s 21 (.ow ((a:Int) + 3) (.s 2 (.opt (bq KY (MB ((a:Int) + 3) 8)) (zI (((a:Int) + 3) % 8)) (aC (@cO  ((a:Int) + 3) (8) om)) (.s 2 (.ow (8 - ((a:Int) + 3) % 8) (.s 2 (.opt (bq KY (MB (8 - ((a:Int) + 3) % 8) 8)) (zI ((8 - ((a:Int) + 3) % 8) % 8)) (aC (@cO  (8 - ((a:Int) + 3) % 8) (8) om)) (.s 5 (.opt (ap .u32 (r:Int)) (ac r) (ar om) (.s 6 (.ow (65535 - (r:Int)) (.s 1 (.opt (ap .u32 (65535 - (r:Int))) (uI (65535 - (r:Int))) (ar om) (.s 28 (.blk 552 552 (Blk.mk [uI 0,zI 1,uI 0,zI 2,uI 0,zI ((8 - ((a:Int) + 3) % 8) % 8),ac r,zI 16,uI (65535 - (r:Int)),zI 16] 81 true) (Blk.mk (flatMap aK (lY 0 a raw 0)) 81 true) (by ( refine au (Bl (e:=0) hr ?_ ?_) <;> (try rw [n5]) <;> omega)) (Hn.inl T_ok ag false 39 360 (aq Try.prog 48 0) (fun (x:(i:Nat) ×' (hi:i ≤ r) ×' Unit)=>match x with | ⟨i,hi,_⟩=>CutS.mk [(0,D.ptr 16 16 0),(26,D.sl false r 1 (map dB raw)),(27,zN r),(28,nD i)] [⟨16,16,16,16,.b ⟨[(D.ref 392 392 (0) (5 + i) 2)],78,false⟩⟩,⟨96,96,96,96,.b ⟨[uI 0,zI 1,uI 0,zI 2],81,false⟩⟩,⟨256,256,256,256,.b ⟨map dB L,5,true⟩⟩,⟨257,257,257,257,.b ⟨map dB F,5,true⟩⟩,⟨392,392,552,552,.b ⟨(lY 0 a raw i).flatMap aK,81,true⟩⟩] 400) (fun (x:(i:Nat) ×' (hi:i ≤ r) ×' Unit)=>match x with | ⟨i,hi,_⟩=>r - i) [⟨Unit,.exit 0,fun x=>match x with | ()=>CutS.mk [(0,D.ptr 16 16 0),(26,D.sl false r 1 (map dB raw)),(27,zN r),(28,nD r)] [⟨16,16,16,16,.b ⟨[(D.ref 392 392 (0) (5 + r) 2)],78,false⟩⟩,⟨96,96,96,96,.b ⟨[uI 0,zI 1,uI 0,zI 2],81,false⟩⟩,⟨256,256,256,256,.b ⟨map dB L,5,true⟩⟩,⟨257,257,257,257,.b ⟨map dB F,5,true⟩⟩,⟨392,392,552,552,.b ⟨(oN 0 a raw).flatMap aK,81,true⟩⟩] 400⟩] 1000 64 (fun | ⟨i,hi,_⟩,Q,next1,last1=>(.s 2 (.br (decide ((i:Int) < (r:Int))) (fun p0=>have p0f:=aN p0; (.s 1 (.chk (true && decide ((i:Int) < (r:Int)) && true) Kd (.s 2 (.opt ((map dB raw)[i * 1]?) (dB (getD raw (i * 1) i4)) (ao _ _ om) (.s 4 (.opt (ap .u32 (↑(Ku (getD raw (i * 1) i4)):Int)) (ac (Ku (getD raw (i * 1) i4))) (ar (by (exact fN _ (by decide) (by decide)))) (.s 17 (.chk (true && Kv ((5 + i) * 2) (length (flatMap aK (lY 0 a raw i))) && true && true && true && true && Kx ((5 + i + 1) * 16) 140737488355328) (by ( simp only [bS,iE (raw:=raw) (e:=0) (a:=a) (i:=i) om,Ly,KX,K2]; refine KA ?_; omega)) (.s 9 (.ow ((i:Int) + 1) (.s 1 (.val 28 (zI ((i:Int) + 1)) (zN (i + 1)) HN (.blk 16 16 (Blk.mk [D.ref 528 528 0 (5 + i + 1) 2] 78 false) (Blk.mk [D.ref 528 528 0 (5 + (i + 1)) 2] 78 false) (by (simp <;> (omega))) (.blk 528 528 (Blk.mk (flatMap aK (lY 0 a raw i) ++ [ac (Ku (getD raw (i * 1) i4)),zI 8]) 81 true) (Blk.mk (flatMap aK (lY 0 a raw (i + 1))) 81 true) (by ( refine au (Bm om om))) (Hn.next next1 ⟨(i + 1),om,⟨⟩⟩ (by show r - (i + 1) < r - i; clear next1 last1; omega) [(16,16),(96,96),(256,256),(257,257),(528,528)] ro)))))))))))))))) (fun p0=>have p0f:=aO p0; (.val 28 (zN i) (zN r) HN (.blk 16 16 (Blk.mk [D.ref 392 392 0 (5 + i) 2] 78 false) (Blk.mk [D.ref 392 392 0 (5 + r) 2] 78 false) (by (simp <;> (omega))) (.blk 392 392 (Blk.mk (flatMap aK (lY 0 a raw i)) 81 true) (Blk.mk (flatMap aK (oN 0 a raw)) 81 true) (by ( rw [show i = raw.length from by omega]; rfl)) (Hn.last last1 0 (():Unit) rfl [(16,16),(96,96),(256,256),(257,257),(392,392)] ro)))))))) (fun | ⟨i,hi,_⟩=>by kernel_rfl) ⟨(0),om,⟨⟩⟩ [(16,16),(96,96),(256,256),(257,257),(552,552)] ro (bX (fun | ()=>(.s 2 (.out [16,392] [16,392] (D.ptr 0 0 0) [Blk.mk [D.ref 1 1 0 (5 + r) 2] 78 false,Blk.mk (flatMap aK (oN 0 a raw)) 81 true] R (ok _ _ wr wr))))))))))))))))))))))))) (by kernel_rfl)
end Vp
end Go.Proofs.Ytefjnofhgkjpmaa
namespace Go.Proofs.Ytefjnofhgkjpmaa
open Go.RowKit Go.Bw Go.Vx
open List (length getD map take drop flatMap replicate)
namespace Vp
theorem ig {p:Prop} (h:p:=by ( have h9:=hl i; have h5:=Lm (l.getD i i4).lit; have h2:=bt hT1 hT2 (hl i); have h8:=okL (l.getD i i4).lit.toNat; have h4:=okL (257 + ai T1 (l.getD i i4).long); have h3:=okF (ai T2 (l.getD i i4).dist); have g1:=hz1 (ai T1 (l.getD i i4).long); have g2:=hz2 (ai T2 (l.getD i i4).dist); have g3:=okL 256; have h7:=bH (T1:=T1) (T2:=T2) (A:=ab L) (B:=ab F) (H:=H) (l:=l) i om; unfold di at h9; omega)):p:=h
theorem lZ {p:Prop} (h:p:=by ( have h9:=hl 0; have h5:=Lm (l.getD 0 i4).lit; have h2:=bt hT1 hT2 (hl 0); have h8:=okL (l.getD 0 i4).lit.toNat; have h4:=okL (257 + ai T1 (l.getD 0 i4).long); have h3:=okF (ai T2 (l.getD 0 i4).dist); have g1:=hz1 (ai T1 (l.getD 0 i4).long); have g2:=hz2 (ai T2 (l.getD 0 i4).dist); have g3:=okL 256; have h7:=bH (T1:=T1) (T2:=T2) (A:=ab L) (B:=ab F) (H:=H) (l:=l) 0 om; unfold di at h9; omega)):p:=h
theorem yS {p:Prop} (h:p:=by (exact KK (okL _).1 (by decide))):p:=h
theorem Bn {p:Prop} (h:p:=by cases d <;> repeat' first | exact trivial | exact rfl | exact (fun _=>de _) | exact (fun _=>by assumption) | exact (fun _=>bF _ (fun _=>rfl) _) | exact (fun _=>dN (fun _=>rfl) _) | (intro h; cases h; done) | (intro _; rfl) | (intro _; exact ct _ (bF _ (fun _=>rfl) _)) | exact i5 _ (bF _ (fun _=>rfl) _) | refine KI ?_ ?_ | refine fJ ?_ ?_ | (intro _; refine cP ?_ ?_) | refine cP ?_ ?_ | (intro _; refine gg ?_ ?_) | exact ct _ (bF _ (fun _=>rfl) _) | exact bF _ (fun _=>rfl) _):p:=h
theorem D3 {p:Prop} (h:p:=by ( rw [show i = k from by omega])):p:=h
theorem HP {p:Prop} (h:p:=by (rw [eM]; have h5:=Lm (l.getD 0 i4).lit;  refine KA ?_; omega)):p:=h
theorem HQ {p:Prop} (h:p:=by ( have h7:=bH (T1:=T1) (T2:=T2) (A:=ab L) (B:=ab F) (H:=H) (l:=l) i om; simp only [Kw,bS,KU,Ml,KX,K2,Ky,Md,L2]; omega)):p:=h
theorem HR {p:Prop} (h:p:=by ( have h7:=bH (T1:=T1) (T2:=T2) (A:=ab L) (B:=ab F) (H:=H) (l:=l) i om; simp only [bS,Ly,KX,K2]; refine KA ?_; omega)):p:=h
theorem HS {p:Prop} (h:p:=by (refine aJ ?_; (omega))):p:=h
theorem HT {p:Prop} (h:p:=by show k - (i + 1) < k - i; clear next1 last1; omega):p:=h
theorem yT {p:Prop} (h:p:=by (refine decide_eq_true ?_;  have h9:=hl i; have h5:=Lm (l.getD i i4).lit; have h2:=bt hT1 hT2 (hl i); have h8:=okL (l.getD i i4).lit.toNat; have h4:=okL (257 + ai T1 (l.getD i i4).long); have h3:=okF (ai T2 (l.getD i i4).dist); have g1:=hz1 (ai T1 (l.getD i i4).long); have g2:=hz2 (ai T2 (l.getD i i4).dist); have g3:=okL 256; have h7:=bH (T1:=T1) (T2:=T2) (A:=ab L) (B:=ab F) (H:=H) (l:=l) i om; unfold di at h9; omega)):p:=h
theorem yU {p:Prop} (h:p:=by (rw [eM]; have h2:=bt hT1 hT2 (hl i);  refine KA ?_; omega)):p:=h
theorem Dj {p:Prop} (h:p:=by (rw [eg]; refine KA ?_; (omega))):p:=h
theorem Dk {p:Prop} (h:p:=by (exact fN _ (by decide) (by decide))):p:=h
theorem Dl {p:Prop} (h:p:=by (refine decide_eq_true ?_;  have h9:=hl 0; have h5:=Lm (l.getD 0 i4).lit; have h2:=bt hT1 hT2 (hl 0); have h8:=okL (l.getD 0 i4).lit.toNat; have h4:=okL (257 + ai T1 (l.getD 0 i4).long); have h3:=okF (ai T2 (l.getD 0 i4).dist); have g1:=hz1 (ai T1 (l.getD 0 i4).long); have g2:=hz2 (ai T2 (l.getD 0 i4).dist); have g3:=okL 256; have h7:=bH (T1:=T1) (T2:=T2) (A:=ab L) (B:=ab F) (H:=H) (l:=l) 0 om; unfold di at h9; omega)):p:=h
theorem Dm {p:Prop} (h:p:=by (exact KK (okF _).1 (by decide))):p:=h
theorem Gm {p:Prop} (h:p:=by (simp;  have h9:=hl 0; have h5:=Lm (l.getD 0 i4).lit; have h2:=bt hT1 hT2 (hl 0); have h8:=okL (l.getD 0 i4).lit.toNat; have h4:=okL (257 + ai T1 (l.getD 0 i4).long); have h3:=okF (ai T2 (l.getD 0 i4).dist); have g1:=hz1 (ai T1 (l.getD 0 i4).long); have g2:=hz2 (ai T2 (l.getD 0 i4).dist); have g3:=okL 256; have h7:=bH (T1:=T1) (T2:=T2) (A:=ab L) (B:=ab F) (H:=H) (l:=l) 0 om; unfold di at h9; omega)):p:=h
theorem Gn {p:Prop} (h:p:=by exact (KI (D.sim.slw rfl (aR (by (simp;  have h9:=hl 0; have h5:=Lm (l.getD 0 i4).lit; have h2:=bt hT1 hT2 (hl 0); have h8:=okL (l.getD 0 i4).lit.toNat; have h4:=okL (257 + ai T1 (l.getD 0 i4).long); have h3:=okF (ai T2 (l.getD 0 i4).dist); have g1:=hz1 (ai T1 (l.getD 0 i4).long); have g2:=hz2 (ai T2 (l.getD 0 i4).dist); have g3:=okL 256; have h7:=bH (T1:=T1) (T2:=T2) (A:=ab L) (B:=ab F) (H:=H) (l:=l) 0 om; unfold di at h9; omega)) |>.trans rfl)) (KI (D.sim.refl _) trivial))):p:=h
theorem Gp {p:Prop} (h:p:=by (rw [KX]; refine decide_eq_true ?_; have h5:=Lm (l.getD i i4).lit; omega)):p:=h
theorem Gq {p:Prop} (h:p:=by (rw [eM]; refine KA ?_; have h5:=Lm (l.getD i i4).lit; (omega))):p:=h
theorem Gr {p:Prop} (h:p:=by ( refine au ?_; rw [eW om om,bT,bT,KS]; rfl)):p:=h
theorem Gs {p:Prop} (h:p:=by (have h7:=bH (T1:=T1) (T2:=T2) (A:=ab L) (B:=ab F) (H:=H) (l:=l) k om; simp only [bS,Ly,KX,K2]; refine KA ?_; omega)):p:=h
theorem Gt {p:Prop} (h:p:=by (rw [eM]; have h2:=bt hT1 hT2 (hl 0);  refine KA ?_; omega)):p:=h
structure Tn where
 lit:UInt8
 dist:Nat
 long:Nat
 deriving Inhabited
abbrev bp (t:Tn):List D:=[dB t.lit,nD t.dist,nD t.long]
def di (t:Tn):Prop:=t.long = 0 ∨ 3 ≤ t.long ∧ t.long ≤ 258 ∧ 1 ≤ t.dist ∧ t.dist ≤ 32768
theorem eg (l:List Tn):(l.flatMap bp).length = l.length * 3:=ba (k:=3) (fun _=>rfl) l
def gn (C:List (Nat × Nat)) (s n x:Nat):List Nm:=[⟨eK (C.getD s i4).1 (C.getD s i4).2,(C.getD s i4).2⟩,⟨x,n⟩]
def uR (T1 T2:List Sy) (A B:List (Nat × Nat)) (t:Tn):List Nm :=
 if t.long = 0 then gn A t.lit.toNat 0 0
 else gn A (257 + ai T1 t.long) (T1.getD (ai T1 t.long) i4).bits (t.long - (T1.getD (ai T1 t.long) i4).least) ++ gn B (ai T2 t.dist) (T2.getD (ai T2 t.dist) i4).bits (t.dist - (T2.getD (ai T2 t.dist) i4).least)
def aI (T1 T2:List Sy) (A B:List (Nat × Nat)) (H:List Nm) (l:List Tn) (i:Nat):List Nm:=lk l (H ++ (l.take i).flatMap (uR T1 T2 A B))
section
variable {T1 T2:List Sy} {A B:List (Nat × Nat)} {H:List Nm} {l:List Tn} {i:Nat}
theorem fP:aI T1 T2 A B H l i = H ++ (l.take i).flatMap (uR T1 T2 A B):=aA _ _
theorem gq:aI T1 T2 A B H l 0 = H:=by rw [fP]; exact Lk _
theorem wC (h:i < l.length):aI T1 T2 A B H l (i + 1) = aI T1 T2 A B H l i ++ uR T1 T2 A B (l.getD i i4):=by
 have e1:l.take (i + 1) = l.take i ++ [l.getD i i4]:=by
  rw [K4 h,List.getD_eq_getElem?_getD,List.getElem?_eq_getElem h]; rfl
 rw [fP,fP,e1,Mb,← KS,MH]
theorem yV (t:Tn):(uR T1 T2 A B t).length ≤ 4:=by 
 unfold uR; split
 ·show 2 ≤ 4; decide
 ·show 4 ≤ 4; decide
theorem bH:∀ i,i ≤ l.length → (aI T1 T2 A B H l i).length ≤ H.length + 4 * i
 | 0,_=>by rw [gq]; omega
 | i + 1,h=>by
  rw [wC (by omega),Kw]
  have:=bH i (by omega)
  have:=yV (T1:=T1) (T2:=T2) (A:=A) (B:=B) (l.getD i i4)
  omega
theorem dM (h:i < l.length) (h0:(l.getD i i4).long = 0):aI T1 T2 A B H l (i + 1) = aI T1 T2 A B H l i ++ gn A (l.getD i i4).lit.toNat 0 0:=by
 rw [wC h,uR,if_pos h0]
theorem eW (h:i < l.length) (h0:(l.getD i i4).long ≠ 0):aI T1 T2 A B H l (i + 1) = aI T1 T2 A B H l i ++ (gn A (257 + ai T1 (l.getD i i4).long) (T1.getD (ai T1 (l.getD i i4).long) i4).bits ((l.getD i i4).long - (T1.getD (ai T1 (l.getD i i4).long) i4).least) ++ gn B (ai T2 (l.getD i i4).dist) (T2.getD (ai T2 (l.getD i i4).dist) i4).bits ((l.getD i i4).dist - (T2.getD (ai T2 (l.getD i i4).dist) i4).least)):=by
 rw [wC h,uR,if_neg h0]
end
theorem wD {T:List Sy} (hT:T = aB) {n:Nat} (h:3 ≤ n ∧ n ≤ 258):ai T n < 29:=by
 subst hT
 rw [la]
 exact wh (n:=n) (b:=259) aB 29 0 3 rfl (by decide) h.1 (by omega)
theorem yW {T:List Sy} (hT:T = aP) {n:Nat} (h:1 ≤ n ∧ n ≤ 32768):ai T n < 30:=by
 subst hT
 rw [la]
 exact wh (n:=n) (b:=32769) aP 30 0 1 rfl (by decide) h.1 (by omega)
abbrev b7 (c:Nat × Nat):List D:=[cJ c.1,ie c.2]
theorem eM (l:List (Nat × Nat)):(l.flatMap b7).length = l.length * 2:=ba (k:=2) (fun _=>rfl) l
theorem iF (l:List UInt8) (n:Nat) (hn:n = l.length) (m:Nat) (hm:1 ≤ m ∧ m ≤ 15) (hc:cz l m = 0):SpecH false Try.prog 80 [.sl false n 1 (l.map dB),nD m] [] (.tup [.ref 0 0 0 n 2,iD 0]) [⟨(ab l).flatMap b7, 198, true⟩]:=yP l n hn m hm hc
theorem bt {T1 T2:List Sy} (hT1:T1 = aB) (hT2:T2 = aP) {t:Tn} (h:di t):t.long ≠ 0 → ai T1 t.long < 29 ∧ ai T2 t.dist < 30:=fun h0=>by
 unfold di at h
 exact ⟨wD hT1 (by omega),yW hT2 (by omega)⟩
def lK (C:List (Nat × Nat)):Prop:=∀ s,(C.getD s i4).2 ≤ 15 ∧ (C.getD s i4).1 < 2 ^ (C.getD s i4).2
theorem ia (T:List Sy) (hT:T = aB) (hl:T.length = 29) (hz:bP T) (n:Nat) (hn:n ≤ 40000) (hIk:ai T n < 29):SpecH false Try.prog 98 [nD n] [] (.tup [nD (257 + ai T n),nD (T.getD (ai T n) i4).bits,nD (n - (T.getD (ai T n) i4).least),iD 0]) []:=CU T hT hl hz n hn _ rfl hIk
theorem lj (T:List Sy) (hT:T = aP) (hl:T.length = 30) (hz:bP T) (n:Nat) (hn:n ≤ 40000) (hIk:ai T n < 30):SpecH false Try.prog 99 [nD n] [] (.tup [nD (ai T n),nD (T.getD (ai T n) i4).bits,nD (n - (T.getD (ai T n) i4).least),iD 0]) []:=by
 have q:=FO T hT hl hz n hn _ rfl hIk
 rwa [KV] at q
def sh (b:Bool):Nat:=bif b then 8 else 0
theorem SpecH.run2 {τ:Sort _} (t:τ) {S0 S1:Prop} {C0 C1:τ → Prop} (f0:∀ t,C0 t → S0) (f1:∀ t,C1 t → S1) (h0:C0 t) (h1:C1 t):S0 ∧ S1:=⟨f0 t h0,f1 t h1⟩
theorem Bo (l:List Tn) (k:Nat) (hk:k = l.length) (hk2:k ≤ 65535) (hl:∀ i,di (l.getD i i4)) (T1 T2:List Sy) (hT1:T1 = aB) (hT2:T2 = aP) (hl1:T1.length = 29) (hl2:T2.length = 30) (hz1:bP T1) (hz2:bP T2) (L F:List UInt8) (hL:L = cD) (hF:F = fm) (hLl:L.length = 288) (hFl:F.length = 32) (hcL:cz L 15 = 0) (hcF:cz F 15 = 0) (hmL:(ab L).length = 288) (hmF:(ab F).length = 32) (okL:lK (ab L)) (okF:lK (ab F)) (a:Nat) (ha:a ≤ 7) (raw:List UInt8) (r:Nat) (hr:r = raw.length) (hr2:r ≤ 65535) (H:List Nm) (hH:H = lJ 1 1) (hHl:H.length = 2) (H' : List Nm) (hH' : H' = lJ 0 1) (hHl' : H'.length = 2):(SpecH false Try.prog 29 [nD a,ie 1,.sl false r 1 (raw.map dB),.sl false k 3 (l.flatMap bp),.v (.bool true)] [] (.ptr 0 0 0) [⟨[.ref 1 1 0 (aI T1 T2 (ab L) (ab F) H l k ++ gn (ab L) 256 0 0).length 2], 78, false⟩,⟨(aI T1 T2 (ab L) (ab F) H l k ++ gn (ab L) 256 0 0).flatMap aK, 81, true⟩]) ∧ (SpecH false Try.prog 29 [nD a,ie 1,.sl false r 1 (raw.map dB),.sl false k 3 (l.flatMap bp),.v (.bool false)] [] (.ptr 0 0 0) [⟨[.ref 1 1 0 (aI T1 T2 (ab L) (ab F) H' l k ++ gn (ab L) 256 0 0).length 2], 78, false⟩,⟨(aI T1 T2 (ab L) (ab F) H' l k ++ gn (ab L) 256 0 0).flatMap aK, 81, true⟩]):=by
 refine SpecH.run2 (fun (d:Bool) (e:Nat) (H:List Nm) (hH:H = lJ e 1) (hHl:H.length = 2) (R:D → List Blk → Prop) (ok:∀ r' bs', r' = (.ptr 0 0 0) → bs' = [⟨[.ref 1 1 0 (aI T1 T2 (ab L) (ab F) H l k ++ gn (ab L) 256 0 0).length 2], 78, false⟩,⟨(aI T1 T2 (ab L) (ab F) H l k ++ gn (ab L) 256 0 0).flatMap aK, 81, true⟩] → R r' bs') =>  ((.cl 47 false [] (.fn HI (@j9 (L) (F) bk bk)) (.s 26 (.call 80 false [] (true && (true && Kx 288 (length (map dB L)) && true && aa (bif true && Kv 288 (length (map dB L)) then map dB L else take 288 (drop 0 (map dB L)))) && true) Gm ([D.sl true 288 1 (bif true && Kv 288 (length (map dB L)) then map dB L else take 288 (drop 0 (map dB L))),zI 15]) _ Gn (true) wr _ _ _ (CallOk.fn (ax.of Try.func80 rfl rfl) (@iF (L) (288) om (15) (by (simp; done)) om)) (.s 13 (.call 80 false [] (true && (true && Kx 32 (length (map dB F)) && true && aa (bif true && Kv 32 (length (map dB F)) then map dB F else take 32 (drop 0 (map dB F)))) && true) Gm ([D.sl true 32 1 (bif true && Kv 32 (length (map dB F)) then map dB F else take 32 (drop 0 (map dB F))),zI 15]) _ Gn (true) wr _ _ _ (CallOk.fn (ax.of Try.func80 rfl rfl) (@iF (F) (32) om (15) (by (simp; done)) om)) (.s 18 (.two (.s 2 (.br (decide (0 < (k:Int))) (fun p0=>have p0f:=aN p0; (.s 1 (.chk (true && decide (0 < (k:Int)) && true) (by ((refine aF ?_ ?_) <;> (repeat' (first | (refine aF ?_ ?_) | (with_reducible rfl) | (refine decide_eq_true ?_) | (refine KA ?_) | (refine er ?_))) <;> (omega))) (.s 2 (.chk (Kx 3 (length (flatMap bp l))) Dj (.lst (take 3 (drop 0 (flatMap bp l))) ([dO (Ku (Tn.lit (getD l 0 i4))),zN (Tn.dist (getD l 0 i4)),zN (Tn.long (getD l 0 i4))]) (av (k:=3) (i:=0) (fun _=>rfl) om om) (.s 13 (.br ((↑(Tn.long (getD l 0 i4)):Int) == 0) (fun p1=>have p1f:=eq_of_beq p1; (.s 8 (.op (↑(Ku (Tn.lit (getD l 0 i4))):Int) Dk (.s 18 (.chk (true && decide ((↑(Ku (Tn.lit (getD l 0 i4))):Int) < (↑288:Int))) Dl (.s 2 (.chk (Kx (0 + Ku (Tn.lit (getD l 0 i4)) * 2 + 2) (length (flatMap b7 (ab L)))) HP (.lst (take 2 (drop (0 + Ku (Tn.lit (getD l 0 i4)) * 2) (flatMap b7 (ab L)))) ([ac (KR (getD (ab L) (Ku (Tn.lit (getD l 0 i4))) i4)),dO (KF (getD (ab L) (Ku (Tn.lit (getD l 0 i4))) i4))]) (av (k:=2) (i:=Ku (Tn.lit (getD l 0 i4))) (fun _=>rfl) lZ om) (.s 18 (.op (↑(KF (getD (ab L) (Ku (Tn.lit (getD l 0 i4))) i4)):Int) lZ (.s 1 (.cl 107 false [] (.fn dL (@bu (KR (getD (ab L) (Ku (Tn.lit (getD l 0 i4))) i4)) (KF (getD (ab L) (Ku (Tn.lit (getD l 0 i4))) i4)) yS (by (exact (okL _).2)))) (.s 16 (.op (↑(KF (getD (ab L) (Ku (Tn.lit (getD l 0 i4))) i4)):Int) lZ (.s 35 (.blk 16 16 (Blk.mk [D.ref (1008+sh d) (1008+sh d) 0 4 2] 78 false) (Blk.mk [D.ref (1008+sh d) (1008+sh d) 0 (length (aI T1 T2 (ab L) (ab F) H l 1)) 2] 78 false) (by ( rw [dM (i:=0) om om,gq,hH]; rfl)) (.blk (1008+sh d) (1008+sh d) (Blk.mk [ac e,zI 1,uI 1,zI 2,ac (eK (KR (getD (ab L) (Ku (Tn.lit (getD l 0 i4))) i4)) (KF (getD (ab L) (Ku (Tn.lit (getD l 0 i4))) i4))),zN (KF (getD (ab L) (Ku (Tn.lit (getD l 0 i4))) i4)),uI 0,zI 0] 81 true) (Blk.mk (flatMap aK (aI T1 T2 (ab L) (ab F) H l 1)) 81 true) (by ( rw [dM (i:=0) om om,gq,hH]; rfl)) (Hn.inl T_ok ag false 53 (544+sh d) (aq Try.prog 74 0) (fun (x:(i:Nat) ×' (hi:1 ≤ i ∧ i ≤ k) ×' Unit)=>match x with | ⟨i,hi,_⟩=>CutS.mk [(1,D.fn (K9 83) [] [D.ptr (384+sh d) (384+sh d) 0,D.ptr (496+sh d) (496+sh d) 0,D.ptr (432+sh d) (432+sh d) 0]),(10,D.sl false k 3 (flatMap bp l)),(11,zN k),(12,nD i)] [⟨16,16,16,16,.b ⟨[(D.ref (616+sh d) (616+sh d) (0) ((aI T1 T2 (ab L) (ab F) H l i).length) 2)],78,false⟩⟩,⟨(96+sh d),(96+sh d),(96+sh d),(96+sh d),.b ⟨[ac e,zI 1,uI 1,zI 2],81,false⟩⟩,⟨(256+sh d),(256+sh d),(256+sh d),(256+sh d),.b ⟨map dB L,5,true⟩⟩,⟨(257+sh d),(257+sh d),(257+sh d),(257+sh d),.b ⟨map dB F,5,true⟩⟩,⟨(384+sh d),(384+sh d),(384+sh d),(384+sh d),.b ⟨[D.ptr 16 16 0],73,false⟩⟩,⟨(400+sh d),(400+sh d),(400+sh d),(400+sh d),.b ⟨flatMap b7 (ab L),198,true⟩⟩,⟨(432+sh d),(432+sh d),(432+sh d),(432+sh d),.b ⟨[D.ref (400+sh d) (400+sh d) 0 288 2],152,false⟩⟩,⟨(464+sh d),(464+sh d),(464+sh d),(464+sh d),.b ⟨flatMap b7 (ab F),198,true⟩⟩,⟨(496+sh d),(496+sh d),(496+sh d),(496+sh d),.b ⟨[D.ref (464+sh d) (464+sh d) 0 32 2],152,false⟩⟩,⟨(616+sh d),(616+sh d),(1008+sh d),(1008+sh d),.b ⟨(aI T1 T2 (ab L) (ab F) H l i).flatMap aK,81,true⟩⟩] (624+sh d)) (fun (x:(i:Nat) ×' (hi:1 ≤ i ∧ i ≤ k) ×' Unit)=>match x with | ⟨i,hi,_⟩=>k - i) [⟨Unit,.exit 0,fun x=>match x with | ()=>CutS.mk [(1,D.fn (K9 83) [] [D.ptr (384+sh d) (384+sh d) 0,D.ptr (496+sh d) (496+sh d) 0,D.ptr (432+sh d) (432+sh d) 0]),(10,D.sl false k 3 (flatMap bp l)),(11,zN k),(12,nD k)] [⟨16,16,16,16,.b ⟨[(D.ref (616+sh d) (616+sh d) (0) ((aI T1 T2 (ab L) (ab F) H l k).length) 2)],78,false⟩⟩,⟨(96+sh d),(96+sh d),(96+sh d),(96+sh d),.b ⟨[ac e,zI 1,uI 1,zI 2],81,false⟩⟩,⟨(256+sh d),(256+sh d),(256+sh d),(256+sh d),.b ⟨map dB L,5,true⟩⟩,⟨(257+sh d),(257+sh d),(257+sh d),(257+sh d),.b ⟨map dB F,5,true⟩⟩,⟨(384+sh d),(384+sh d),(384+sh d),(384+sh d),.b ⟨[D.ptr 16 16 0],73,false⟩⟩,⟨(400+sh d),(400+sh d),(400+sh d),(400+sh d),.b ⟨flatMap b7 (ab L),198,true⟩⟩,⟨(432+sh d),(432+sh d),(432+sh d),(432+sh d),.b ⟨[D.ref (400+sh d) (400+sh d) 0 288 2],152,false⟩⟩,⟨(464+sh d),(464+sh d),(464+sh d),(464+sh d),.b ⟨flatMap b7 (ab F),198,true⟩⟩,⟨(496+sh d),(496+sh d),(496+sh d),(496+sh d),.b ⟨[D.ref (464+sh d) (464+sh d) 0 32 2],152,false⟩⟩,⟨(616+sh d),(616+sh d),(1008+sh d),(1008+sh d),.b ⟨(aI T1 T2 (ab L) (ab F) H l k).flatMap aK,81,true⟩⟩] (624+sh d)⟩] 1000 64 (fun | ⟨i,hi,_⟩,Q,next1,last1=>(.s 2 (.br (decide ((i:Int) < (k:Int))) (fun p2=>have p2f:=aN p2; (.s 1 (.chk (true && decide ((i:Int) < (k:Int)) && true) HQ (.s 2 (.chk (Kx (i * 3 + 3) (length (flatMap bp l))) Dj (.lst (take 3 (drop (i * 3) (flatMap bp l))) ([dO (Ku (Tn.lit (getD l i i4))),zN (Tn.dist (getD l i i4)),zN (Tn.long (getD l i i4))]) (av (k:=3) (i:=i) (fun _=>rfl) om om) (.s 13 (.br ((↑(Tn.long (getD l i i4)):Int) == 0) (fun p3=>have p3f:=eq_of_beq p3; (.s 8 (.op (↑(Ku (Tn.lit (getD l i i4))):Int) Dk (.s 18 (.chk (true && decide ((↑(Ku (Tn.lit (getD l i i4))):Int) < (↑288:Int))) Gp (.s 2 (.chk (Kx (0 + Ku (Tn.lit (getD l i i4)) * 2 + 2) (length (flatMap b7 (ab L)))) Gq (.lst (take 2 (drop (0 + Ku (Tn.lit (getD l i i4)) * 2) (flatMap b7 (ab L)))) ([ac (KR (getD (ab L) (Ku (Tn.lit (getD l i i4))) i4)),dO (KF (getD (ab L) (Ku (Tn.lit (getD l i i4))) i4))]) (av (k:=2) (i:=Ku (Tn.lit (getD l i i4))) (fun _=>rfl) ig om) (.s 18 (.op (↑(KF (getD (ab L) (Ku (Tn.lit (getD l i i4))) i4)):Int) ig (.s 1 (.cl 107 false [] (.fn dL (@bu (KR (getD (ab L) (Ku (Tn.lit (getD l i i4))) i4)) (KF (getD (ab L) (Ku (Tn.lit (getD l i i4))) i4)) yS (by (exact (okL _).2)))) (.s 16 (.op (↑(KF (getD (ab L) (Ku (Tn.lit (getD l i i4))) i4)):Int) ig (.s 23 (.chk (true && Kv (length (aI T1 T2 (ab L) (ab F) H l i) * 2) (length (flatMap aK (aI T1 T2 (ab L) (ab F) H l i))) && true && true && true && true && Kx ((length (aI T1 T2 (ab L) (ab F) H l i) + 2) * 16) 140737488355328) HR (.s 9 (.ow ((i:Int) + 1) (.s 1 (.val 12 (zI ((i:Int) + 1)) (zN (i + 1)) HS (.blk 16 16 (Blk.mk [D.ref (1064+sh d) (1064+sh d) 0 (length (aI T1 T2 (ab L) (ab F) H l i) + 2) 2] 78 false) (Blk.mk [D.ref (1064+sh d) (1064+sh d) 0 (length (aI T1 T2 (ab L) (ab F) H l (i + 1))) 2] 78 false) (by ( rw [dM om om,Kw]; rfl)) (.blk (1064+sh d) (1064+sh d) (Blk.mk (flatMap aK (aI T1 T2 (ab L) (ab F) H l i) ++ [ac (eK (KR (getD (ab L) (Ku (Tn.lit (getD l i i4))) i4)) (KF (getD (ab L) (Ku (Tn.lit (getD l i i4))) i4))),zN (KF (getD (ab L) (Ku (Tn.lit (getD l i i4))) i4)),uI 0,zI 0]) 81 true) (Blk.mk (flatMap aK (aI T1 T2 (ab L) (ab F) H l (i + 1))) 81 true) (by ( refine au ?_; rw [dM om om,bT]; rfl)) (Hn.next next1 ⟨(i + 1),om,⟨⟩⟩ HT [(16,16),((96+sh d),(96+sh d)),((256+sh d),(256+sh d)),((257+sh d),(257+sh d)),((384+sh d),(384+sh d)),((400+sh d),(400+sh d)),((432+sh d),(432+sh d)),((464+sh d),(464+sh d)),((496+sh d),(496+sh d)),((1064+sh d),(1064+sh d))] Bn))))))))))))))))))))))) (fun p3=>have p3f:=am p3; (.s 7 (.cl 98 false [] (.fn CL (@ia (T1) bk om om (Tn.long (getD l i i4)) ig ig)) (.s 35 (.chk (true && decide ((↑(257 + ai T1 (Tn.long (getD l i i4))):Int) < (↑288:Int))) yT (.s 2 (.chk (Kx (0 + (257 + ai T1 (Tn.long (getD l i i4))) * 2 + 2) (length (flatMap b7 (ab L)))) yU (.lst (take 2 (drop (0 + (257 + ai T1 (Tn.long (getD l i i4))) * 2) (flatMap b7 (ab L)))) ([ac (KR (getD (ab L) (257 + ai T1 (Tn.long (getD l i i4))) i4)),dO (KF (getD (ab L) (257 + ai T1 (Tn.long (getD l i i4))) i4))]) (av (k:=2) (i:=257 + ai T1 (Tn.long (getD l i i4))) (fun _=>rfl) ig om) (.s 18 (.op (↑(KF (getD (ab L) (257 + ai T1 (Tn.long (getD l i i4))) i4)):Int) ig (.s 1 (.cl 107 false [] (.fn dL (@bu (KR (getD (ab L) (257 + ai T1 (Tn.long (getD l i i4))) i4)) (KF (getD (ab L) (257 + ai T1 (Tn.long (getD l i i4))) i4)) yS (by (exact (okL _).2)))) (.s 16 (.op (↑(KF (getD (ab L) (257 + ai T1 (Tn.long (getD l i i4))) i4)):Int) ig (.s 4 (.opt (ap .u32 (↑(Tn.long (getD l i i4) - Sy.least (getD T1 (ai T1 (Tn.long (getD l i i4))) i4)):Int)) (ac (Tn.long (getD l i i4) - Sy.least (getD T1 (ai T1 (Tn.long (getD l i i4))) i4))) (ar ig) (.s 18 (.chk (true && Kv (length (aI T1 T2 (ab L) (ab F) H l i) * 2) (length (flatMap aK (aI T1 T2 (ab L) (ab F) H l i))) && true && true && true && true && Kx ((length (aI T1 T2 (ab L) (ab F) H l i) + 2) * 16) 140737488355328) HR (.s 14 (.cl 99 false [] (.fn CM (@lj (T2) bk om om (Tn.dist (getD l i i4)) ig ig)) (.s 34 (.chk (true && decide ((↑(ai T2 (Tn.dist (getD l i i4))):Int) < (↑32:Int))) yT (.s 2 (.chk (Kx (0 + ai T2 (Tn.dist (getD l i i4)) * 2 + 2) (length (flatMap b7 (ab F)))) yU (.lst (take 2 (drop (0 + ai T2 (Tn.dist (getD l i i4)) * 2) (flatMap b7 (ab F)))) ([ac (KR (getD (ab F) (ai T2 (Tn.dist (getD l i i4))) i4)),dO (KF (getD (ab F) (ai T2 (Tn.dist (getD l i i4))) i4))]) (av (k:=2) (i:=ai T2 (Tn.dist (getD l i i4))) (fun _=>rfl) ig om) (.s 18 (.op (↑(KF (getD (ab F) (ai T2 (Tn.dist (getD l i i4))) i4)):Int) ig (.s 1 (.cl 107 false [] (.fn dL (@bu (KR (getD (ab F) (ai T2 (Tn.dist (getD l i i4))) i4)) (KF (getD (ab F) (ai T2 (Tn.dist (getD l i i4))) i4)) Dm (by (exact (okF _).2)))) (.s 16 (.op (↑(KF (getD (ab F) (ai T2 (Tn.dist (getD l i i4))) i4)):Int) ig (.s 4 (.opt (ap .u32 (↑(Tn.dist (getD l i i4) - Sy.least (getD T2 (ai T2 (Tn.dist (getD l i i4))) i4)):Int)) (ac (Tn.dist (getD l i i4) - Sy.least (getD T2 (ai T2 (Tn.dist (getD l i i4))) i4))) (ar ig) (.s 18 (.chk (true && Kv ((length (aI T1 T2 (ab L) (ab F) H l i) + 2) * 2) (length (flatMap aK (aI T1 T2 (ab L) (ab F) H l i) ++ [ac (eK (KR (getD (ab L) (257 + ai T1 (Tn.long (getD l i i4))) i4)) (KF (getD (ab L) (257 + ai T1 (Tn.long (getD l i i4))) i4))),zN (KF (getD (ab L) (257 + ai T1 (Tn.long (getD l i i4))) i4)),ac (Tn.long (getD l i i4) - Sy.least (getD T1 (ai T1 (Tn.long (getD l i i4))) i4)),zN (Sy.bits (getD T1 (ai T1 (Tn.long (getD l i i4))) i4))])) && true && true && true && true && Kx ((length (aI T1 T2 (ab L) (ab F) H l i) + 2 + 2) * 16) 140737488355328) HQ (.s 9 (.ow ((i:Int) + 1) (.s 1 (.val 12 (zI ((i:Int) + 1)) (zN (i + 1)) HS (.blk 16 16 (Blk.mk [D.ref (1840+sh d) (1840+sh d) 0 (length (aI T1 T2 (ab L) (ab F) H l i) + 2 + 2) 2] 78 false) (Blk.mk [D.ref (1840+sh d) (1840+sh d) 0 (length (aI T1 T2 (ab L) (ab F) H l (i + 1))) 2] 78 false) (by ( rw [eW om om,Kw]; rfl)) (.blk (1840+sh d) (1840+sh d) (Blk.mk (flatMap aK (aI T1 T2 (ab L) (ab F) H l i) ++ [ac (eK (KR (getD (ab L) (257 + ai T1 (Tn.long (getD l i i4))) i4)) (KF (getD (ab L) (257 + ai T1 (Tn.long (getD l i i4))) i4))),zN (KF (getD (ab L) (257 + ai T1 (Tn.long (getD l i i4))) i4)),ac (Tn.long (getD l i i4) - Sy.least (getD T1 (ai T1 (Tn.long (getD l i i4))) i4)),zN (Sy.bits (getD T1 (ai T1 (Tn.long (getD l i i4))) i4))] ++ [ac (eK (KR (getD (ab F) (ai T2 (Tn.dist (getD l i i4))) i4)) (KF (getD (ab F) (ai T2 (Tn.dist (getD l i i4))) i4))),zN (KF (getD (ab F) (ai T2 (Tn.dist (getD l i i4))) i4)),ac (Tn.dist (getD l i i4) - Sy.least (getD T2 (ai T2 (Tn.dist (getD l i i4))) i4)),zN (Sy.bits (getD T2 (ai T2 (Tn.dist (getD l i i4))) i4))]) 81 true) (Blk.mk (flatMap aK (aI T1 T2 (ab L) (ab F) H l (i + 1))) 81 true) Gr (Hn.next next1 ⟨(i + 1),om,⟨⟩⟩ HT [(16,16),((96+sh d),(96+sh d)),((256+sh d),(256+sh d)),((257+sh d),(257+sh d)),((384+sh d),(384+sh d)),((400+sh d),(400+sh d)),((432+sh d),(432+sh d)),((464+sh d),(464+sh d)),((496+sh d),(496+sh d)),((1840+sh d),(1840+sh d))] Bn)))))))))))))))))))))))))))))))))))))))))))))))))) (fun p2=>have p2f:=aO p2; (.val 12 (zN i) (zN k) D3 (.blk 16 16 (Blk.mk [D.ref (616+sh d) (616+sh d) 0 (length (aI T1 T2 (ab L) (ab F) H l i)) 2] 78 false) (Blk.mk [D.ref (616+sh d) (616+sh d) 0 (length (aI T1 T2 (ab L) (ab F) H l k)) 2] 78 false) D3 (.blk (616+sh d) (616+sh d) (Blk.mk (flatMap aK (aI T1 T2 (ab L) (ab F) H l i)) 81 true) (Blk.mk (flatMap aK (aI T1 T2 (ab L) (ab F) H l k)) 81 true) D3 (Hn.last last1 0 (():Unit) rfl [(16,16),((96+sh d),(96+sh d)),((256+sh d),(256+sh d)),((257+sh d),(257+sh d)),((384+sh d),(384+sh d)),((400+sh d),(400+sh d)),((432+sh d),(432+sh d)),((464+sh d),(464+sh d)),((496+sh d),(496+sh d)),((616+sh d),(616+sh d))] Bn)))))))) (fun | ⟨i,hi,_⟩=>by cases d <;> kernel_rfl) ⟨(1),om,⟨⟩⟩ [(16,16),((96+sh d),(96+sh d)),((256+sh d),(256+sh d)),((257+sh d),(257+sh d)),((384+sh d),(384+sh d)),((400+sh d),(400+sh d)),((432+sh d),(432+sh d)),((464+sh d),(464+sh d)),((496+sh d),(496+sh d)),((1008+sh d),(1008+sh d))] Bn (bX (fun | ()=>(.s 22 (.chk (Kx 514 (length (flatMap b7 (ab L)))) HP (.lst (take 2 (drop 512 (flatMap b7 (ab L)))) ([ac (KR (getD (ab L) 256 i4)),dO (KF (getD (ab L) 256 i4))]) (av (k:=2) (i:=256) (fun _=>rfl) om om) (.s 18 (.op (↑(KF (getD (ab L) 256 i4)):Int) lZ (.s 1 (.cl 107 false [] (.fn dL (@bu (KR (getD (ab L) 256 i4)) (KF (getD (ab L) 256 i4)) yS (by (exact (okL _).2)))) (.s 16 (.op (↑(KF (getD (ab L) 256 i4)):Int) lZ (.s 23 (.chk (true && Kv (length (aI T1 T2 (ab L) (ab F) H l k) * 2) (length (flatMap aK (aI T1 T2 (ab L) (ab F) H l k))) && true && true && true && true && Kx ((length (aI T1 T2 (ab L) (ab F) H l k) + 2) * 16) 140737488355328) Gs (.s 9 (.out [16,(976+sh d)] [16,(976+sh d)] (D.ptr 0 0 0) [Blk.mk [D.ref 1 1 0 (length (aI T1 T2 (ab L) (ab F) H l k) + 2) 2] 78 false,Blk.mk (flatMap aK (aI T1 T2 (ab L) (ab F) H l k) ++ [ac (eK (KR (getD (ab L) 256 i4)) (KF (getD (ab L) 256 i4))),zN (KF (getD (ab L) 256 i4)),uI 0,zI 0]) 81 true] R (ok _ _ wr (by (rw [Kw,bT]; rfl)))))))))))))))))))))))))))))))))))) (fun p1=>have p1f:=am p1; (.s 7 (.cl 98 false [] (.fn CL (@ia (T1) bk om om (Tn.long (getD l 0 i4)) lZ lZ)) (.s 35 (.chk (true && decide ((↑(257 + ai T1 (Tn.long (getD l 0 i4))):Int) < (↑288:Int))) Dl (.s 2 (.chk (Kx (0 + (257 + ai T1 (Tn.long (getD l 0 i4))) * 2 + 2) (length (flatMap b7 (ab L)))) Gt (.lst (take 2 (drop (0 + (257 + ai T1 (Tn.long (getD l 0 i4))) * 2) (flatMap b7 (ab L)))) ([ac (KR (getD (ab L) (257 + ai T1 (Tn.long (getD l 0 i4))) i4)),dO (KF (getD (ab L) (257 + ai T1 (Tn.long (getD l 0 i4))) i4))]) (av (k:=2) (i:=257 + ai T1 (Tn.long (getD l 0 i4))) (fun _=>rfl) lZ om) (.s 18 (.op (↑(KF (getD (ab L) (257 + ai T1 (Tn.long (getD l 0 i4))) i4)):Int) lZ (.s 1 (.cl 107 false [] (.fn dL (@bu (KR (getD (ab L) (257 + ai T1 (Tn.long (getD l 0 i4))) i4)) (KF (getD (ab L) (257 + ai T1 (Tn.long (getD l 0 i4))) i4)) yS (by (exact (okL _).2)))) (.s 16 (.op (↑(KF (getD (ab L) (257 + ai T1 (Tn.long (getD l 0 i4))) i4)):Int) lZ (.s 4 (.opt (ap .u32 (↑(Tn.long (getD l 0 i4) - Sy.least (getD T1 (ai T1 (Tn.long (getD l 0 i4))) i4)):Int)) (ac (Tn.long (getD l 0 i4) - Sy.least (getD T1 (ai T1 (Tn.long (getD l 0 i4))) i4))) (ar lZ) (.s 33 (.cl 99 false [] (.fn CM (@lj (T2) bk om om (Tn.dist (getD l 0 i4)) lZ lZ)) (.s 34 (.chk (true && decide ((↑(ai T2 (Tn.dist (getD l 0 i4))):Int) < (↑32:Int))) Dl (.s 2 (.chk (Kx (0 + ai T2 (Tn.dist (getD l 0 i4)) * 2 + 2) (length (flatMap b7 (ab F)))) Gt (.lst (take 2 (drop (0 + ai T2 (Tn.dist (getD l 0 i4)) * 2) (flatMap b7 (ab F)))) ([ac (KR (getD (ab F) (ai T2 (Tn.dist (getD l 0 i4))) i4)),dO (KF (getD (ab F) (ai T2 (Tn.dist (getD l 0 i4))) i4))]) (av (k:=2) (i:=ai T2 (Tn.dist (getD l 0 i4))) (fun _=>rfl) lZ om) (.s 18 (.op (↑(KF (getD (ab F) (ai T2 (Tn.dist (getD l 0 i4))) i4)):Int) lZ (.s 1 (.cl 107 false [] (.fn dL (@bu (KR (getD (ab F) (ai T2 (Tn.dist (getD l 0 i4))) i4)) (KF (getD (ab F) (ai T2 (Tn.dist (getD l 0 i4))) i4)) Dm (by (exact (okF _).2)))) (.s 16 (.op (↑(KF (getD (ab F) (ai T2 (Tn.dist (getD l 0 i4))) i4)):Int) lZ (.s 4 (.opt (ap .u32 (↑(Tn.dist (getD l 0 i4) - Sy.least (getD T2 (ai T2 (Tn.dist (getD l 0 i4))) i4)):Int)) (ac (Tn.dist (getD l 0 i4) - Sy.least (getD T2 (ai T2 (Tn.dist (getD l 0 i4))) i4))) (ar lZ) (.s 30 (.blk 16 16 (Blk.mk [D.ref (1784+sh d) (1784+sh d) 0 6 2] 78 false) (Blk.mk [D.ref (1784+sh d) (1784+sh d) 0 (length (aI T1 T2 (ab L) (ab F) H l 1)) 2] 78 false) (by ( rw [eW (i:=0) om om,gq,hH]; rfl)) (.blk (1784+sh d) (1784+sh d) (Blk.mk [ac e,zI 1,uI 1,zI 2,ac (eK (KR (getD (ab L) (257 + ai T1 (Tn.long (getD l 0 i4))) i4)) (KF (getD (ab L) (257 + ai T1 (Tn.long (getD l 0 i4))) i4))),zN (KF (getD (ab L) (257 + ai T1 (Tn.long (getD l 0 i4))) i4)),ac (Tn.long (getD l 0 i4) - Sy.least (getD T1 (ai T1 (Tn.long (getD l 0 i4))) i4)),zN (Sy.bits (getD T1 (ai T1 (Tn.long (getD l 0 i4))) i4)),ac (eK (KR (getD (ab F) (ai T2 (Tn.dist (getD l 0 i4))) i4)) (KF (getD (ab F) (ai T2 (Tn.dist (getD l 0 i4))) i4))),zN (KF (getD (ab F) (ai T2 (Tn.dist (getD l 0 i4))) i4)),ac (Tn.dist (getD l 0 i4) - Sy.least (getD T2 (ai T2 (Tn.dist (getD l 0 i4))) i4)),zN (Sy.bits (getD T2 (ai T2 (Tn.dist (getD l 0 i4))) i4))] 81 true) (Blk.mk (flatMap aK (aI T1 T2 (ab L) (ab F) H l 1)) 81 true) (by ( rw [eW (i:=0) om om,gq,hH]; rfl)) (Hn.inl T_ok ag false 53 (544+sh d) (aq Try.prog 74 0) (fun (x:(i:Nat) ×' (hi:1 ≤ i ∧ i ≤ k) ×' Unit)=>match x with | ⟨i,hi,_⟩=>CutS.mk [(1,D.fn (K9 83) [] [D.ptr (384+sh d) (384+sh d) 0,D.ptr (496+sh d) (496+sh d) 0,D.ptr (432+sh d) (432+sh d) 0]),(10,D.sl false k 3 (flatMap bp l)),(11,zN k),(12,nD i)] [⟨16,16,16,16,.b ⟨[(D.ref (616+sh d) (616+sh d) (0) ((aI T1 T2 (ab L) (ab F) H l i).length) 2)],78,false⟩⟩,⟨(96+sh d),(96+sh d),(96+sh d),(96+sh d),.b ⟨[ac e,zI 1,uI 1,zI 2],81,false⟩⟩,⟨(256+sh d),(256+sh d),(256+sh d),(256+sh d),.b ⟨map dB L,5,true⟩⟩,⟨(257+sh d),(257+sh d),(257+sh d),(257+sh d),.b ⟨map dB F,5,true⟩⟩,⟨(384+sh d),(384+sh d),(384+sh d),(384+sh d),.b ⟨[D.ptr 16 16 0],73,false⟩⟩,⟨(400+sh d),(400+sh d),(400+sh d),(400+sh d),.b ⟨flatMap b7 (ab L),198,true⟩⟩,⟨(432+sh d),(432+sh d),(432+sh d),(432+sh d),.b ⟨[D.ref (400+sh d) (400+sh d) 0 288 2],152,false⟩⟩,⟨(464+sh d),(464+sh d),(464+sh d),(464+sh d),.b ⟨flatMap b7 (ab F),198,true⟩⟩,⟨(496+sh d),(496+sh d),(496+sh d),(496+sh d),.b ⟨[D.ref (464+sh d) (464+sh d) 0 32 2],152,false⟩⟩,⟨(616+sh d),(616+sh d),(1784+sh d),(1784+sh d),.b ⟨(aI T1 T2 (ab L) (ab F) H l i).flatMap aK,81,true⟩⟩] (624+sh d)) (fun (x:(i:Nat) ×' (hi:1 ≤ i ∧ i ≤ k) ×' Unit)=>match x with | ⟨i,hi,_⟩=>k - i) [⟨Unit,.exit 0,fun x=>match x with | ()=>CutS.mk [(1,D.fn (K9 83) [] [D.ptr (384+sh d) (384+sh d) 0,D.ptr (496+sh d) (496+sh d) 0,D.ptr (432+sh d) (432+sh d) 0]),(10,D.sl false k 3 (flatMap bp l)),(11,zN k),(12,nD k)] [⟨16,16,16,16,.b ⟨[(D.ref (616+sh d) (616+sh d) (0) ((aI T1 T2 (ab L) (ab F) H l k).length) 2)],78,false⟩⟩,⟨(96+sh d),(96+sh d),(96+sh d),(96+sh d),.b ⟨[ac e,zI 1,uI 1,zI 2],81,false⟩⟩,⟨(256+sh d),(256+sh d),(256+sh d),(256+sh d),.b ⟨map dB L,5,true⟩⟩,⟨(257+sh d),(257+sh d),(257+sh d),(257+sh d),.b ⟨map dB F,5,true⟩⟩,⟨(384+sh d),(384+sh d),(384+sh d),(384+sh d),.b ⟨[D.ptr 16 16 0],73,false⟩⟩,⟨(400+sh d),(400+sh d),(400+sh d),(400+sh d),.b ⟨flatMap b7 (ab L),198,true⟩⟩,⟨(432+sh d),(432+sh d),(432+sh d),(432+sh d),.b ⟨[D.ref (400+sh d) (400+sh d) 0 288 2],152,false⟩⟩,⟨(464+sh d),(464+sh d),(464+sh d),(464+sh d),.b ⟨flatMap b7 (ab F),198,true⟩⟩,⟨(496+sh d),(496+sh d),(496+sh d),(496+sh d),.b ⟨[D.ref (464+sh d) (464+sh d) 0 32 2],152,false⟩⟩,⟨(616+sh d),(616+sh d),(1784+sh d),(1784+sh d),.b ⟨(aI T1 T2 (ab L) (ab F) H l k).flatMap aK,81,true⟩⟩] (624+sh d)⟩] 1000 64 (fun | ⟨i,hi,_⟩,Q,next1,last1=>(.s 2 (.br (decide ((i:Int) < (k:Int))) (fun p4=>have p4f:=aN p4; (.s 1 (.chk (true && decide ((i:Int) < (k:Int)) && true) HQ (.s 2 (.chk (Kx (i * 3 + 3) (length (flatMap bp l))) Dj (.lst (take 3 (drop (i * 3) (flatMap bp l))) ([dO (Ku (Tn.lit (getD l i i4))),zN (Tn.dist (getD l i i4)),zN (Tn.long (getD l i i4))]) (av (k:=3) (i:=i) (fun _=>rfl) om om) (.s 13 (.br ((↑(Tn.long (getD l i i4)):Int) == 0) (fun p5=>have p5f:=eq_of_beq p5; (.s 8 (.op (↑(Ku (Tn.lit (getD l i i4))):Int) Dk (.s 18 (.chk (true && decide ((↑(Ku (Tn.lit (getD l i i4))):Int) < (↑288:Int))) Gp (.s 2 (.chk (Kx (0 + Ku (Tn.lit (getD l i i4)) * 2 + 2) (length (flatMap b7 (ab L)))) Gq (.lst (take 2 (drop (0 + Ku (Tn.lit (getD l i i4)) * 2) (flatMap b7 (ab L)))) ([ac (KR (getD (ab L) (Ku (Tn.lit (getD l i i4))) i4)),dO (KF (getD (ab L) (Ku (Tn.lit (getD l i i4))) i4))]) (av (k:=2) (i:=Ku (Tn.lit (getD l i i4))) (fun _=>rfl) ig om) (.s 18 (.op (↑(KF (getD (ab L) (Ku (Tn.lit (getD l i i4))) i4)):Int) ig (.s 1 (.cl 107 false [] (.fn dL (@bu (KR (getD (ab L) (Ku (Tn.lit (getD l i i4))) i4)) (KF (getD (ab L) (Ku (Tn.lit (getD l i i4))) i4)) yS (by (exact (okL _).2)))) (.s 16 (.op (↑(KF (getD (ab L) (Ku (Tn.lit (getD l i i4))) i4)):Int) ig (.s 23 (.chk (true && Kv (length (aI T1 T2 (ab L) (ab F) H l i) * 2) (length (flatMap aK (aI T1 T2 (ab L) (ab F) H l i))) && true && true && true && true && Kx ((length (aI T1 T2 (ab L) (ab F) H l i) + 2) * 16) 140737488355328) HR (.s 9 (.ow ((i:Int) + 1) (.s 1 (.val 12 (zI ((i:Int) + 1)) (zN (i + 1)) HS (.blk 16 16 (Blk.mk [D.ref (1064+sh d) (1064+sh d) 0 (length (aI T1 T2 (ab L) (ab F) H l i) + 2) 2] 78 false) (Blk.mk [D.ref (1064+sh d) (1064+sh d) 0 (length (aI T1 T2 (ab L) (ab F) H l (i + 1))) 2] 78 false) (by ( rw [dM om om,Kw]; rfl)) (.blk (1064+sh d) (1064+sh d) (Blk.mk (flatMap aK (aI T1 T2 (ab L) (ab F) H l i) ++ [ac (eK (KR (getD (ab L) (Ku (Tn.lit (getD l i i4))) i4)) (KF (getD (ab L) (Ku (Tn.lit (getD l i i4))) i4))),zN (KF (getD (ab L) (Ku (Tn.lit (getD l i i4))) i4)),uI 0,zI 0]) 81 true) (Blk.mk (flatMap aK (aI T1 T2 (ab L) (ab F) H l (i + 1))) 81 true) (by ( refine au ?_; rw [dM om om,bT]; rfl)) (Hn.next next1 ⟨(i + 1),om,⟨⟩⟩ HT [(16,16),((96+sh d),(96+sh d)),((256+sh d),(256+sh d)),((257+sh d),(257+sh d)),((384+sh d),(384+sh d)),((400+sh d),(400+sh d)),((432+sh d),(432+sh d)),((464+sh d),(464+sh d)),((496+sh d),(496+sh d)),((1064+sh d),(1064+sh d))] Bn))))))))))))))))))))))) (fun p5=>have p5f:=am p5; (.s 7 (.cl 98 false [] (.fn CL (@ia (T1) bk om om (Tn.long (getD l i i4)) ig ig)) (.s 35 (.chk (true && decide ((↑(257 + ai T1 (Tn.long (getD l i i4))):Int) < (↑288:Int))) yT (.s 2 (.chk (Kx (0 + (257 + ai T1 (Tn.long (getD l i i4))) * 2 + 2) (length (flatMap b7 (ab L)))) yU (.lst (take 2 (drop (0 + (257 + ai T1 (Tn.long (getD l i i4))) * 2) (flatMap b7 (ab L)))) ([ac (KR (getD (ab L) (257 + ai T1 (Tn.long (getD l i i4))) i4)),dO (KF (getD (ab L) (257 + ai T1 (Tn.long (getD l i i4))) i4))]) (av (k:=2) (i:=257 + ai T1 (Tn.long (getD l i i4))) (fun _=>rfl) ig om) (.s 18 (.op (↑(KF (getD (ab L) (257 + ai T1 (Tn.long (getD l i i4))) i4)):Int) ig (.s 1 (.cl 107 false [] (.fn dL (@bu (KR (getD (ab L) (257 + ai T1 (Tn.long (getD l i i4))) i4)) (KF (getD (ab L) (257 + ai T1 (Tn.long (getD l i i4))) i4)) yS (by (exact (okL _).2)))) (.s 16 (.op (↑(KF (getD (ab L) (257 + ai T1 (Tn.long (getD l i i4))) i4)):Int) ig (.s 4 (.opt (ap .u32 (↑(Tn.long (getD l i i4) - Sy.least (getD T1 (ai T1 (Tn.long (getD l i i4))) i4)):Int)) (ac (Tn.long (getD l i i4) - Sy.least (getD T1 (ai T1 (Tn.long (getD l i i4))) i4))) (ar ig) (.s 18 (.chk (true && Kv (length (aI T1 T2 (ab L) (ab F) H l i) * 2) (length (flatMap aK (aI T1 T2 (ab L) (ab F) H l i))) && true && true && true && true && Kx ((length (aI T1 T2 (ab L) (ab F) H l i) + 2) * 16) 140737488355328) HR (.s 14 (.cl 99 false [] (.fn CM (@lj (T2) bk om om (Tn.dist (getD l i i4)) ig ig)) (.s 34 (.chk (true && decide ((↑(ai T2 (Tn.dist (getD l i i4))):Int) < (↑32:Int))) yT (.s 2 (.chk (Kx (0 + ai T2 (Tn.dist (getD l i i4)) * 2 + 2) (length (flatMap b7 (ab F)))) yU (.lst (take 2 (drop (0 + ai T2 (Tn.dist (getD l i i4)) * 2) (flatMap b7 (ab F)))) ([ac (KR (getD (ab F) (ai T2 (Tn.dist (getD l i i4))) i4)),dO (KF (getD (ab F) (ai T2 (Tn.dist (getD l i i4))) i4))]) (av (k:=2) (i:=ai T2 (Tn.dist (getD l i i4))) (fun _=>rfl) ig om) (.s 18 (.op (↑(KF (getD (ab F) (ai T2 (Tn.dist (getD l i i4))) i4)):Int) ig (.s 1 (.cl 107 false [] (.fn dL (@bu (KR (getD (ab F) (ai T2 (Tn.dist (getD l i i4))) i4)) (KF (getD (ab F) (ai T2 (Tn.dist (getD l i i4))) i4)) Dm (by (exact (okF _).2)))) (.s 16 (.op (↑(KF (getD (ab F) (ai T2 (Tn.dist (getD l i i4))) i4)):Int) ig (.s 4 (.opt (ap .u32 (↑(Tn.dist (getD l i i4) - Sy.least (getD T2 (ai T2 (Tn.dist (getD l i i4))) i4)):Int)) (ac (Tn.dist (getD l i i4) - Sy.least (getD T2 (ai T2 (Tn.dist (getD l i i4))) i4))) (ar ig) (.s 18 (.chk (true && Kv ((length (aI T1 T2 (ab L) (ab F) H l i) + 2) * 2) (length (flatMap aK (aI T1 T2 (ab L) (ab F) H l i) ++ [ac (eK (KR (getD (ab L) (257 + ai T1 (Tn.long (getD l i i4))) i4)) (KF (getD (ab L) (257 + ai T1 (Tn.long (getD l i i4))) i4))),zN (KF (getD (ab L) (257 + ai T1 (Tn.long (getD l i i4))) i4)),ac (Tn.long (getD l i i4) - Sy.least (getD T1 (ai T1 (Tn.long (getD l i i4))) i4)),zN (Sy.bits (getD T1 (ai T1 (Tn.long (getD l i i4))) i4))])) && true && true && true && true && Kx ((length (aI T1 T2 (ab L) (ab F) H l i) + 2 + 2) * 16) 140737488355328) HQ (.s 9 (.ow ((i:Int) + 1) (.s 1 (.val 12 (zI ((i:Int) + 1)) (zN (i + 1)) HS (.blk 16 16 (Blk.mk [D.ref (1840+sh d) (1840+sh d) 0 (length (aI T1 T2 (ab L) (ab F) H l i) + 2 + 2) 2] 78 false) (Blk.mk [D.ref (1840+sh d) (1840+sh d) 0 (length (aI T1 T2 (ab L) (ab F) H l (i + 1))) 2] 78 false) (by ( rw [eW om om,Kw]; rfl)) (.blk (1840+sh d) (1840+sh d) (Blk.mk (flatMap aK (aI T1 T2 (ab L) (ab F) H l i) ++ [ac (eK (KR (getD (ab L) (257 + ai T1 (Tn.long (getD l i i4))) i4)) (KF (getD (ab L) (257 + ai T1 (Tn.long (getD l i i4))) i4))),zN (KF (getD (ab L) (257 + ai T1 (Tn.long (getD l i i4))) i4)),ac (Tn.long (getD l i i4) - Sy.least (getD T1 (ai T1 (Tn.long (getD l i i4))) i4)),zN (Sy.bits (getD T1 (ai T1 (Tn.long (getD l i i4))) i4))] ++ [ac (eK (KR (getD (ab F) (ai T2 (Tn.dist (getD l i i4))) i4)) (KF (getD (ab F) (ai T2 (Tn.dist (getD l i i4))) i4))),zN (KF (getD (ab F) (ai T2 (Tn.dist (getD l i i4))) i4)),ac (Tn.dist (getD l i i4) - Sy.least (getD T2 (ai T2 (Tn.dist (getD l i i4))) i4)),zN (Sy.bits (getD T2 (ai T2 (Tn.dist (getD l i i4))) i4))]) 81 true) (Blk.mk (flatMap aK (aI T1 T2 (ab L) (ab F) H l (i + 1))) 81 true) Gr (Hn.next next1 ⟨(i + 1),om,⟨⟩⟩ HT [(16,16),((96+sh d),(96+sh d)),((256+sh d),(256+sh d)),((257+sh d),(257+sh d)),((384+sh d),(384+sh d)),((400+sh d),(400+sh d)),((432+sh d),(432+sh d)),((464+sh d),(464+sh d)),((496+sh d),(496+sh d)),((1840+sh d),(1840+sh d))] Bn)))))))))))))))))))))))))))))))))))))))))))))))))) (fun p4=>have p4f:=aO p4; (.val 12 (zN i) (zN k) D3 (.blk 16 16 (Blk.mk [D.ref (616+sh d) (616+sh d) 0 (length (aI T1 T2 (ab L) (ab F) H l i)) 2] 78 false) (Blk.mk [D.ref (616+sh d) (616+sh d) 0 (length (aI T1 T2 (ab L) (ab F) H l k)) 2] 78 false) D3 (.blk (616+sh d) (616+sh d) (Blk.mk (flatMap aK (aI T1 T2 (ab L) (ab F) H l i)) 81 true) (Blk.mk (flatMap aK (aI T1 T2 (ab L) (ab F) H l k)) 81 true) D3 (Hn.last last1 0 (():Unit) rfl [(16,16),((96+sh d),(96+sh d)),((256+sh d),(256+sh d)),((257+sh d),(257+sh d)),((384+sh d),(384+sh d)),((400+sh d),(400+sh d)),((432+sh d),(432+sh d)),((464+sh d),(464+sh d)),((496+sh d),(496+sh d)),((616+sh d),(616+sh d))] Bn)))))))) (fun | ⟨i,hi,_⟩=>by cases d <;> kernel_rfl) ⟨(1),om,⟨⟩⟩ [(16,16),((96+sh d),(96+sh d)),((256+sh d),(256+sh d)),((257+sh d),(257+sh d)),((384+sh d),(384+sh d)),((400+sh d),(400+sh d)),((432+sh d),(432+sh d)),((464+sh d),(464+sh d)),((496+sh d),(496+sh d)),((1784+sh d),(1784+sh d))] Bn (bX (fun | ()=>(.s 22 (.chk (Kx 514 (length (flatMap b7 (ab L)))) HP (.lst (take 2 (drop 512 (flatMap b7 (ab L)))) ([ac (KR (getD (ab L) 256 i4)),dO (KF (getD (ab L) 256 i4))]) (av (k:=2) (i:=256) (fun _=>rfl) om om) (.s 18 (.op (↑(KF (getD (ab L) 256 i4)):Int) lZ (.s 1 (.cl 107 false [] (.fn dL (@bu (KR (getD (ab L) 256 i4)) (KF (getD (ab L) 256 i4)) yS (by (exact (okL _).2)))) (.s 16 (.op (↑(KF (getD (ab L) 256 i4)):Int) lZ (.s 23 (.chk (true && Kv (length (aI T1 T2 (ab L) (ab F) H l k) * 2) (length (flatMap aK (aI T1 T2 (ab L) (ab F) H l k))) && true && true && true && true && Kx ((length (aI T1 T2 (ab L) (ab F) H l k) + 2) * 16) 140737488355328) Gs (.s 9 (.out [16,(976+sh d)] [16,(976+sh d)] (D.ptr 0 0 0) [Blk.mk [D.ref 1 1 0 (length (aI T1 T2 (ab L) (ab F) H l k) + 2) 2] 78 false,Blk.mk (flatMap aK (aI T1 T2 (ab L) (ab F) H l k) ++ [ac (eK (KR (getD (ab L) 256 i4)) (KF (getD (ab L) 256 i4))),zN (KF (getD (ab L) 256 i4)),uI 0,zI 0]) 81 true] R (ok _ _ wr (by (rw [Kw,bT]; rfl))))))))))))))))))))))))))))))))))))))))))))))))))))))))))))) (fun p0=>have p0f:=aO p0; (.s 22 (.chk (Kx 514 (length (flatMap b7 (ab L)))) HP (.lst (take 2 (drop 512 (flatMap b7 (ab L)))) ([ac (KR (getD (ab L) 256 i4)),dO (KF (getD (ab L) 256 i4))]) (av (k:=2) (i:=256) (fun _=>rfl) om om) (.s 18 (.op (↑(KF (getD (ab L) 256 i4)):Int) lZ (.s 1 (.cl 107 false [] (.fn dL (@bu (KR (getD (ab L) 256 i4)) (KF (getD (ab L) 256 i4)) yS (by (exact (okL _).2)))) (.s 16 (.op (↑(KF (getD (ab L) 256 i4)):Int) lZ (.s 33 (.out [16,(928+sh d)] [16,(928+sh d)] (D.ptr 0 0 0) [Blk.mk [D.ref 1 1 0 4 2] 78 false,Blk.mk [ac e,zI 1,uI 1,zI 2,ac (eK (KR (getD (ab L) 256 i4)) (KF (getD (ab L) 256 i4))),zN (KF (getD (ab L) 256 i4)),uI 0,zI 0] 81 true] R (ok _ _ wr (by ( rw [show k = 0 from by omega,gq,hH]; rfl))))))))))))))))) .nil))))))):Hn Try.prog)) (fun t h=>SpecH.run T_ok ag Try.func29 rfl rfl rfl ⟨rfl,ee (fun _=>rfl) _,trivial⟩ rfl 1000 64 (fun R ok=>.s 43 (t true 1 H hH hHl R ok)) h) (fun t h=>SpecH.run T_ok ag Try.func29 rfl rfl rfl ⟨rfl,ee (fun _=>rfl) _,trivial⟩ rfl 1000 64 (fun R ok=>.s 42 (t false 0 H' hH' hHl' R ok)) h) (by kernel_rfl) (by kernel_rfl)
theorem Gu (l:List Tn) (k:Nat) (hk:k = l.length) (hk2:k ≤ 65535) (hl:∀ i,di (l.getD i i4)) (T1 T2:List Sy) (hT1:T1 = aB) (hT2:T2 = aP) (hl1:T1.length = 29) (hl2:T2.length = 30) (hz1:bP T1) (hz2:bP T2) (L F:List UInt8) (hL:L = cD) (hF:F = fm) (hLl:L.length = 288) (hFl:F.length = 32) (hcL:cz L 15 = 0) (hcF:cz F 15 = 0) (hmL:(ab L).length = 288) (hmF:(ab F).length = 32) (okL:lK (ab L)) (okF:lK (ab F)) (H:List Nm) (hH:H = lJ 1 1) (hHl:H.length = 2) (a:Nat) (ha:a ≤ 7) (raw:List UInt8) (r:Nat) (hr:r = raw.length) (hr2:r ≤ 65535):SpecH false Try.prog 29 [nD a,ie 1,.sl false r 1 (raw.map dB),.sl false k 3 (l.flatMap bp),.v (.bool true)] [] (.ptr 0 0 0) [⟨[.ref 1 1 0 (aI T1 T2 (ab L) (ab F) H l k ++ gn (ab L) 256 0 0).length 2], 78, false⟩,⟨(aI T1 T2 (ab L) (ab F) H l k ++ gn (ab L) 256 0 0).flatMap aK, 81, true⟩]:=(Bo l k hk hk2 hl T1 T2 hT1 hT2 hl1 hl2 hz1 hz2 L F hL hF hLl hFl hcL hcF hmL hmF okL okF a ha raw r hr hr2 H hH hHl _ rfl rfl).1
theorem Gw (l:List Tn) (k:Nat) (hk:k = l.length) (hk2:k ≤ 65535) (hl:∀ i,di (l.getD i i4)) (T1 T2:List Sy) (hT1:T1 = aB) (hT2:T2 = aP) (hl1:T1.length = 29) (hl2:T2.length = 30) (hz1:bP T1) (hz2:bP T2) (L F:List UInt8) (hL:L = cD) (hF:F = fm) (hLl:L.length = 288) (hFl:F.length = 32) (hcL:cz L 15 = 0) (hcF:cz F 15 = 0) (hmL:(ab L).length = 288) (hmF:(ab F).length = 32) (okL:lK (ab L)) (okF:lK (ab F)) (H:List Nm) (hH:H = lJ 0 1) (hHl:H.length = 2) (a:Nat) (ha:a ≤ 7) (raw:List UInt8) (r:Nat) (hr:r = raw.length) (hr2:r ≤ 65535):SpecH false Try.prog 29 [nD a,ie 1,.sl false r 1 (raw.map dB),.sl false k 3 (l.flatMap bp),.v (.bool false)] [] (.ptr 0 0 0) [⟨[.ref 1 1 0 (aI T1 T2 (ab L) (ab F) H l k ++ gn (ab L) 256 0 0).length 2], 78, false⟩,⟨(aI T1 T2 (ab L) (ab F) H l k ++ gn (ab L) 256 0 0).flatMap aK, 81, true⟩]:=(Bo l k hk hk2 hl T1 T2 hT1 hT2 hl1 hl2 hz1 hz2 L F hL hF hLl hFl hcL hcF hmL hmF okL okF a ha raw r hr hr2 _ rfl rfl H hH hHl).2
end Vp
end Go.Proofs.Ytefjnofhgkjpmaa
namespace Go.Proofs.Ytefjnofhgkjpmaa
open Go.RowKit Go.Bw Go.Vx
namespace Vp
theorem SpecH.frz {al:Bool} {P:Program} {f:FuncId} {ds:List D} {n sz:Nat} {cells:List D} {t:TypeId} {rw' : Bool} (h:SpecH al P f ds [] (.ref 0 0 0 n sz) [⟨cells,t,rw'⟩]) (hn:cells.length = n * sz) (hs:0 < sz) (hc:aa cells = true):SpecH al P f ds [] (.sl false n sz cells) []:=by
 refine ⟨KG _,fun O φ w args hO hh hi hl ha=>(h.2 O φ w args hO hh hi hl ha).mono ?_⟩
 rintro e w' ⟨u,rfl,hf,ψ,g1,g2,g3,g4,g5⟩
 refine ⟨u,rfl,hf,φ,fun j hj=>rfl,?_,fun j b hb=>by simp at hb,fun i j x h1=>absurd h1 (LJ i),fun j x h1 h2=>absurd h2 (LJ j)⟩
 have hB:=(g3 0 _ rfl).1
 have own:∀ b,(dS (iW al O w) φ 0).own b → b < w.heap.size:=fun b q=>by
  rcases q with q | ⟨j,hj,_⟩
  ·unfold iW at q; split at q
   ·exact hO b q
   ·exact q
  ·exact absurd hj (LJ j)
 have hst:Stp (dS (iW al O w) ψ 1).cl (dS (iW al O w) φ 0).cl w' w' := ⟨fun g hg=>hg.elim,fun g hg=>hg.elim,KG _,fun b _ hb=>⟨fun q=>hb (by
  rcases q with q | ⟨j,hj,_⟩
  ·exact .inl q
  ·exact absurd hj (LJ j)),rfl⟩,fun _ _=>rfl⟩
 obtain ⟨hnm,hB⟩:=hB
 cases g2 with
 | refn _ _ _ hg hb =>
  have h0:cells = []:=KT (by rw [hn,LQ])
  subst h0
  exact .sl false 0 sz [] none 0 [] rfl (fun i d u h=>by simp at h) (fun u h=>by cases h) (by simp) hs ⟨KG _,Li _⟩ (fun _=>⟨rfl,rfl⟩) (.inl rfl)
 | ref _ _ _ _ _ c b off' t' m hg hb hcc ho hsh hm =>
  rw [hb] at hB
  obtain ⟨_,hlt,cur,fr,hheap,hfr,hle,_,hcell⟩:=hB
  have hcell:∀ (i:Nat) d,cells[i]? = some d → ∃ u,cur[i]? = some u ∧ u.oneCell' = true ∧ RD (dS (iW al O w) ψ 1) w' d u:=hcell
  have hle:cells.length ≤ cur.size:=hle
  have hul:(cur.toList.take cells.length).length = cells.length:=Lj (by rw [Np]; exact hle)
  have hget:∀ (i:Nat) u,(cur.toList.take cells.length)[i]? = some u → i < cells.length ∧ cur[i]? = some u:=fun i u hu=>by
   rw [List.getElem?_take] at hu
   split at hu
   ·next q=>exact ⟨q,by simpa using hu⟩
   ·cases hu
  refine .sl false n sz cells (some ⟨b,off', none⟩) c (cur.toList.take cells.length) hul (fun i d u h1 h2=>?_) (fun u hu=>?_) hn hs hcc (fun q=>by cases q) ?_
  ·obtain ⟨_,h2⟩:=hget i u h2
   obtain ⟨u', q1,_,q3⟩:=hcell i d h1
   rw [h2] at q1; cases q1
   exact (q3.weak (aW hc h1)).step hst
  ·obtain ⟨i,hi⟩:=List.getElem?_of_mem hu
   obtain ⟨q0,q1⟩:=hget i u hi
   obtain ⟨u', y1,y2,_⟩:=hcell i _ (List.getElem?_eq_getElem q0)
   rw [q1] at y1; cases y1; exact y2
  ·rcases ho with ho | ⟨ho,_⟩
   ·refine .inr ⟨b,off', rfl,hlt,fun q=>?_,fun i u hu=>?_⟩
    ·have:=g5 0 b (Li _) My hb
     have:=own b q; omega
    ·rw [ho,KV,cell_of_row w' b i cur t fr hheap]; exact (hget i u hu).2
   ·exact .inl ho
end Vp
end Go.Proofs.Ytefjnofhgkjpmaa

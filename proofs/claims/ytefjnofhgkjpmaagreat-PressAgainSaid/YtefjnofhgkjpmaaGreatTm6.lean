/- Part 6. -/
import Derived.Test.YtefjnofhgkjpmaaGreatTm5
set_option linter.unusedVariables false
set_option linter.unusedSimpArgs false
set_option maxRecDepth 100000
set_option maxHeartbeats 4000000
open And renaming intro → Mb
open Array renaming length_toList → OR
open BitVec renaming ofInt → L9, toNat → My
open Bool renaming and_eq_true → LY, and_true → Mp, true_and → Ml
open Go.Fn renaming func → MB
open Go.IntKind renaming i64 → Mi, u64 → Nn, wrap → Mf
open Go.Value renaming int → MO
open Inhabited renaming default → jk
open Int renaming fdiv → ME, tmod → Np, toNat → uV
open List renaming append_assoc → Mo, append_nil → MN, drop_append → PQ, drop_replicate → OS, drop_zero → Nd, eq_nil_of_length_eq_zero → Mm, eq_replicate_iff → OD, flatMap_append → NA, flatMap_singleton → N6, length_append → LZ, length_cons → Mr, length_map → Ma, length_nil → NI, length_range → M4, length_replicate → Mu, length_take → L5, length_take_of_le → MM, map → Nz, map_append → MJ, map_replicate → Ns, map_take → OL, range → MH, replicate → Md, take → Mz, take_append_of_le_length → NF, take_length → M3, take_replicate → Pw, take_succ_eq_append_getElem → Mw
open Nat renaming add_assoc → M8, add_sub_cancel → NC, beq → LV, beq_eq → MU, beq_refl → M0, ble → LX, ble_eq → MS, ble_eq_true_of_le → L2, blt → ND, eq_of_beq_eq_true → L4, le_refl → Mc, le_trans → L0, lt_irrefl → OJ, lt_or_ge → Mv, lt_succ_self → O8, min → MX, min_eq_left → Pf, mod_one → PS, mul_comm → Nr, mul_one → Ms, not_lt_zero → M7, pow_add → Pr, pow_le_pow_right → MQ, zero_add → Mq, zero_le → MK, zero_lt_one → NY, zero_mul → Nh
open Prod renaming fst → Mk, snd → L7
open UInt8 renaming toNat → LW, toNat_lt → MP
namespace Go.Proofs.YtefjnofhgkjpmaaGreat
open Go.RowKit Go.Bw Go.Vx
open List (length getD map take drop flatMap replicate)
namespace Vp
theorem Ek {p:Prop} (h:p:=by ( have h8:=zG (l:=l) (k:=k) hc15 om (0 + (l.getD (k * 1) jk).toNat * 1) om om; omega)):p:=h
theorem G8 {p:Prop} (h:p:=by (refine decide_eq_true ?_;  have h8:=zG (l:=l) (k:=k) hc15 om (0 + (l.getD (k * 1) jk).toNat * 1) om om; omega)):p:=h
theorem I0 {p:Prop} (h:p:=by (refine aO ?_; (omega))):p:=h
theorem I1 {p:Prop} (h:p:=by show n - (k + 1) < n - k; clear next1 last1; omega):p:=h
theorem Lz {p:Prop} (h:p:=by ((refine aH ?_ ?_) <;> (repeat' (first | (refine aH ?_ ?_) | (with_reducible rfl) | (refine decide_eq_true ?_) | (refine L2 ?_) | (refine eu ?_))) <;> (omega))):p:=h
theorem LC {p:Prop} (h:p:=by ((refine aH ?_ ?_) <;> (repeat' (first | (refine aH ?_ ?_) | (with_reducible rfl) | (refine decide_eq_true ?_) | (refine L2 ?_) | (refine eu ?_))) <;> ( have h8:=zG (l:=l) (k:=k) hc15 om (0 + (l.getD (k * 1) jk).toNat * 1) om om; omega))):p:=h
theorem LD {p:Prop} (h:p:=by ( have h7:=Cq (l:=l) (a:=a) hc15 om (0 + a * 1) om; omega)):p:=h
theorem LF {p:Prop} (h:p:=by ( have h7:=Cq (l:=l) (a:=a) hc15 om (0 + a * 1) om; refine aO ?_; omega)):p:=h
def g6 (f:Nat → Nat):List D:=[cT (f 0),cT (f 1),cT (f 2),cT (f 3),cT (f 4),cT (f 5),cT (f 6),cT (f 7),cT (f 8),cT (f 9),cT (f 10),cT (f 11),cT (f 12),cT (f 13),cT (f 14),cT (f 15),cT (f 16)]
theorem tI (f:Nat → Nat) (n:Nat) (h:n < 17):(g6 f)[n]? = some (cT (f n)):=by
 match n,h with
 | 0,_=>rfl | 1,_=>rfl | 2,_=>rfl | 3,_=>rfl | 4,_=>rfl | 5,_=>rfl | 6,_=>rfl | 7,_=>rfl | 8,_=>rfl | 9,_=>rfl | 10,_=>rfl | 11,_=>rfl | 12,_=>rfl | 13,_=>rfl | 14,_=>rfl | 15,_=>rfl | 16,_=>rfl
 | n + 17,h=>exact absurd h (by omega)
theorem xb (f:Nat → Nat) (n:Nat) (h:n < 17) (x:Nat):aj (g6 f) n [cT x] = g6 (fun m=>if m = n then x else f m):=by
 match n,h with
 | 0,_=>rfl | 1,_=>rfl | 2,_=>rfl | 3,_=>rfl | 4,_=>rfl | 5,_=>rfl | 6,_=>rfl | 7,_=>rfl | 8,_=>rfl | 9,_=>rfl | 10,_=>rfl | 11,_=>rfl | 12,_=>rfl | 13,_=>rfl | 14,_=>rfl | 15,_=>rfl | 16,_=>rfl
 | n + 17,h=>exact absurd h (by omega)
theorem cH {f g:Nat → Nat} (h:∀ n,n < 17 → f n = g n):g6 f = g6 g:=by
 unfold g6
 rw [h 0 (by decide),h 1 (by decide),h 2 (by decide),h 3 (by decide),h 4 (by decide),h 5 (by decide),h 6 (by decide),h 7 (by decide),h 8 (by decide),h 9 (by decide),h 10 (by decide),h 11 (by decide),h 12 (by decide),h 13 (by decide),h 14 (by decide),h 15 (by decide),h 16 (by decide)]
def bk (l:List UInt8) (k m:Nat):Nat:=lk l (if m = 0 then 0 else (ek l m k).length)
theorem gz (l:List UInt8) (k m:Nat):bk l k m = if m = 0 then 0 else (ek l m k).length:=aF _ _
theorem Cl (l:List UInt8) (m:Nat):bk l 0 m = 0:=by rw [gz]; split <;> rfl
theorem Cm (l:List UInt8) (m:Nat):bk l l.length m = aK l m:=by rw [gz,lw]; rfl
theorem xc (l:List UInt8) (k m:Nat):bk l k m ≤ k:=by
 rw [gz]; split
 ·exact MK _
 ·exact zy _ _ _
theorem qq {l:List UInt8} {k:Nat} (m:Nat):bk l (k + 1) m = bk l k m + (if m ≠ 0 ∧ (l.getD k jk).toNat = m then 1 else 0):=by
 rw [gz,gz]
 by_cases h0:m = 0
 ·rw [if_pos h0,if_pos h0,if_neg (fun q=>q.1 h0)]
 ·rw [if_neg h0,if_neg h0,gW]
  by_cases h:(l.getD k jk).toNat = m
  ·rw [if_pos h,if_pos ⟨h0,h⟩,LZ]; rfl
  ·rw [if_neg h,if_neg (fun q=>h q.2),MN]; rfl
def bU (l:List UInt8) (a m:Nat):Nat:=lk l (if m < a then jV l m else aK l m)
theorem lI (l:List UInt8) (a m:Nat):bU l a m = if m < a then jV l m else aK l m:=aF _ _
def bx (l:List UInt8) (k m:Nat):Nat:=lk l (jV l m + bk l k m)
theorem e9 (l:List UInt8) (k m:Nat):bx l k m = jV l m + bk l k m:=aF _ _
def qr (l:List UInt8) (a:Nat):Nat:=lk l (jV l a)
theorem oo (l:List UInt8) (a:Nat):qr l a = jV l a:=aF _ _
def El (l:List UInt8) (k j:Nat):Nat × Nat:=if j < k ∧ (l.getD j jk).toNat ≠ 0 then (qk l j,(l.getD j jk).toNat) else (0,0)
def kA (l:List UInt8) (k:Nat):List (Nat × Nat):=lk l ((MH l.length).map (El l k))
theorem lJ (l:List UInt8) (k:Nat):kA l k = (MH l.length).map (El l k):=aF _ _
theorem oq (l:List UInt8) (k:Nat):(kA l k).length = l.length:=by rw [lJ,Ma,M4]
theorem G9 (l:List UInt8):kA l 0 = Md l.length (0,0):=by
 rw [lJ]
 apply List.ext_getElem?
 intro i
 rw [List.getElem?_map,List.getElem?_replicate]
 rcases Mv i l.length with hi | hi
 ·rw [List.getElem?_range hi,if_pos hi]; rfl
 ·rw [List.getElem?_eq_none (by simpa using hi),if_neg (by omega)]; rfl
theorem Cn {l:List UInt8} {k:Nat} (hk:k < l.length):kA l (k + 1) = if (l.getD k jk).toNat = 0 then kA l k else (kA l k).set k (qk l k,(l.getD k jk).toNat):=by
 apply List.ext_getElem?
 intro i
 have e:∀ j,(kA l j)[i]? = if i < l.length then some (El l j i) else none:=fun j=>by
  rw [lJ,List.getElem?_map]
  rcases Mv i l.length with hi | hi
  ·rw [List.getElem?_range hi,if_pos hi]; rfl
  ·rw [List.getElem?_eq_none (by simpa using hi),if_neg (by omega)]; rfl
 by_cases h:(l.getD k jk).toNat = 0
 ·rw [if_pos h,e,e]
  split
  ·congr 1; unfold El
   by_cases hi:i = k
   ·subst hi; rw [if_neg (fun q=>q.2 h),if_neg (fun q=>q.2 h)]
   ·by_cases q:i < k ∧ (l.getD i jk).toNat ≠ 0
    ·rw [if_pos q,if_pos ⟨by omega,q.2⟩]
    ·rw [if_neg q,if_neg (fun z=>q ⟨by omega,z.2⟩)]
  ·rfl
 ·rw [if_neg h,List.getElem?_set,oq,e,e]
  by_cases hi:k = i
  ·subst hi
   rw [if_pos hk,if_pos rfl,if_pos hk]
   unfold El; rw [if_pos ⟨O8 k,h⟩]
  ·rw [if_neg hi]
   split
   ·congr 1; unfold El
    by_cases q:i < k ∧ (l.getD i jk).toNat ≠ 0
    ·rw [if_pos q,if_pos ⟨by omega,q.2⟩]
    ·rw [if_neg q,if_neg (fun z=>q ⟨by omega,z.2⟩)]
   ·rfl
theorem Co {l:List UInt8} (ho:dr l 15 = false):kA l l.length = af l:=by
 rw [lJ,w9,Cj]
 apply List.map_congr_left
 intro j hj
 have hj:=List.mem_range.1 hj
 have h:=eN ho hj
 unfold El Ka
 by_cases q:(l.getD j jk).toNat = 0
 ·rw [if_neg (fun z=>z.2 q),if_neg (fun z=>z.1 q)]
 ·rw [if_pos ⟨hj,q⟩,if_pos ⟨q,.inl (by omega)⟩]
theorem Cp {l:List UInt8} (hc:cM l 15 = 0) {a:Nat} (h:a ≤ 15):jV l a + aK l a ≤ 2 ^ a:=by
 have ho:=(eZ hc).2.1
 have hk:=(eZ hc).2.2
 have h1:=r9 l a h
 have h2:=qn l (a + 1) (16 - (a + 1))
 rw [show a + 1 + (16 - (a + 1)) = 16 from by omega,G7 l ho,h1] at h2
 have h3:(jV l a + aK l a) * dt 32768 a ≤ 2 ^ a * dt 32768 a:=by
  rw [dZ h,← Pr,show a + (15 - a) = 15 from by omega]
  rw [dZ h] at h2
  omega
 exact Nat.le_of_mul_le_mul_right h3 (ql h)
theorem Em {l:List UInt8} (ho:dr l 15 = false) {a:Nat} (h:16 ≤ a):aK l a = 0:=by
 rw [lw]; unfold wR
 rw [if_neg (by omega)]
 have:ek l a l.length = []:=by
  rw [List.eq_nil_iff_forall_not_mem]
  intro i hi
  have:=wS.1 hi
  have:=eN ho this.1
  omega
 rw [this]; rfl
theorem xd {l:List UInt8} (hc:cM l 15 = 0) {a:Nat} (h:a ≤ 17):jV l a ≤ 131072 ∧ (a ≤ 16 → jV l a + aK l a ≤ 65536):=by
 have ho:=(eZ hc).2.1
 have p:∀ b,b ≤ 15 → jV l b + aK l b ≤ 32768:=fun b hb=>L0 (Cp hc hb) (MQ (n:=2) (by decide) hb)
 have q16:jV l 16 = 2 * (jV l 15 + aK l 15):=rfl
 have q17:jV l 17 = 2 * (jV l 16 + aK l 16):=rfl
 have Lt:=Em ho (a:=16) (by decide)
 have p15:=p 15 (by decide)
 rcases Mv a 16 with z | z
 ·have:=p a (by omega); exact ⟨by omega,fun _=>by omega⟩
 ·rcases Mv a 17 with y | y
  ·have e:a = 16:=by omega
   subst e; exact ⟨by omega,fun _=>by omega⟩
  ·have e:a = 17:=by omega
   subst e; exact ⟨by omega,fun q=>by omega⟩
theorem Ha (l:List UInt8):g6 (fun _=>0) = g6 (bk l 0):=cH fun m _=>(Cl l m).symm
theorem En {l:List UInt8} {k:Nat} (h:(l.getD (k * 1) jk).toNat = 0):g6 (bk l k) = g6 (bk l (k + 1)):=cH fun m _=>by
 rw [Ms] at h
 rw [qq,if_neg (fun q=>by omega)]; rfl
theorem Hb {l:List UInt8} {k:Nat} (h:k = l.length):g6 (bk l k) = g6 (aK l):=cH fun m _=>by rw [h,Cm]
theorem Hc (l:List UInt8):g6 (aK l) = g6 (bU l 0):=cH fun m _=>by rw [lI,if_neg (M7 m)]
theorem Hd {l:List UInt8} {a:Nat} (h:17 ≤ a):g6 (bU l a) = g6 (bx l 0):=cH fun m hm=>by rw [lI,if_pos (by omega),e9,Cl]; rfl
theorem Eo {l:List UInt8} {k:Nat} (h:(l.getD (k * 1) jk).toNat = 0):g6 (bx l k) = g6 (bx l (k + 1)):=cH fun m _=>by
 rw [Ms] at h
 rw [e9,e9,qq,if_neg (fun q=>by omega)]; rfl
theorem Kb (l:List UInt8) (k:Nat) {o:Nat} (h:(l.getD (k * 1) jk).toNat = o) (h0:0 < o) (h1:o < 17):aj (g6 (bk l k)) o [D.v (.int .u32 (((bk l k o:Nat):Int) + 1))] = g6 (bk l (k + 1)):=by
 rw [Ms] at h
 refine (xb (bk l k) o h1 (bk l k o + 1)).trans (cH fun m _=>?_)
 rw [qq]
 by_cases e:m = o
 ·rw [if_pos e,e,if_pos ⟨by omega,h⟩]
 ·rw [if_neg e,if_neg (fun q=>e (by omega))]; rfl
theorem He (l:List UInt8) (a:Nat) {o:Nat} {z:Int} (ho:o = a) (h1:a < 17) (hz:z = ((qr l a:Nat):Int)):aj (g6 (bU l a)) o [D.v (.int .u32 z)] = g6 (bU l (a + 1)):=by
 subst ho hz
 refine (xb (bU l o) o h1 (qr l o)).trans (cH fun m _=>?_)
 rw [lI,lI,oo]
 by_cases e:m = o
 ·rw [if_pos e,e,if_pos (O8 o)]
 ·rw [if_neg e]
  by_cases q:m < o
  ·rw [if_pos q,if_pos (by omega)]
  ·rw [if_neg q,if_neg (by omega)]
theorem Hf (l:List UInt8) (k:Nat) {o:Nat} (h:(l.getD (k * 1) jk).toNat = o) (h0:0 < o) (h1:o < 17):aj (g6 (bx l k)) o [D.v (.int .u32 (((bx l k o:Nat):Int) + 1))] = g6 (bx l (k + 1)):=by
 rw [Ms] at h
 refine (xb (bx l k) o h1 (bx l k o + 1)).trans (cH fun m _=>?_)
 rw [e9,e9,e9,qq]
 by_cases e:m = o
 ·rw [if_pos e,e,if_pos ⟨by omega,h⟩]; rfl
 ·rw [if_neg e,if_neg (fun q=>e (by omega))]; rfl
theorem zG {l:List UInt8} {k:Nat} (hc:cM l 15 = 0) (hk:k < l.length) (o:Nat) (h:(l.getD (k * 1) jk).toNat = o) (h0:0 < o):o ≤ 15 ∧ bx l k o = qk l k ∧ bx l (k + 1) o = qk l k + 1 ∧ qk l k ≤ 65536 ∧ bk l k o ≤ k:=by
 rw [Ms] at h
 have ho:=eN (eZ hc).2.1 hk
 have h1:o ≤ 15:=by omega
 have e:=Ck h (by omega) h1
 have h2:bx l k o = qk l k:=by rw [e9,gz,if_neg (by omega),e]
 have h3:=(xd hc (a:=o) (by omega)).2 (by omega)
 have h4:bk l (k + 1) o = bk l k o + 1:=by rw [qq,if_pos ⟨by omega,h⟩]
 have h5:bx l (k + 1) o = qk l k + 1:=by
  rw [e9,h4,← h2,e9,M8]
 have h6:bk l (k + 1) o ≤ aK l o:=by
  rw [← Cm,gz,gz,if_neg (by omega),if_neg (by omega)]
  obtain ⟨r,hr⟩:=lG l o (k + 1) (l.length - (k + 1))
  rw [show k + 1 + (l.length - (k + 1)) = l.length from by omega] at hr
  rw [hr,LZ]; omega
 refine ⟨h1,h2,h5,?_,xc l k o⟩
 rw [← h2,e9]; omega
theorem Cq {l:List UInt8} {a:Nat} (hc:cM l 15 = 0) (h:a < 17) (o:Nat) (ho:o = a):qr l a + bU l a o ≤ 65536 ∧ (qr l a + bU l a o) * 2 = qr l (a + 1) ∧ qr l (a + 1) ≤ 131072:=by
 subst ho
 have h1:=(xd hc (a:=o) (by omega)).2 (by omega)
 have h2:=(xd hc (a:=o + 1) (by omega)).1
 rw [oo,oo,lI,if_neg (OJ o)]
 refine ⟨h1,?_,h2⟩
 rw [jV,Nr]
theorem Hg {l:List UInt8} {k:Nat} (hk:k < l.length) (h:(l.getD (k * 1) jk).toNat = 0):kA l (k + 1) = kA l k:=by
 rw [Ms] at h; rw [Cn hk,if_pos h]
theorem Hh {l:List UInt8} {k:Nat} (hk:k < l.length) (h:0 < (l.getD (k * 1) jk).toNat):kA l (k + 1) = (kA l k).set k (qk l k,(l.getD k jk).toNat):=by
 rw [Ms] at h; rw [Cn hk,if_neg (by omega)]
theorem LS {l:List UInt8} {k:Nat} (hc:cM l 15 = 0) (hk:k < l.length) (h:0 < (l.getD (k * 1) jk).toNat):aj ((kA l k).flatMap jO) (k * 2) [D.v (.int .u32 (((bx l (k + 1) (l.getD k jk).toNat:Nat):Int) - 1)),D.v (.int .u8 (((l.getD k jk).toNat:Nat):Int))] = (kA l (k + 1)).flatMap jO:=by
 have h2:=zG hc hk (l.getD k jk).toNat (by rw [Ms]) (by rwa [Ms] at h)
 rw [Hh hk h,h2.2.2.1,show (((qk l k + 1:Nat):Int) - 1) = ((qk l k:Nat):Int) from by omega]
 exact zE (c:=(qk l k,(l.getD k jk).toNat)) (by rw [oq]; exact hk) (Nr k 2)
theorem zH (l:List UInt8) (n:Nat) (hn:n = l.length) (m:Nat) (hm:1 ≤ m ∧ m ≤ 15) (hc:cM l m = 0):SpecH false Tryz.prog 112 [.sl false n 1 (l.map dB),nD m] [] (.tup [.ref 0 0 0 n 2,iD 0]) [⟨(af l).flatMap jO, 210, true⟩]:=by
 have hL:=(eZ hc).1
 have hc15:=(ol hm.2 hc).1
 have ho:=(eZ hc15).2.1
 refine SpecH.run T_ok ai Tryz.func112 rfl rfl rfl ⟨ej (fun _=>rfl) _,trivial⟩ rfl 1000 64 (fun R ok=>(.s 5 (.cl 148 false [] (.fn JL (@D6 (l) (n) om om (m) om)) (.s 4 (.f ((↑(cM l m):Int) != 0) (by (simp <;> (omega))) (.s 8 (.blk 80 80 (Blk.mk [uI 0,uI 0,uI 0,uI 0,uI 0,uI 0,uI 0,uI 0,uI 0,uI 0,uI 0,uI 0,uI 0,uI 0,uI 0,uI 0,uI 0] 234 false) (Blk.mk [ah (bk l 0 0),ah (bk l 0 1),ah (bk l 0 2),ah (bk l 0 3),ah (bk l 0 4),ah (bk l 0 5),ah (bk l 0 6),ah (bk l 0 7),ah (bk l 0 8),ah (bk l 0 9),ah (bk l 0 10),ah (bk l 0 11),ah (bk l 0 12),ah (bk l 0 13),ah (bk l 0 14),ah (bk l 0 15),ah (bk l 0 16)] 234 false) (by (exact aC (Ha l))) (Hn.inl T_ok ai false 20 80 (aA Tryz.prog 149 0) (fun (x:(k:Nat) ×' (hk:k ≤ n) ×' Unit)=>match x with | ⟨k,hk,_⟩=>CutS.mk [(2,D.ptr 80 80 0),(5,D.sl false n 1 (map dB l)),(6,zN n),(7,nD k)] [⟨80,80,80,80,.c ⟨g6 (bk l k),234,false⟩⟩] 88) (fun (x:(k:Nat) ×' (hk:k ≤ n) ×' Unit)=>match x with | ⟨k,hk,_⟩=>n - k) [⟨Unit,.exit 0,fun x=>match x with | ()=>CutS.mk [(2,D.ptr 80 80 0),(5,D.sl false n 1 (map dB l)),(6,zN n)] [⟨80,80,80,80,.c ⟨g6 (aK l),234,false⟩⟩] 88⟩] 1000 64 (fun | ⟨k,hk,_⟩,Q,next1,last1=>(.s 2 (.br (decide ((k:Int) < (n:Int))) (fun p0=>have p0f:=aT p0; (.s 1 (.chk (true && decide ((k:Int) < (n:Int)) && true) Lz (.s 2 (.opt ((map dB l)[k * 1]?) (dB (getD l (k * 1) jk)) (av _ _ om) (.s 4 (.br (decide (0 < (↑(LW (getD l (k * 1) jk)):Int))) (fun p1=>have p1f:=aT p1; (.s 2 (.chk (true && decide ((↑(LW (getD l (k * 1) jk)):Int) < (↑17:Int))) G8 (.s 3 (.opt ((g6 (bk l k))[0 + LW (getD l (k * 1) jk) * 1]?) (cT (bk l k (0 + LW (getD l (k * 1) jk) * 1))) (@tI (bk l k) (0 + LW (getD l (k * 1) jk) * 1) Ek) (.s 2 (.opt (az .u32 ((↑(bk l k (0 + LW (getD l (k * 1) jk) * 1)):Int) + 1)) (uI ((↑(bk l k (0 + LW (getD l (k * 1) jk) * 1)):Int) + 1)) (aB (by ( have h9:=xc l k (0 + (l.getD (k * 1) jk).toNat * 1); omega))) (.s 1 (.chk (true && decide ((↑(LW (getD l (k * 1) jk)):Int) < (↑17:Int))) G8 (.s 2 (.chk (true && LX (0 + LW (getD l (k * 1) jk) * 1 + 1) 17) LC (.lst (aj [ah (bk l k 0),ah (bk l k 1),ah (bk l k 2),ah (bk l k 3),ah (bk l k 4),ah (bk l k 5),ah (bk l k 6),ah (bk l k 7),ah (bk l k 8),ah (bk l k 9),ah (bk l k 10),ah (bk l k 11),ah (bk l k 12),ah (bk l k 13),ah (bk l k 14),ah (bk l k 15),ah (bk l k 16)] (0 + LW (getD l (k * 1) jk) * 1) [uI ((↑(bk l k (0 + LW (getD l (k * 1) jk) * 1)):Int) + 1)]) ([ah (bk l (k + 1) 0),ah (bk l (k + 1) 1),ah (bk l (k + 1) 2),ah (bk l (k + 1) 3),ah (bk l (k + 1) 4),ah (bk l (k + 1) 5),ah (bk l (k + 1) 6),ah (bk l (k + 1) 7),ah (bk l (k + 1) 8),ah (bk l (k + 1) 9),ah (bk l (k + 1) 10),ah (bk l (k + 1) 11),ah (bk l (k + 1) 12),ah (bk l (k + 1) 13),ah (bk l (k + 1) 14),ah (bk l (k + 1) 15),ah (bk l (k + 1) 16)]) (@Kb l k (0 + LW (getD l (k * 1) jk) * 1) om om Ek) (.s 2 (.ow ((k:Int) + 1) (.s 1 (.val 7 (zI ((k:Int) + 1)) (zN (k + 1)) I0 (Hn.next next1 ⟨(k + 1),om,⟨⟩⟩ I1 [(80,80)] ro))))))))))))))))) (fun p1=>have p1f:=aU p1; (.s 2 (.ow ((k:Int) + 1) (.s 1 (.val 7 (zI ((k:Int) + 1)) (zN (k + 1)) I0 (.blk 80 80 (Blk.mk [ah (bk l k 0),ah (bk l k 1),ah (bk l k 2),ah (bk l k 3),ah (bk l k 4),ah (bk l k 5),ah (bk l k 6),ah (bk l k 7),ah (bk l k 8),ah (bk l k 9),ah (bk l k 10),ah (bk l k 11),ah (bk l k 12),ah (bk l k 13),ah (bk l k 14),ah (bk l k 15),ah (bk l k 16)] 234 false) (Blk.mk [ah (bk l (k + 1) 0),ah (bk l (k + 1) 1),ah (bk l (k + 1) 2),ah (bk l (k + 1) 3),ah (bk l (k + 1) 4),ah (bk l (k + 1) 5),ah (bk l (k + 1) 6),ah (bk l (k + 1) 7),ah (bk l (k + 1) 8),ah (bk l (k + 1) 9),ah (bk l (k + 1) 10),ah (bk l (k + 1) 11),ah (bk l (k + 1) 12),ah (bk l (k + 1) 13),ah (bk l (k + 1) 14),ah (bk l (k + 1) 15),ah (bk l (k + 1) 16)] 234 false) (by (exact aC (En (by (omega))))) (Hn.next next1 ⟨(k + 1),om,⟨⟩⟩ I1 [(80,80)] ro)))))))))))))) (fun p0=>have p0f:=aU p0; (.blk 80 80 (Blk.mk [ah (bk l k 0),ah (bk l k 1),ah (bk l k 2),ah (bk l k 3),ah (bk l k 4),ah (bk l k 5),ah (bk l k 6),ah (bk l k 7),ah (bk l k 8),ah (bk l k 9),ah (bk l k 10),ah (bk l k 11),ah (bk l k 12),ah (bk l k 13),ah (bk l k 14),ah (bk l k 15),ah (bk l k 16)] 234 false) (Blk.mk [ah (aK l 0),ah (aK l 1),ah (aK l 2),ah (aK l 3),ah (aK l 4),ah (aK l 5),ah (aK l 6),ah (aK l 7),ah (aK l 8),ah (aK l 9),ah (aK l 10),ah (aK l 11),ah (aK l 12),ah (aK l 13),ah (aK l 14),ah (aK l 15),ah (aK l 16)] 234 false) (by (exact aC (Hb (by (omega))))) (Hn.last last1 0 (():Unit) rfl [(80,80)] ro)))))) (fun | ⟨k,hk,_⟩=>by kernel_rfl) ⟨(0),om,⟨⟩⟩ [(80,80)] ro (cb (fun | ()=>(.s 19 (.val 2 (uI 0) (ah (qr l 0)) (by (rw [oo]; rfl)) (.blk 120 120 (Blk.mk [ah (aK l 0),ah (aK l 1),ah (aK l 2),ah (aK l 3),ah (aK l 4),ah (aK l 5),ah (aK l 6),ah (aK l 7),ah (aK l 8),ah (aK l 9),ah (aK l 10),ah (aK l 11),ah (aK l 12),ah (aK l 13),ah (aK l 14),ah (aK l 15),ah (aK l 16)] 234 false) (Blk.mk [ah (bU l 0 0),ah (bU l 0 1),ah (bU l 0 2),ah (bU l 0 3),ah (bU l 0 4),ah (bU l 0 5),ah (bU l 0 6),ah (bU l 0 7),ah (bU l 0 8),ah (bU l 0 9),ah (bU l 0 10),ah (bU l 0 11),ah (bU l 0 12),ah (bU l 0 13),ah (bU l 0 14),ah (bU l 0 15),ah (bU l 0 16)] 234 false) (by (exact aC (Hc l))) (Hn.inl T_ok ai false 21 144 (aA Tryz.prog 150 0) (fun (x:(a:Nat) ×' (ha:a ≤ 17) ×' Unit)=>match x with | ⟨a,ha,_⟩=>CutS.mk [(0,D.ptr 120 120 0),(2,cT (qr l a)),(4,nD a)] [⟨80,80,80,80,.b ⟨[ah (aK l 0),ah (aK l 1),ah (aK l 2),ah (aK l 3),ah (aK l 4),ah (aK l 5),ah (aK l 6),ah (aK l 7),ah (aK l 8),ah (aK l 9),ah (aK l 10),ah (aK l 11),ah (aK l 12),ah (aK l 13),ah (aK l 14),ah (aK l 15),ah (aK l 16)],234,false⟩⟩,⟨120,120,120,120,.c ⟨g6 (bU l a),234,false⟩⟩] 160) (fun (x:(a:Nat) ×' (ha:a ≤ 17) ×' Unit)=>match x with | ⟨a,ha,_⟩=>17 - a) [⟨Unit,.exit 0,fun x=>match x with | ()=>CutS.mk [(0,D.ptr 120 120 0)] [⟨80,80,80,80,.b ⟨[ah (aK l 0),ah (aK l 1),ah (aK l 2),ah (aK l 3),ah (aK l 4),ah (aK l 5),ah (aK l 6),ah (aK l 7),ah (aK l 8),ah (aK l 9),ah (aK l 10),ah (aK l 11),ah (aK l 12),ah (aK l 13),ah (aK l 14),ah (aK l 15),ah (aK l 16)],234,false⟩⟩,⟨120,120,120,120,.c ⟨g6 (bx l 0),234,false⟩⟩] 160⟩] 1000 64 (fun | ⟨a,ha,_⟩,Q,next1,last1=>(.s 2 (.br (decide ((a:Int) < 17)) (fun p2=>have p2f:=aT p2; (.s 10 (.chk (true && decide ((a:Int) < (↑17:Int))) bu (.s 3 (.opt ((g6 (bU l a))[0 + a * 1]?) (cT (bU l a (0 + a * 1))) (@tI (bU l a) (0 + a * 1) om) (.s 2 (.opt (az .u32 ((↑(qr l a):Int) + (↑(bU l a (0 + a * 1)):Int))) (uI ((↑(qr l a):Int) + (↑(bU l a (0 + a * 1)):Int))) (aB LD) (.s 2 (.opt (az .u32 (((↑(qr l a):Int) + (↑(bU l a (0 + a * 1)):Int)) * 2)) (uI (((↑(qr l a):Int) + (↑(bU l a (0 + a * 1)):Int)) * 2)) (aB LD) (.s 4 (.chk (true && decide ((a:Int) < (↑17:Int))) bu (.s 2 (.chk (true && LX (0 + a * 1 + 1) 17) (by (refine L2 ?_; (omega))) (.lst (aj [ah (bU l a 0),ah (bU l a 1),ah (bU l a 2),ah (bU l a 3),ah (bU l a 4),ah (bU l a 5),ah (bU l a 6),ah (bU l a 7),ah (bU l a 8),ah (bU l a 9),ah (bU l a 10),ah (bU l a 11),ah (bU l a 12),ah (bU l a 13),ah (bU l a 14),ah (bU l a 15),ah (bU l a 16)] (0 + a * 1) [ah (qr l a)]) ([ah (bU l (a + 1) 0),ah (bU l (a + 1) 1),ah (bU l (a + 1) 2),ah (bU l (a + 1) 3),ah (bU l (a + 1) 4),ah (bU l (a + 1) 5),ah (bU l (a + 1) 6),ah (bU l (a + 1) 7),ah (bU l (a + 1) 8),ah (bU l (a + 1) 9),ah (bU l (a + 1) 10),ah (bU l (a + 1) 11),ah (bU l (a + 1) 12),ah (bU l (a + 1) 13),ah (bU l (a + 1) 14),ah (bU l (a + 1) 15),ah (bU l (a + 1) 16)]) (@He l a (0 + a * 1) ((↑(qr l a):Int)) om om om) (.s 2 (.ow ((a:Int) + 1) (.s 1 (.val 2 (uI (((↑(qr l a):Int) + (↑(bU l a (0 + a * 1)):Int)) * 2)) (ah (qr l (a + 1))) LF (.val 4 (zI ((a:Int) + 1)) (zN (a + 1)) LF (Hn.next next1 ⟨(a + 1),om,⟨⟩⟩ (by show 17 - (a + 1) < 17 - a; clear next1 last1; omega) [(80,80),(120,120)] ro)))))))))))))))))))) (fun p2=>have p2f:=aU p2; (.blk 120 120 (Blk.mk [ah (bU l a 0),ah (bU l a 1),ah (bU l a 2),ah (bU l a 3),ah (bU l a 4),ah (bU l a 5),ah (bU l a 6),ah (bU l a 7),ah (bU l a 8),ah (bU l a 9),ah (bU l a 10),ah (bU l a 11),ah (bU l a 12),ah (bU l a 13),ah (bU l a 14),ah (bU l a 15),ah (bU l a 16)] 234 false) (Blk.mk [ah (bx l 0 0),ah (bx l 0 1),ah (bx l 0 2),ah (bx l 0 3),ah (bx l 0 4),ah (bx l 0 5),ah (bx l 0 6),ah (bx l 0 7),ah (bx l 0 8),ah (bx l 0 9),ah (bx l 0 10),ah (bx l 0 11),ah (bx l 0 12),ah (bx l 0 13),ah (bx l 0 14),ah (bx l 0 15),ah (bx l 0 16)] 234 false) (by (exact aC (Hd (by (omega))))) (Hn.last last1 0 (():Unit) rfl [(80,80),(120,120)] ro)))))) (fun | ⟨a,ha,_⟩=>by kernel_rfl) ⟨(0),om,⟨⟩⟩ [(80,80),(120,120)] ro (cb (fun | ()=>(.s 3 (.chk (true && decide ((n:Int) ≤ (n:Int)) && true && true && true && true && decide ((↑(TI.bytes tD):Int) * (n:Int) ≤ 140737488355328)) (by (have h9:((tD.bytes:Nat):Int) = 8:=rfl; rw [h9]; simp; omega)) (.s 4 (.blk 184 184 (Blk.mk (cD [uI 0,bI 0] (n * 2)) 210 true) (Blk.mk (flatMap jO (kA l 0)) 210 true) (by (refine aC ?_; rw [Eh,G9,hn])) (Hn.inl T_ok ai false 39 0 (aA Tryz.prog 112 0) (fun (x:(k:Nat) ×' (hk:k ≤ n) ×' Unit)=>match x with | ⟨k,hk,_⟩=>CutS.mk [(7,D.ptr 0 0 0),(8,D.ref 8 8 0 n 2),(23,D.sl false n 1 (map dB l)),(24,zN n),(25,nD k)] [⟨0,0,120,120,.c ⟨g6 (bx l k),234,false⟩⟩,⟨8,8,184,184,.b ⟨(kA l k).flatMap jO,210,true⟩⟩] 16) (fun (x:(k:Nat) ×' (hk:k ≤ n) ×' Unit)=>match x with | ⟨k,hk,_⟩=>n - k) [⟨Unit,.exit 0,fun x=>match x with | ()=>CutS.mk [(7,D.ptr 0 0 0),(8,D.ref 8 8 0 n 2),(23,D.sl false n 1 (map dB l)),(24,zN n)] [⟨8,8,184,184,.b ⟨(af l).flatMap jO,210,true⟩⟩] 16⟩] 1000 64 (fun | ⟨k,hk,_⟩,Q,next1,last1=>(.s 2 (.br (decide ((k:Int) < (n:Int))) (fun p3=>have p3f:=aT p3; (.s 2 (.chk (true && decide ((k:Int) < (n:Int)) && true) Lz (.s 2 (.opt ((map dB l)[k * 1]?) (dB (getD l (k * 1) jk)) (av _ _ om) (.s 5 (.br (decide (0 < (↑(LW (getD l (k * 1) jk)):Int))) (fun p4=>have p4f:=aT p4; (.s 12 (.chk (true && decide ((↑(LW (getD l (k * 1) jk)):Int) < (↑17:Int))) G8 (.s 3 (.opt ((g6 (bx l k))[0 + LW (getD l (k * 1) jk) * 1]?) (cT (bx l k (0 + LW (getD l (k * 1) jk) * 1))) (@tI (bx l k) (0 + LW (getD l (k * 1) jk) * 1) Ek) (.s 2 (.opt (az .u32 ((↑(bx l k (0 + LW (getD l (k * 1) jk) * 1)):Int) + 1)) (uI ((↑(bx l k (0 + LW (getD l (k * 1) jk) * 1)):Int) + 1)) (aB Ek) (.s 2 (.chk (true && decide ((↑(LW (getD l (k * 1) jk)):Int) < (↑17:Int))) G8 (.s 2 (.chk (true && LX (0 + LW (getD l (k * 1) jk) * 1 + 1) 17) LC (.lst (aj [ah (bx l k 0),ah (bx l k 1),ah (bx l k 2),ah (bx l k 3),ah (bx l k 4),ah (bx l k 5),ah (bx l k 6),ah (bx l k 7),ah (bx l k 8),ah (bx l k 9),ah (bx l k 10),ah (bx l k 11),ah (bx l k 12),ah (bx l k 13),ah (bx l k 14),ah (bx l k 15),ah (bx l k 16)] (0 + LW (getD l (k * 1) jk) * 1) [uI ((↑(bx l k (0 + LW (getD l (k * 1) jk) * 1)):Int) + 1)]) ([ah (bx l (k + 1) 0),ah (bx l (k + 1) 1),ah (bx l (k + 1) 2),ah (bx l (k + 1) 3),ah (bx l (k + 1) 4),ah (bx l (k + 1) 5),ah (bx l (k + 1) 6),ah (bx l (k + 1) 7),ah (bx l (k + 1) 8),ah (bx l (k + 1) 9),ah (bx l (k + 1) 10),ah (bx l (k + 1) 11),ah (bx l (k + 1) 12),ah (bx l (k + 1) 13),ah (bx l (k + 1) 14),ah (bx l (k + 1) 15),ah (bx l (k + 1) 16)]) (@Hf l k (0 + LW (getD l (k * 1) jk) * 1) om om Ek) (.s 4 (.chk (true && decide ((↑(LW (getD l (k * 1) jk)):Int) < (↑17:Int))) G8 (.s 3 (.opt ((g6 (bx l (k + 1)))[0 + LW (getD l (k * 1) jk) * 1]?) (cT (bx l (k + 1) (0 + LW (getD l (k * 1) jk) * 1))) (@tI (bx l (k + 1)) (0 + LW (getD l (k * 1) jk) * 1) Ek) (.s 2 (.opt (az .u32 ((↑(bx l (k + 1) (0 + LW (getD l (k * 1) jk) * 1)):Int) - 1)) (uI ((↑(bx l (k + 1) (0 + LW (getD l (k * 1) jk) * 1)):Int) - 1)) (aB Ek) (.s 10 (.chk (true && decide ((k:Int) < (n:Int))) bu (.s 1 (.chk (true && LX (0 + k * 2 + 2) (length (flatMap jO (kA l k)))) (by (rw [bn (k:=2) (fun _=>rfl),oq]; simp only [Ml]; refine L2 ?_; (omega))) (.lst (aj (flatMap jO (kA l k)) (0 + k * 2) [uI ((↑(bx l (k + 1) (0 + LW (getD l (k * 1) jk) * 1)):Int) - 1),dQ (LW (getD l (k * 1) jk))]) (aj (flatMap jO (kA l k)) (k * 2) [uI ((↑(bx l (k + 1) (LW (getD l k jk))):Int) - 1),dQ (LW (getD l k jk))]) (by (simp; done)) (.s 2 (.ow ((k:Int) + 1) (.s 1 (.val 25 (zI ((k:Int) + 1)) (zN (k + 1)) I0 (.blk 8 8 (Blk.mk (aj (flatMap jO (kA l k)) (k * 2) [uI ((↑(bx l (k + 1) (LW (getD l k jk))):Int) - 1),dQ (LW (getD l k jk))]) 210 true) (Blk.mk (flatMap jO (kA l (k + 1))) 210 true) (by (exact aC (LS hc15 (by (omega)) (by (omega))))) (Hn.next next1 ⟨(k + 1),om,⟨⟩⟩ I1 [(0,0),(8,8)] ro))))))))))))))))))))))))))))) (fun p4=>have p4f:=aU p4; (.s 2 (.ow ((k:Int) + 1) (.s 1 (.val 25 (zI ((k:Int) + 1)) (zN (k + 1)) I0 (.blk 0 0 (Blk.mk [ah (bx l k 0),ah (bx l k 1),ah (bx l k 2),ah (bx l k 3),ah (bx l k 4),ah (bx l k 5),ah (bx l k 6),ah (bx l k 7),ah (bx l k 8),ah (bx l k 9),ah (bx l k 10),ah (bx l k 11),ah (bx l k 12),ah (bx l k 13),ah (bx l k 14),ah (bx l k 15),ah (bx l k 16)] 234 false) (Blk.mk [ah (bx l (k + 1) 0),ah (bx l (k + 1) 1),ah (bx l (k + 1) 2),ah (bx l (k + 1) 3),ah (bx l (k + 1) 4),ah (bx l (k + 1) 5),ah (bx l (k + 1) 6),ah (bx l (k + 1) 7),ah (bx l (k + 1) 8),ah (bx l (k + 1) 9),ah (bx l (k + 1) 10),ah (bx l (k + 1) 11),ah (bx l (k + 1) 12),ah (bx l (k + 1) 13),ah (bx l (k + 1) 14),ah (bx l (k + 1) 15),ah (bx l (k + 1) 16)] 234 false) (by (exact aC (Eo (by (omega))))) (.blk 8 8 (Blk.mk (flatMap jO (kA l k)) 210 true) (Blk.mk (flatMap jO (kA l (k + 1))) 210 true) (by (rw [Hg (by (omega)) (by (omega))])) (Hn.next next1 ⟨(k + 1),om,⟨⟩⟩ I1 [(0,0),(8,8)] ro))))))))))))))) (fun p3=>have p3f:=aU p3; (.blk 8 8 (Blk.mk (flatMap jO (kA l k)) 210 true) (Blk.mk (flatMap jO (af l)) 210 true) (by (rw [show k = l.length from by (omega),Co ho])) (Hn.last last1 0 (():Unit) rfl [(8,8)] ro)))))) (fun | ⟨k,hk,_⟩=>by kernel_rfl) ⟨(0),om,⟨⟩⟩ [(120,120),(184,184)] ro (cb (fun | ()=>(.s 3 (.out [8] [8] (D.tup [D.ref 0 0 0 n 2,zI 0]) [Blk.mk (flatMap jO (af l)) 210 true] R (ok _ _ wr wr)))))))))))))))))))))))))) (by kernel_rfl)
def tJ (l:List UInt8) (m:Nat):Nat → Nat
 | 0=>0
 | n + 1=>if m < n + 1 ∧ l.getD n jk = 0 then tJ l m n else n + 1
def gA (l:List UInt8) (m:Nat):Nat:=lk l (tJ l m l.length)
theorem lK (l:List UInt8) (m:Nat):gA l m = tJ l m l.length:=aF _ _
theorem Kc {l:List UInt8} {m n T u:Nat} (hR:tJ l m n = T) (h:m < n) (hu:u = n - 1) (h2:(((l.getD u jk).toNat:Nat):Int) = 0):tJ l m (n - 1) = T:=by
 subst hu
 obtain ⟨g,rfl⟩:∃ g,n = g + 1:=⟨n - 1,by omega⟩
 rw [← hR,tJ,if_pos ⟨by omega,Cb h2⟩]; rfl
theorem Hi {l:List UInt8} {m n T:Nat} (hR:tJ l m n = T) (h:¬ (m < n ∧ (l.getD (n - 1) jk).toNat = 0)):n = T:=by
 rw [← hR]
 cases n with
 | zero=>rfl
 | succ n=>exact (if_neg (fun q=>h ⟨by omega,by rw [NC,q.2]; rfl⟩)).symm
theorem xe {l:List UInt8} {m:Nat}:∀ n,tJ l m n ≤ n ∧ (m ≤ n → m ≤ tJ l m n)
 | 0=>⟨Mc _,id⟩
 | n + 1=>by
  rw [tJ]; split
  ·have:=xe (l:=l) (m:=m) n; omega
  ·omega
theorem js (l:List UInt8) (m:Nat):gA l m ≤ l.length ∧ (m ≤ l.length → m ≤ gA l m):=by rw [lK]; exact xe _
structure Nm where
 v:Nat
 n:Nat
 deriving Inhabited
abbrev aV (x:Nm):List D:=[cT x.v,nD x.n]
theorem b8 (l:List Nm):(l.flatMap aV).length = l.length * 2:=bn (k:=2) (fun _=>rfl) l
theorem b9 (l m:List Nm):(l ++ m).flatMap aV = l.flatMap aV ++ m.flatMap aV:=NA
theorem Ep (l:List UInt8) (L:Nat) (hL:L = l.length) (hL2:L ≤ 320) (m:Nat) (hm:m ≤ 1000) (T:Nat) (hT:gA l m = T):SpecH false Tryz.prog 109 [.sl false L 1 (l.map dB),nD m] [] (nD T) []:=by
 refine SpecH.run T_ok ai Tryz.func109 rfl rfl rfl trivial rfl 1000 64 (fun R ok=>(.s 4 (Hn.inl T_ok ai false 22 0 (aA Tryz.prog 109 0) (fun (x:(n:Nat) ×' (hn:n ≤ L) ×' (hR:tJ l m n = T) ×' Unit)=>match x with | ⟨n,hn,hR,_⟩=>CutS.mk [(0,D.sl false L 1 (map dB l)),(1,zN m),(5,nD n)] [] 0) (fun (x:(n:Nat) ×' (hn:n ≤ L) ×' (hR:tJ l m n = T) ×' Unit)=>match x with | ⟨n,hn,hR,_⟩=>n) [⟨Unit,.exit 0,fun x=>match x with | ()=>CutS.mk [(0,D.sl false L 1 (map dB l)),(1,zN m),(5,nD T)] [] 0⟩] 1000 64 (fun | ⟨n,hn,hR,_⟩,Q,next1,last1=>(.s 6 (.br (decide ((m:Int) < (n:Int))) (fun p0=>have p0f:=aT p0; (.s 5 (.ow ((n:Int) - 1) (.s 2 (.chk (decide (0 ≤ (n:Int) - 1) && decide ((n:Int) - 1 < (L:Int)) && true) (by ((refine aH ?_ ?_) <;> (repeat' (first | (refine aH ?_ ?_) | (with_reducible rfl) | (refine decide_eq_true ?_) | (refine L2 ?_) | (refine eu ?_))) <;> (omega))) (.s 3 (.opt ((map dB l)[uV ((n:Int) - 1) * 1]?) (dB (getD l (uV ((n:Int) - 1) * 1) jk)) (av _ _ om) (.s 4 (.br ((↑(LW (getD l (uV ((n:Int) - 1) * 1) jk)):Int) == 0) (fun p1=>have p1f:=eq_of_beq p1; (.s 3 (.ow ((n:Int) - 1) (.s 1 (.val 5 (zI ((n:Int) - 1)) (zN (n - 1)) (by ( refine aO ?_; omega)) (Hn.next next1 ⟨(n - 1),om,(by (simp only [Ms] at *;  exact Kc hR om (u:=((n:Int) - 1).toNat) om om)),⟨⟩⟩ (by show n - 1 < n; clear next1 last1; omega) [] ro)))))) (fun p1=>have p1f:=au p1; (.val 5 (zN n) (zN T) (by (simp only [Ms] at *;  rw [Hi hR (by rw [show ((n:Int) - 1).toNat = n - 1 from by omega] at *; omega)])) (Hn.last last1 0 (():Unit) rfl [] ro)))))))))))) (fun p0=>have p0f:=aU p0; (.s 12 (.val 5 (zN n) (zN T) (by ( rw [Hi hR om])) (Hn.last last1 0 (():Unit) rfl [] ro))))))) (fun | ⟨n,hn,hR,_⟩=>by kernel_rfl) ⟨(L),om,(by (rw [hL]; exact (lK l m).symm.trans hT)),⟨⟩⟩ [] ro (cb (fun | ()=>(.s 2 (.out [] [] (zN T) [] R (ok _ _ wr wr)))))))) (by kernel_rfl)
def nl (X:List Nm):Nat → Nat
 | 0=>0
 | i + 1=>nl X i + (X.getD i jk).n
def xf (X:List Nm):Nat:=lk X (nl X X.length)
theorem sa (X:List Nm):xf X = nl X X.length:=aF _ _
theorem Cr {X:List Nm} (h:∀ i,(X.getD i jk).n ≤ 32):∀ i,nl X i ≤ 32 * i
 | 0=>Mc _
 | i + 1=>by have:=Cr h i; have:=h i; rw [nl]; omega
theorem Hj {p:Prop} (h:p:=by (simp;  have h9:=fv (v:=v) (c:=c) (m:=m) om; have h8:=mn m (c - m); omega)):p:=h
theorem Hk {p:Prop} (h:p:=by ( have h9:=fv (v:=v) (c:=c) (m:=m) om; have h8:=mn m (c - m); omega)):p:=h
theorem Hl (c:Nat) (hc:c ≤ 100000):SpecH false Tryz.prog 141 [.v (.int .u64 1),.v (.int .u64 c)] [] (.tup [.v (.int .u64 0),.v (.int .u64 c)]) []:=by
 refine SpecH.run T_ok ai Tryz.func141 rfl rfl rfl trivial rfl 1000 64 (fun R ok=>(.s 22 (.opt (bj Nn (Mf Nn (↑(My (L9 64 (c:Int) &&& L9 64 4294967295)):Int))) (D.v (MO .u64 ((c:Int) % 4294967296))) (ay (@jN 32 (4294967296:Int) ((c:Int)) (4294967295) om om om om)) (.s 4 (.opt (bj Nn (ME (c:Int) 4294967296)) (D.v (MO .u64 ((c:Int) / 4294967296))) (ay (@fU  ((c:Int)) (4294967296) om)) (.s 5 (.opt (az .u64 (1 * ((c:Int) % 4294967296))) (D.v (MO .u64 (1 * ((c:Int) % 4294967296)))) (bm om) (.s 5 (.opt (az .u64 (0 * ((c:Int) % 4294967296))) (D.v (MO .u64 (0 * ((c:Int) % 4294967296)))) (bm om) (.s 3 (.opt (bj Nn (ME (1 * ((c:Int) % 4294967296)) 4294967296)) (D.v (MO .u64 (1 * ((c:Int) % 4294967296) / 4294967296))) (ay (@fU  (1 * ((c:Int) % 4294967296)) (4294967296) om)) (.s 2 (.opt (az .u64 (0 * ((c:Int) % 4294967296) + 1 * ((c:Int) % 4294967296) / 4294967296)) (D.v (MO .u64 (0 * ((c:Int) % 4294967296) + 1 * ((c:Int) % 4294967296) / 4294967296))) (bm om) (.s 4 (.opt (bj Nn (Mf Nn (↑(My (L9 64 (0 * ((c:Int) % 4294967296) + 1 * ((c:Int) % 4294967296) / 4294967296) &&& L9 64 4294967295)):Int))) (D.v (MO .u64 ((0 * ((c:Int) % 4294967296) + 1 * ((c:Int) % 4294967296) / 4294967296) % 4294967296))) (ay (@jN 32 (4294967296:Int) (0 * ((c:Int) % 4294967296) + 1 * ((c:Int) % 4294967296) / 4294967296) (4294967295) om om om om)) (.s 4 (.opt (bj Nn (ME (0 * ((c:Int) % 4294967296) + 1 * ((c:Int) % 4294967296) / 4294967296) 4294967296)) (D.v (MO .u64 ((0 * ((c:Int) % 4294967296) + 1 * ((c:Int) % 4294967296) / 4294967296) / 4294967296))) (ay (@fU  (0 * ((c:Int) % 4294967296) + 1 * ((c:Int) % 4294967296) / 4294967296) (4294967296) om)) (.s 6 (.opt (az .u64 (1 * ((c:Int) / 4294967296))) (D.v (MO .u64 (1 * ((c:Int) / 4294967296)))) (bm om) (.s 2 (.opt (az .u64 ((0 * ((c:Int) % 4294967296) + 1 * ((c:Int) % 4294967296) / 4294967296) % 4294967296 + 1 * ((c:Int) / 4294967296))) (D.v (MO .u64 ((0 * ((c:Int) % 4294967296) + 1 * ((c:Int) % 4294967296) / 4294967296) % 4294967296 + 1 * ((c:Int) / 4294967296)))) (bm om) (.s 5 (.opt (az .u64 (0 * ((c:Int) / 4294967296))) (D.v (MO .u64 (0 * ((c:Int) / 4294967296)))) (bm om) (.s 3 (.opt (az .u64 (0 * ((c:Int) / 4294967296) + (0 * ((c:Int) % 4294967296) + 1 * ((c:Int) % 4294967296) / 4294967296) / 4294967296)) (D.v (MO .u64 (0 * ((c:Int) / 4294967296) + (0 * ((c:Int) % 4294967296) + 1 * ((c:Int) % 4294967296) / 4294967296) / 4294967296))) (bm om) (.s 3 (.opt (bj Nn (ME ((0 * ((c:Int) % 4294967296) + 1 * ((c:Int) % 4294967296) / 4294967296) % 4294967296 + 1 * ((c:Int) / 4294967296)) 4294967296)) (D.v (MO .u64 (((0 * ((c:Int) % 4294967296) + 1 * ((c:Int) % 4294967296) / 4294967296) % 4294967296 + 1 * ((c:Int) / 4294967296)) / 4294967296))) (ay (@fU  ((0 * ((c:Int) % 4294967296) + 1 * ((c:Int) % 4294967296) / 4294967296) % 4294967296 + 1 * ((c:Int) / 4294967296)) (4294967296) om)) (.s 2 (.opt (az .u64 (0 * ((c:Int) / 4294967296) + (0 * ((c:Int) % 4294967296) + 1 * ((c:Int) % 4294967296) / 4294967296) / 4294967296 + ((0 * ((c:Int) % 4294967296) + 1 * ((c:Int) % 4294967296) / 4294967296) % 4294967296 + 1 * ((c:Int) / 4294967296)) / 4294967296)) (D.v (MO .u64 (0 * ((c:Int) / 4294967296) + (0 * ((c:Int) % 4294967296) + 1 * ((c:Int) % 4294967296) / 4294967296) / 4294967296 + ((0 * ((c:Int) % 4294967296) + 1 * ((c:Int) % 4294967296) / 4294967296) % 4294967296 + 1 * ((c:Int) / 4294967296)) / 4294967296))) (bm om) (.s 5 (.opt (az .u64 (1 * (c:Int))) (D.v (MO .u64 (1 * (c:Int)))) (bm om) (.s 12 (.out [] [] (D.tup [D.v (MO .u64 (0 * ((c:Int) / 4294967296) + (0 * ((c:Int) % 4294967296) + 1 * ((c:Int) % 4294967296) / 4294967296) / 4294967296 + ((0 * ((c:Int) % 4294967296) + 1 * ((c:Int) % 4294967296) / 4294967296) % 4294967296 + 1 * ((c:Int) / 4294967296)) / 4294967296)),D.v (MO .u64 (1 * (c:Int)))]) [] R (ok _ _ (by (simp <;> (omega))) wr)))))))))))))))))))))))))))))))))) (by kernel_rfl)
def ce (v:UInt8) (c m:Nat):List UInt8:=Md m v ++ Md (c - m) 0
theorem fv {v:UInt8} {c m:Nat} (h:m ≤ c):(ce v c m).length = c:=by unfold ce; simp; omega
theorem mn (a b:Nat):MX a b ≤ a ∧ MX a b ≤ b ∧ (1 ≤ a → 1 ≤ b → 1 ≤ MX a b):=by
 show min a b ≤ a ∧ min a b ≤ b ∧ (1 ≤ a → 1 ≤ b → 1 ≤ min a b)
 omega
theorem Kd {L:List D} {m:Nat}:(bif true && LV (m * 1) L.length then L else (L.drop 0).take (m * 1)) = L.take m:=by
 rw [Ms,Nd]
 cases h:(true && LV m L.length) with
 | false=>rfl
 | true =>
  have:=L4 ((Ml _).symm.trans h)
  rw [cond_true,this,M3]
theorem Es {v:UInt8} {c:Nat} (h:1 ≤ c):aj (cD [D.v (.int .u8 0)] c) 0 (Mz (MX 1 c) [D.v (.int .u8 ((v.toNat:Nat):Int))]) = (ce v c 1).map dB:=by
 have e:MX 1 c = 1:=by show min 1 c = 1; omega
 have r:cD [D.v (.int .u8 0)] c = Md c (dB 0):=by
  rw [OD]
  refine ⟨by simp [cD],fun d hd=>?_⟩
  unfold cD at hd
  obtain ⟨j,_,rfl⟩:=List.mem_map.1 hd
  show [D.v (.int .u8 0)].getD (j % 1) jk = dB 0
  rw [PS]; rfl
 rw [e,r]
 unfold ce aj
 rw [MJ,Ns,Ns,OS]
 rfl
theorem Et {v:UInt8} {c m k:Nat} (h:k ≤ m) (h2:m + k ≤ c):aj ((ce v c m).map dB) m (Nz dB (Mz k (Mz m (ce v c m)))) = (ce v c (m + k)).map dB:=by
 have e1:(ce v c m).take m = Md m v:=by
  unfold ce
  rw [NF (by simp),Pw,Nat.min_self]
 unfold aj
 rw [← OL,e1,Pw,Pf h,Ma,Mu,← List.map_drop,← MJ,← MJ]
 congr 1
 unfold ce
 rw [PQ,OS,OS,Mu,show m - (m + k) = 0 from by omega,show c - m - (m + k - m) = c - (m + k) from by omega]
 simp [List.replicate_append_replicate]
theorem qt (nn:Bool) (v:UInt8) (c:Nat) (hc:1 ≤ c ∧ c ≤ 100000):SpecH false Tryz.prog 105 [.sl nn 1 1 [dB v],nD c] [] (.ref 0 0 0 c 1) [⟨(Md c v).map dB, 5, true⟩]:=by
 refine SpecH.run T_ok ai Tryz.func105 rfl rfl rfl ⟨aW _,trivial⟩ rfl 1000 64 (fun R ok=>(.s 11 (.opt (az .u64 (c:Int)) (D.v (MO .u64 (c:Int))) (bm om) (.s 1 (.cl 141 false [] (.fn JJ (@Hl (c) om)) (.s 17 (.f (decide (9223372036854775807 < (c:Int))) (by (refine decide_eq_false ?_; (omega))) (.s 2 (.ow (c:Int) (.s 1 (.chk (true && decide ((c:Int) ≤ (c:Int)) && true && true && true && true && decide ((↑(TI.bytes zw):Int) * (c:Int) ≤ 140737488355328)) (by (have h9:((zw.bytes:Nat):Int) = 1:=rfl; rw [h9]; simp; omega)) (.s 4 (.chk (true && ND 0 (MX 1 c) && LX (0 + c) (length (cD [bI 0] (c * 1)))) (by (simp_all; done)) (.lst (aj (cD [bI 0] (c * 1)) 0 (take (MX 1 c) [dQ (LW v)])) (aj (cD [bI 0] c) 0 (take (MX 1 c) [dQ (LW v)])) (by (simp; done)) (.s 1 (.val 8 (zN (MX 1 c)) (zI 1) (by (simp_all; done)) (.blk 176 176 (Blk.mk (aj (cD [bI 0] c) 0 (take (MX 1 c) [dQ (LW v)])) 5 true) (Blk.mk (map dB (ce v c 1)) 5 true) (by (refine aC (Es om))) (Hn.inl T_ok ai false 48 0 (aA Tryz.prog 105 0) (fun (x:(m:Nat) ×' (hm:1 ≤ m ∧ m ≤ c) ×' Unit)=>match x with | ⟨m,hm,_⟩=>CutS.mk [(7,D.ref 0 0 0 c 1),(8,nD m)] [⟨0,0,176,176,.b ⟨(ce v c m).map dB,5,true⟩⟩] 8) (fun (x:(m:Nat) ×' (hm:1 ≤ m ∧ m ≤ c) ×' Unit)=>match x with | ⟨m,hm,_⟩=>c - m) [⟨Unit,.exit 0,fun x=>match x with | ()=>CutS.mk [(7,D.ref 0 0 0 c 1)] [⟨0,0,176,176,.b ⟨(replicate c v).map dB,5,true⟩⟩] 8⟩] 1000 64 (fun | ⟨m,hm,_⟩,Q,next1,last1=>(.s 5 (.br (decide ((m:Int) < (c:Int))) (fun p0=>have p0f:=aT p0; (.s 5 (.chk (aL (some (m:Int)) none none c && true) Hj (.s 3 (.chk (aL none (some (m:Int)) none c && true) Hj (.s 1 (.chk (true && LX (0 + m * 1) (length (map dB (ce v c m))) && true && true && true && ND 0 (MX m (c - m)) && LX (0 + m * 1 + (c - m)) (length (map dB (ce v c m)))) (by (simp only [Ml,Mp,Ma];  have h9:=fv (v:=v) (c:=c) (m:=m) om; have h8:=mn m (c - m); simp only [LY]; refine ⟨⟨L2 om,L2 om⟩,L2 om⟩)) (.lst (aj (map dB (ce v c m)) (0 + m * 1) (take (MX m (c - m)) (bif true && LV (m * 1) (length (map dB (ce v c m))) then map dB (ce v c m) else take (m * 1) (drop 0 (map dB (ce v c m)))))) (aj (map dB (ce v c m)) m (map dB (take (MX m (c - m)) (take m (ce v c m))))) (by (rw [Kd,Ms,Mq,OL,OL])) (.s 2 (.op ((m:Int) + (↑(MX m (c - m)):Int)) Hk (.s 1 (.val 8 (zI ((m:Int) + (↑(MX m (c - m)):Int))) (zN (m + MX m (c - m))) (by (refine aO ?_; (omega))) (.blk 0 0 (Blk.mk (aj (map dB (ce v c m)) m (map dB (take (MX m (c - m)) (take m (ce v c m))))) 5 true) (Blk.mk (map dB (ce v c (m + MX m (c - m)))) 5 true) (by ( have h9:=fv (v:=v) (c:=c) (m:=m) om; have h8:=mn m (c - m); refine aC (Et om om))) (Hn.next next1 ⟨(m + MX m (c - m)),Hk,⟨⟩⟩ (by show c - (m + MX m (c - m)) < c - m; clear next1 last1; ( have h9:=fv (v:=v) (c:=c) (m:=m) om; have h8:=mn m (c - m); omega)) [(0,0)] ro)))))))))))))) (fun p0=>have p0f:=aU p0; (.blk 0 0 (Blk.mk (map dB (ce v c m)) 5 true) (Blk.mk (map dB (replicate c v)) 5 true) (by (rw [show m = c from by (omega)]; unfold ce; simp; done)) (Hn.last last1 0 (():Unit) rfl [(0,0)] ro)))))) (fun | ⟨m,hm,_⟩=>by kernel_rfl) ⟨(1),om,⟨⟩⟩ [(176,176)] ro (cb (fun | ()=>(.s 2 (.out [0] [0] (D.ref 0 0 0 c 1) [Blk.mk (map dB (replicate c v)) 5 true] R (ok _ _ wr wr))))))))))))))))))))))) (by kernel_rfl)
def cN:List UInt8:=Md 144 8 ++ Md 112 9 ++ Md 24 7 ++ Md 8 8
def fw:List UInt8:=Md 32 5
theorem Hm (R:List UInt8) (hR:R = Md 144 8):SpecH false Tryz.prog 105 [.sl true 1 1 [.v (.int .u8 8)],iD 144] [] (.ref 0 0 0 144 1) [⟨R.map dB, 5, true⟩]:=by
 subst hR; exact qt true 8 144 (by decide)
theorem Ho (R:List UInt8) (hR:R = Md 112 9):SpecH false Tryz.prog 105 [.sl true 1 1 [.v (.int .u8 9)],iD 112] [] (.ref 0 0 0 112 1) [⟨R.map dB, 5, true⟩]:=by
 subst hR; exact qt true 9 112 (by decide)
theorem Hp (R:List UInt8) (hR:R = Md 24 7):SpecH false Tryz.prog 105 [.sl true 1 1 [.v (.int .u8 7)],iD 24] [] (.ref 0 0 0 24 1) [⟨R.map dB, 5, true⟩]:=by
 subst hR; exact qt true 7 24 (by decide)
theorem Hq (R:List UInt8) (hR:R = Md 8 8):SpecH false Tryz.prog 105 [.sl true 1 1 [.v (.int .u8 8)],iD 8] [] (.ref 0 0 0 8 1) [⟨R.map dB, 5, true⟩]:=by
 subst hR; exact qt true 8 8 (by decide)
theorem Hr (R:List UInt8) (hR:R = Md 32 5):SpecH false Tryz.prog 105 [.sl true 1 1 [.v (.int .u8 5)],iD 32] [] (.ref 0 0 0 32 1) [⟨R.map dB, 5, true⟩]:=by
 subst hR; exact qt true 5 32 (by decide)
theorem zJ (R1 R2 R3 R4 R5:List UInt8) (h1:R1 = Md 144 8) (h2:R2 = Md 112 9) (h3:R3 = Md 24 7) (h4:R4 = Md 8 8) (h5:R5 = Md 32 5):SpecH false Tryz.prog 86 [] [] (.tup [.ref 0 0 0 288 1,.ref 1 1 0 32 1]) [⟨(R1 ++ R2 ++ R3 ++ R4).map dB, 5, true⟩,⟨R5.map dB, 5, true⟩]:=by
 have l1:R1.length = 144:=by rw [h1,Mu]
 have l2:R2.length = 112:=by rw [h2,Mu]
 have l3:R3.length = 24:=by rw [h3,Mu]
 have l4:R4.length = 8:=by rw [h4,Mu]
 have l5:R5.length = 32:=by rw [h5,Mu]
 refine SpecH.run T_ok ai Tryz.func86 rfl rfl rfl ⟨aW _,aW _,trivial⟩ rfl 1000 64 (fun R ok=>(.s 5 (.cl 105 false [] (.fn wN (@Hm (R1) bu)) (.s 3 (.cl 105 false [] (.fn wN (@Ho (R2) bu)) (.s 3 (.cl 105 false [] (.fn wN (@Hp (R3) bu)) (.s 3 (.cl 105 false [] (.fn wN (@Hq (R4) bu)) (.s 165 (.chk (true && (true && LX 144 (length (map dB R1))) && true && true && true) (by (simp <;> (omega))) (.s 17 (.chk (true && LV 144 (length (bif true && LV 144 (length (map dB R1)) then map dB R1 else take 144 (drop 0 (map dB R1)))) && true && (true && LX 112 (length (map dB R2))) && true && true && true) (by (simp_all; done)) (.s 17 (.chk (true && LV 256 (length ((bif true && LV 144 (length (map dB R1)) then map dB R1 else take 144 (drop 0 (map dB R1))) ++ bif true && LV 112 (length (map dB R2)) then map dB R2 else take 112 (drop 0 (map dB R2)))) && true && (true && LX 24 (length (map dB R3))) && true && true && true) (by (simp_all; done)) (.s 17 (.chk (true && LV 280 (length (((bif true && LV 144 (length (map dB R1)) then map dB R1 else take 144 (drop 0 (map dB R1))) ++ bif true && LV 112 (length (map dB R2)) then map dB R2 else take 112 (drop 0 (map dB R2))) ++ bif true && LV 24 (length (map dB R3)) then map dB R3 else take 24 (drop 0 (map dB R3)))) && true && (true && LX 8 (length (map dB R4))) && true && true && true) (by (simp_all; done)) (.s 15 (.cl 105 false [] (.fn wN (@Hr (R5) bu)) (.s 2 (.out [1112,1272] [1112,1272] (D.tup [D.ref 0 0 0 288 1,D.ref 1 1 0 32 1]) [Blk.mk ((((bif true && LV 144 (length (map dB R1)) then map dB R1 else take 144 (drop 0 (map dB R1))) ++ bif true && LV 112 (length (map dB R2)) then map dB R2 else take 112 (drop 0 (map dB R2))) ++ bif true && LV 24 (length (map dB R3)) then map dB R3 else take 24 (drop 0 (map dB R3))) ++ bif true && LV 8 (length (map dB R4)) then map dB R4 else take 8 (drop 0 (map dB R4))) 5 true,Blk.mk (map dB R5) 5 true] R (ok _ _ wr (by (simp_all; done)))))))))))))))))))))))) (by kernel_rfl)
theorem kB (L F:List UInt8) (hL:L = cN) (hF:F = fw):SpecH false Tryz.prog 86 [] [] (.tup [.ref 0 0 0 288 1,.ref 1 1 0 32 1]) [⟨L.map dB, 5, true⟩,⟨F.map dB, 5, true⟩]:=by
 subst hL hF; exact zJ _ _ _ _ _ rfl rfl rfl rfl rfl
theorem zK  : SpecH false Tryz.prog 111 [] [] (.agg ([16,17,18,0,8,7,9,6,10,5,11,4,12,3,13,2,14,1,15].map nD)) []:=by
 refine SpecH.run T_ok ai Tryz.func111 rfl rfl rfl trivial rfl 1000 64 (fun R ok=>(.s 10 (.out [] [] (D.agg [zI 16,zI 17,zI 18,zI 0,zI 8,zI 7,zI 9,zI 6,zI 10,zI 5,zI 11,zI 4,zI 12,zI 3,zI 13,zI 2,zI 14,zI 1,zI 15]) [] R (ok _ _ (by (simp; done)) wr)))) (by kernel_rfl)
theorem I2 {p:Prop} (h:p:=by (refine aO ?_; (omega))):p:=h
theorem LG {p:Prop} (h:p:=by ((refine aH ?_ ?_) <;> (repeat' (first | (refine aH ?_ ?_) | (with_reducible rfl) | (refine decide_eq_true ?_) | (refine L2 ?_) | (refine eu ?_))) <;> (omega))):p:=h
def qu (at' : Nat):Nat:=lk [()] ((8 - (at' + 3) % 8) % 8)
theorem kC (at' : Nat):qu at' = (8 - (at' + 3) % 8) % 8:=aF _ _
def Hs (x:UInt8):Nm:=⟨x.toNat,8⟩
def mb (e k:Nat):List Nm:=[⟨e,1⟩,⟨k,2⟩]
def I3 (e a r:Nat):List Nm:=[⟨e,1⟩,⟨0,2⟩,⟨0,qu a⟩,⟨r,16⟩,⟨65535 - r,16⟩]
def mq (e a:Nat) (raw:List UInt8) (i:Nat):List Nm:=lk raw (I3 e a raw.length ++ (raw.take i).map Hs)
theorem fX (e a:Nat) (raw:List UInt8) (i:Nat):mq e a raw i = I3 e a raw.length ++ (raw.take i).map Hs:=aF _ _
def ot (e a:Nat) (raw:List UInt8):List Nm:=mq e a raw raw.length
theorem iS {e a:Nat} {raw:List UInt8} {i:Nat} (h:i ≤ raw.length):(mq e a raw i).length = 5 + i:=by
 rw [fX,LZ,Ma,L5,Pf h]; rfl
theorem Ht {e a:Nat} {raw:List UInt8} {i:Nat} (h:i < raw.length):(mq e a raw (i + 1)).flatMap aV = (mq e a raw i).flatMap aV ++ aV ⟨(raw.getD i jk).toNat,8⟩:=by
 have e1:raw.take (i + 1) = raw.take i ++ [raw.getD i jk]:=by
  rw [Mw h,List.getD_eq_getElem?_getD,List.getElem?_eq_getElem h]; rfl
 rw [fX,fX,e1,MJ,← Mo,b9]; rfl
theorem Hu {e a:Nat} {raw:List UInt8}:(mq e a raw 0).flatMap aV = [cT e,nD 1,cT 0,nD 2,cT 0,nD (qu a),cT raw.length,nD 16,cT (65535 - raw.length),nD 16]:=by
 rw [fX]; rfl
theorem Cs {e a:Nat} {raw:List UInt8} {r:Nat} {x y:Int} (hr:r = raw.length) (hx:x = (qu a:Int)) (hy:y = ((65535 - r:Nat):Int)):[D.v (.int .u32 (e:Int)),D.v (.int .i64 1),D.v (.int .u32 0),D.v (.int .i64 2),D.v (.int .u32 0),D.v (.int .i64 x),D.v (.int .u32 (r:Int)),D.v (.int .i64 16),D.v (.int .u32 y),D.v (.int .i64 16)] = (mq e a raw 0).flatMap aV:=by
 subst hr hx hy; exact Hu.symm
theorem Ct {e a:Nat} {raw:List UInt8} {i u:Nat} (hu:u = i) (h:i < raw.length):(mq e a raw i).flatMap aV ++ [D.v (.int .u32 (((raw.getD u jk).toNat:Nat):Int)),D.v (.int .i64 8)] = (mq e a raw (i + 1)).flatMap aV:=by
 subst hu; exact (Ht h).symm
theorem Hv (k:Nat) (cs:List D) (hcs:cs.length = k * 3) (a:Nat) (ha:a ≤ 7) (raw:List UInt8) (r:Nat) (hr:r = raw.length) (hr2:r ≤ 65535) (L F:List UInt8) (hL:L = cN) (hF:F = fw):SpecH false Tryz.prog 65 [nD a,ga 0,.sl false r 1 (raw.map dB),.sl false k 3 cs,.v (.bool true)] [] (.ptr 0 0 0) [⟨[.ref 1 1 0 (5 + r) 2], 123, false⟩,⟨(ot 1 a raw).flatMap aV, 126, true⟩]:=by
 refine SpecH.run T_ok ai Tryz.func65 rfl rfl rfl ⟨rfl,ej (fun _=>rfl) _,trivial⟩ rfl 1000 64 (fun R ok=>(.s 43 (.cl 86 false [] (.fn IX (@kB (L) (F) bu bu)) (.s 21 (.ow ((a:Int) + 3) (.s 2 (.opt (bj Mi (Np ((a:Int) + 3) 8)) (zI (((a:Int) + 3) % 8)) (ay (@bN  ((a:Int) + 3) (8) om)) (.s 2 (.ow (8 - ((a:Int) + 3) % 8) (.s 2 (.opt (bj Mi (Np (8 - ((a:Int) + 3) % 8) 8)) (zI ((8 - ((a:Int) + 3) % 8) % 8)) (ay (@bN  (8 - ((a:Int) + 3) % 8) (8) om)) (.s 5 (.opt (az .u32 (r:Int)) (ah r) (aB om) (.s 6 (.ow (65535 - (r:Int)) (.s 1 (.opt (az .u32 (65535 - (r:Int))) (uI (65535 - (r:Int))) (aB om) (.s 28 (.blk 560 560 (Blk.mk [uI 1,zI 1,uI 0,zI 2,uI 0,zI ((8 - ((a:Int) + 3) % 8) % 8),ah r,zI 16,uI (65535 - (r:Int)),zI 16] 126 true) (Blk.mk (flatMap aV (mq 1 a raw 0)) 126 true) (by ( refine aC (Cs (e:=1) hr ?_ ?_) <;> (try rw [kC]) <;> omega)) (Hn.inl T_ok ai false 39 368 (aA Tryz.prog 87 0) (fun (x:(i:Nat) ×' (hi:i ≤ r) ×' Unit)=>match x with | ⟨i,hi,_⟩=>CutS.mk [(0,D.ptr 16 16 0),(26,D.sl false r 1 (map dB raw)),(27,zN r),(28,nD i)] [⟨16,16,16,16,.b ⟨[(D.ref 400 400 (0) (5 + i) 2)],123,false⟩⟩,⟨104,104,104,104,.b ⟨[uI 1,zI 1,uI 0,zI 2],126,false⟩⟩,⟨264,264,264,264,.b ⟨map dB L,5,true⟩⟩,⟨265,265,265,265,.b ⟨map dB F,5,true⟩⟩,⟨400,400,560,560,.b ⟨(mq 1 a raw i).flatMap aV,126,true⟩⟩] 408) (fun (x:(i:Nat) ×' (hi:i ≤ r) ×' Unit)=>match x with | ⟨i,hi,_⟩=>r - i) [⟨Unit,.exit 0,fun x=>match x with | ()=>CutS.mk [(0,D.ptr 16 16 0),(26,D.sl false r 1 (map dB raw)),(27,zN r),(28,nD r)] [⟨16,16,16,16,.b ⟨[(D.ref 400 400 (0) (5 + r) 2)],123,false⟩⟩,⟨104,104,104,104,.b ⟨[uI 1,zI 1,uI 0,zI 2],126,false⟩⟩,⟨264,264,264,264,.b ⟨map dB L,5,true⟩⟩,⟨265,265,265,265,.b ⟨map dB F,5,true⟩⟩,⟨400,400,560,560,.b ⟨(ot 1 a raw).flatMap aV,126,true⟩⟩] 408⟩] 1000 64 (fun | ⟨i,hi,_⟩,Q,next1,last1=>(.s 2 (.br (decide ((i:Int) < (r:Int))) (fun p0=>have p0f:=aT p0; (.s 1 (.chk (true && decide ((i:Int) < (r:Int)) && true) LG (.s 2 (.opt ((map dB raw)[i * 1]?) (dB (getD raw (i * 1) jk)) (av _ _ om) (.s 4 (.opt (az .u32 (↑(LW (getD raw (i * 1) jk)):Int)) (ah (LW (getD raw (i * 1) jk))) (aB (by (exact fV _ (by decide) (by decide)))) (.s 17 (.chk (true && LV ((5 + i) * 2) (length (flatMap aV (mq 1 a raw i))) && true && true && true && true && LX ((5 + i + 1) * 16) 140737488355328) (by ( simp only [b8,iS (raw:=raw) (e:=1) (a:=a) (i:=i) om,M0,Ml,Mp]; refine L2 ?_; omega)) (.s 9 (.ow ((i:Int) + 1) (.s 1 (.val 28 (zI ((i:Int) + 1)) (zN (i + 1)) I2 (.blk 16 16 (Blk.mk [D.ref 536 536 0 (5 + i + 1) 2] 123 false) (Blk.mk [D.ref 536 536 0 (5 + (i + 1)) 2] 123 false) (by (simp <;> (omega))) (.blk 536 536 (Blk.mk (flatMap aV (mq 1 a raw i) ++ [ah (LW (getD raw (i * 1) jk)),zI 8]) 126 true) (Blk.mk (flatMap aV (mq 1 a raw (i + 1))) 126 true) (by ( refine aC (Ct om om))) (Hn.next next1 ⟨(i + 1),om,⟨⟩⟩ (by show r - (i + 1) < r - i; clear next1 last1; omega) [(16,16),(104,104),(264,264),(265,265),(536,536)] ro)))))))))))))))) (fun p0=>have p0f:=aU p0; (.val 28 (zN i) (zN r) I2 (.blk 16 16 (Blk.mk [D.ref 400 400 0 (5 + i) 2] 123 false) (Blk.mk [D.ref 400 400 0 (5 + r) 2] 123 false) (by (simp <;> (omega))) (.blk 400 400 (Blk.mk (flatMap aV (mq 1 a raw i)) 126 true) (Blk.mk (flatMap aV (ot 1 a raw)) 126 true) (by ( rw [show i = raw.length from by omega]; rfl)) (Hn.last last1 0 (():Unit) rfl [(16,16),(104,104),(264,264),(265,265),(400,400)] ro)))))))) (fun | ⟨i,hi,_⟩=>by kernel_rfl) ⟨(0),om,⟨⟩⟩ [(16,16),(104,104),(264,264),(265,265),(560,560)] ro (cb (fun | ()=>(.s 2 (.out [16,400] [16,400] (D.ptr 0 0 0) [Blk.mk [D.ref 1 1 0 (5 + r) 2] 123 false,Blk.mk (flatMap aV (ot 1 a raw)) 126 true] R (ok _ _ wr wr))))))))))))))))))))))))) (by kernel_rfl)
theorem Hw (k:Nat) (cs:List D) (hcs:cs.length = k * 3) (a:Nat) (ha:a ≤ 7) (raw:List UInt8) (r:Nat) (hr:r = raw.length) (hr2:r ≤ 65535) (L F:List UInt8) (hL:L = cN) (hF:F = fw):SpecH false Tryz.prog 65 [nD a,ga 0,.sl false r 1 (raw.map dB),.sl false k 3 cs,.v (.bool false)] [] (.ptr 0 0 0) [⟨[.ref 1 1 0 (5 + r) 2], 123, false⟩,⟨(ot 0 a raw).flatMap aV, 126, true⟩]:=by
 refine SpecH.run T_ok ai Tryz.func65 rfl rfl rfl ⟨rfl,ej (fun _=>rfl) _,trivial⟩ rfl 1000 64 (fun R ok=>(.s 42 (.cl 86 false [] (.fn IX (@kB (L) (F) bu bu)) (.s 21 (.ow ((a:Int) + 3) (.s 2 (.opt (bj Mi (Np ((a:Int) + 3) 8)) (zI (((a:Int) + 3) % 8)) (ay (@bN  ((a:Int) + 3) (8) om)) (.s 2 (.ow (8 - ((a:Int) + 3) % 8) (.s 2 (.opt (bj Mi (Np (8 - ((a:Int) + 3) % 8) 8)) (zI ((8 - ((a:Int) + 3) % 8) % 8)) (ay (@bN  (8 - ((a:Int) + 3) % 8) (8) om)) (.s 5 (.opt (az .u32 (r:Int)) (ah r) (aB om) (.s 6 (.ow (65535 - (r:Int)) (.s 1 (.opt (az .u32 (65535 - (r:Int))) (uI (65535 - (r:Int))) (aB om) (.s 28 (.blk 552 552 (Blk.mk [uI 0,zI 1,uI 0,zI 2,uI 0,zI ((8 - ((a:Int) + 3) % 8) % 8),ah r,zI 16,uI (65535 - (r:Int)),zI 16] 126 true) (Blk.mk (flatMap aV (mq 0 a raw 0)) 126 true) (by ( refine aC (Cs (e:=0) hr ?_ ?_) <;> (try rw [kC]) <;> omega)) (Hn.inl T_ok ai false 39 360 (aA Tryz.prog 87 0) (fun (x:(i:Nat) ×' (hi:i ≤ r) ×' Unit)=>match x with | ⟨i,hi,_⟩=>CutS.mk [(0,D.ptr 16 16 0),(26,D.sl false r 1 (map dB raw)),(27,zN r),(28,nD i)] [⟨16,16,16,16,.b ⟨[(D.ref 392 392 (0) (5 + i) 2)],123,false⟩⟩,⟨96,96,96,96,.b ⟨[uI 0,zI 1,uI 0,zI 2],126,false⟩⟩,⟨256,256,256,256,.b ⟨map dB L,5,true⟩⟩,⟨257,257,257,257,.b ⟨map dB F,5,true⟩⟩,⟨392,392,552,552,.b ⟨(mq 0 a raw i).flatMap aV,126,true⟩⟩] 400) (fun (x:(i:Nat) ×' (hi:i ≤ r) ×' Unit)=>match x with | ⟨i,hi,_⟩=>r - i) [⟨Unit,.exit 0,fun x=>match x with | ()=>CutS.mk [(0,D.ptr 16 16 0),(26,D.sl false r 1 (map dB raw)),(27,zN r),(28,nD r)] [⟨16,16,16,16,.b ⟨[(D.ref 392 392 (0) (5 + r) 2)],123,false⟩⟩,⟨96,96,96,96,.b ⟨[uI 0,zI 1,uI 0,zI 2],126,false⟩⟩,⟨256,256,256,256,.b ⟨map dB L,5,true⟩⟩,⟨257,257,257,257,.b ⟨map dB F,5,true⟩⟩,⟨392,392,552,552,.b ⟨(ot 0 a raw).flatMap aV,126,true⟩⟩] 400⟩] 1000 64 (fun | ⟨i,hi,_⟩,Q,next1,last1=>(.s 2 (.br (decide ((i:Int) < (r:Int))) (fun p0=>have p0f:=aT p0; (.s 1 (.chk (true && decide ((i:Int) < (r:Int)) && true) LG (.s 2 (.opt ((map dB raw)[i * 1]?) (dB (getD raw (i * 1) jk)) (av _ _ om) (.s 4 (.opt (az .u32 (↑(LW (getD raw (i * 1) jk)):Int)) (ah (LW (getD raw (i * 1) jk))) (aB (by (exact fV _ (by decide) (by decide)))) (.s 17 (.chk (true && LV ((5 + i) * 2) (length (flatMap aV (mq 0 a raw i))) && true && true && true && true && LX ((5 + i + 1) * 16) 140737488355328) (by ( simp only [b8,iS (raw:=raw) (e:=0) (a:=a) (i:=i) om,M0,Ml,Mp]; refine L2 ?_; omega)) (.s 9 (.ow ((i:Int) + 1) (.s 1 (.val 28 (zI ((i:Int) + 1)) (zN (i + 1)) I2 (.blk 16 16 (Blk.mk [D.ref 528 528 0 (5 + i + 1) 2] 123 false) (Blk.mk [D.ref 528 528 0 (5 + (i + 1)) 2] 123 false) (by (simp <;> (omega))) (.blk 528 528 (Blk.mk (flatMap aV (mq 0 a raw i) ++ [ah (LW (getD raw (i * 1) jk)),zI 8]) 126 true) (Blk.mk (flatMap aV (mq 0 a raw (i + 1))) 126 true) (by ( refine aC (Ct om om))) (Hn.next next1 ⟨(i + 1),om,⟨⟩⟩ (by show r - (i + 1) < r - i; clear next1 last1; omega) [(16,16),(96,96),(256,256),(257,257),(528,528)] ro)))))))))))))))) (fun p0=>have p0f:=aU p0; (.val 28 (zN i) (zN r) I2 (.blk 16 16 (Blk.mk [D.ref 392 392 0 (5 + i) 2] 123 false) (Blk.mk [D.ref 392 392 0 (5 + r) 2] 123 false) (by (simp <;> (omega))) (.blk 392 392 (Blk.mk (flatMap aV (mq 0 a raw i)) 126 true) (Blk.mk (flatMap aV (ot 0 a raw)) 126 true) (by ( rw [show i = raw.length from by omega]; rfl)) (Hn.last last1 0 (():Unit) rfl [(16,16),(96,96),(256,256),(257,257),(392,392)] ro)))))))) (fun | ⟨i,hi,_⟩=>by kernel_rfl) ⟨(0),om,⟨⟩⟩ [(16,16),(96,96),(256,256),(257,257),(552,552)] ro (cb (fun | ()=>(.s 2 (.out [16,392] [16,392] (D.ptr 0 0 0) [Blk.mk [D.ref 1 1 0 (5 + r) 2] 123 false,Blk.mk (flatMap aV (ot 0 a raw)) 126 true] R (ok _ _ wr wr))))))))))))))))))))))))) (by kernel_rfl)
end Vp
end Go.Proofs.YtefjnofhgkjpmaaGreat
namespace Go.Proofs.YtefjnofhgkjpmaaGreat
open Go.RowKit Go.Bw Go.Vx
open List (length getD map take drop flatMap replicate)
namespace Vp
theorem iv {p:Prop} (h:p:=by ( have h9:=hl i; have h5:=MP (l.getD i jk).lit; have h2:=bE hT1 hT2 (hl i); have h8:=okL (l.getD i jk).lit.toNat; have h4:=okL (257 + ao T1 (l.getD i jk).long); have h3:=okF (ao T2 (l.getD i jk).dist); have g1:=hz1 (ao T1 (l.getD i jk).long); have g2:=hz2 (ao T2 (l.getD i jk).dist); have g3:=okL 256; have h7:=bT (T1:=T1) (T2:=T2) (A:=af L) (B:=af F) (H:=H) (l:=l) i om; unfold dq at h9; omega)):p:=h
theorem mr {p:Prop} (h:p:=by ( have h9:=hl 0; have h5:=MP (l.getD 0 jk).lit; have h2:=bE hT1 hT2 (hl 0); have h8:=okL (l.getD 0 jk).lit.toNat; have h4:=okL (257 + ao T1 (l.getD 0 jk).long); have h3:=okF (ao T2 (l.getD 0 jk).dist); have g1:=hz1 (ao T1 (l.getD 0 jk).long); have g2:=hz2 (ao T2 (l.getD 0 jk).dist); have g3:=okL 256; have h7:=bT (T1:=T1) (T2:=T2) (A:=af L) (B:=af F) (H:=H) (l:=l) 0 om; unfold dq at h9; omega)):p:=h
theorem zL {p:Prop} (h:p:=by (exact L0 (okL _).1 (by decide))):p:=h
theorem Cu {p:Prop} (h:p:=by cases d <;> repeat' first | exact trivial | exact rfl | exact (fun _=>aS _) | exact (fun _=>by assumption) | exact (fun _=>bS _ (fun _=>rfl) _) | exact (fun _=>da (fun _=>rfl) _) | (intro h; cases h; done) | (intro _; rfl) | (intro _; exact cG _ (bS _ (fun _=>rfl) _)) | exact jl _ (bS _ (fun _=>rfl) _) | refine Mb ?_ ?_ | refine fR ?_ ?_ | (intro _; refine cW ?_ ?_) | refine cW ?_ ?_ | (intro _; refine gv ?_ ?_) | exact cG _ (bS _ (fun _=>rfl) _) | exact bS _ (fun _=>rfl) _):p:=h
theorem Fm {p:Prop} (h:p:=by ( rw [show i = k from by omega])):p:=h
theorem I4 {p:Prop} (h:p:=by (rw [eQ]; have h5:=MP (l.getD 0 jk).lit;  refine L2 ?_; omega)):p:=h
theorem I5 {p:Prop} (h:p:=by ( have h7:=bT (T1:=T1) (T2:=T2) (A:=af L) (B:=af F) (H:=H) (l:=l) i om; simp only [LZ,b8,Mr,NI,Ml,Mp,LY,MU,MS]; omega)):p:=h
theorem I6 {p:Prop} (h:p:=by ( have h7:=bT (T1:=T1) (T2:=T2) (A:=af L) (B:=af F) (H:=H) (l:=l) i om; simp only [b8,M0,Ml,Mp]; refine L2 ?_; omega)):p:=h
theorem I7 {p:Prop} (h:p:=by (refine aO ?_; (omega))):p:=h
theorem I8 {p:Prop} (h:p:=by show k - (i + 1) < k - i; clear next1 last1; omega):p:=h
theorem zM {p:Prop} (h:p:=by (refine decide_eq_true ?_;  have h9:=hl i; have h5:=MP (l.getD i jk).lit; have h2:=bE hT1 hT2 (hl i); have h8:=okL (l.getD i jk).lit.toNat; have h4:=okL (257 + ao T1 (l.getD i jk).long); have h3:=okF (ao T2 (l.getD i jk).dist); have g1:=hz1 (ao T1 (l.getD i jk).long); have g2:=hz2 (ao T2 (l.getD i jk).dist); have g3:=okL 256; have h7:=bT (T1:=T1) (T2:=T2) (A:=af L) (B:=af F) (H:=H) (l:=l) i om; unfold dq at h9; omega)):p:=h
theorem zO {p:Prop} (h:p:=by (rw [eQ]; have h2:=bE hT1 hT2 (hl i);  refine L2 ?_; omega)):p:=h
theorem Eu {p:Prop} (h:p:=by (rw [ci]; refine L2 ?_; (omega))):p:=h
theorem Ew {p:Prop} (h:p:=by (exact fV _ (by decide) (by decide))):p:=h
theorem Ex {p:Prop} (h:p:=by (refine decide_eq_true ?_;  have h9:=hl 0; have h5:=MP (l.getD 0 jk).lit; have h2:=bE hT1 hT2 (hl 0); have h8:=okL (l.getD 0 jk).lit.toNat; have h4:=okL (257 + ao T1 (l.getD 0 jk).long); have h3:=okF (ao T2 (l.getD 0 jk).dist); have g1:=hz1 (ao T1 (l.getD 0 jk).long); have g2:=hz2 (ao T2 (l.getD 0 jk).dist); have g3:=okL 256; have h7:=bT (T1:=T1) (T2:=T2) (A:=af L) (B:=af F) (H:=H) (l:=l) 0 om; unfold dq at h9; omega)):p:=h
theorem Ey {p:Prop} (h:p:=by (exact L0 (okF _).1 (by decide))):p:=h
theorem Hx {p:Prop} (h:p:=by (simp;  have h9:=hl 0; have h5:=MP (l.getD 0 jk).lit; have h2:=bE hT1 hT2 (hl 0); have h8:=okL (l.getD 0 jk).lit.toNat; have h4:=okL (257 + ao T1 (l.getD 0 jk).long); have h3:=okF (ao T2 (l.getD 0 jk).dist); have g1:=hz1 (ao T1 (l.getD 0 jk).long); have g2:=hz2 (ao T2 (l.getD 0 jk).dist); have g3:=okL 256; have h7:=bT (T1:=T1) (T2:=T2) (A:=af L) (B:=af F) (H:=H) (l:=l) 0 om; unfold dq at h9; omega)):p:=h
theorem Hy {p:Prop} (h:p:=by exact (Mb (D.sim.slw rfl (bg (by (simp;  have h9:=hl 0; have h5:=MP (l.getD 0 jk).lit; have h2:=bE hT1 hT2 (hl 0); have h8:=okL (l.getD 0 jk).lit.toNat; have h4:=okL (257 + ao T1 (l.getD 0 jk).long); have h3:=okF (ao T2 (l.getD 0 jk).dist); have g1:=hz1 (ao T1 (l.getD 0 jk).long); have g2:=hz2 (ao T2 (l.getD 0 jk).dist); have g3:=okL 256; have h7:=bT (T1:=T1) (T2:=T2) (A:=af L) (B:=af F) (H:=H) (l:=l) 0 om; unfold dq at h9; omega)) |>.trans rfl)) (Mb (D.sim.refl _) trivial))):p:=h
theorem Hz {p:Prop} (h:p:=by (rw [Ml]; refine decide_eq_true ?_; have h5:=MP (l.getD i jk).lit; omega)):p:=h
theorem HA {p:Prop} (h:p:=by (rw [eQ]; refine L2 ?_; have h5:=MP (l.getD i jk).lit; (omega))):p:=h
theorem HC {p:Prop} (h:p:=by ( refine aC ?_; rw [fa om om,b9,b9,Mo]; rfl)):p:=h
theorem HD {p:Prop} (h:p:=by (have h7:=bT (T1:=T1) (T2:=T2) (A:=af L) (B:=af F) (H:=H) (l:=l) k om; simp only [b8,M0,Ml,Mp]; refine L2 ?_; omega)):p:=h
theorem HE {p:Prop} (h:p:=by (rw [eQ]; have h2:=bE hT1 hT2 (hl 0);  refine L2 ?_; omega)):p:=h
structure Tn where
 lit:UInt8
 dist:Nat
 long:Nat
 deriving Inhabited
abbrev ba (t:Tn):List D:=[dB t.lit,nD t.dist,nD t.long]
def dq (t:Tn):Prop:=t.long = 0 ∨ 3 ≤ t.long ∧ t.long ≤ 258 ∧ 1 ≤ t.dist ∧ t.dist ≤ 32768
theorem ci (l:List Tn):(l.flatMap ba).length = l.length * 3:=bn (k:=3) (fun _=>rfl) l
def gB (C:List (Nat × Nat)) (s n x:Nat):List Nm:=[⟨eP (C.getD s jk).1 (C.getD s jk).2,(C.getD s jk).2⟩,⟨x,n⟩]
def vr (T1 T2:List Sy) (A B:List (Nat × Nat)) (t:Tn):List Nm :=
 if t.long = 0 then gB A t.lit.toNat 0 0
 else gB A (257 + ao T1 t.long) (T1.getD (ao T1 t.long) jk).bits (t.long - (T1.getD (ao T1 t.long) jk).least) ++ gB B (ao T2 t.dist) (T2.getD (ao T2 t.dist) jk).bits (t.dist - (T2.getD (ao T2 t.dist) jk).least)
def aQ (T1 T2:List Sy) (A B:List (Nat × Nat)) (H:List Nm) (l:List Tn) (i:Nat):List Nm:=lk l (H ++ (l.take i).flatMap (vr T1 T2 A B))
section
variable {T1 T2:List Sy} {A B:List (Nat × Nat)} {H:List Nm} {l:List Tn} {i:Nat}
theorem fY:aQ T1 T2 A B H l i = H ++ (l.take i).flatMap (vr T1 T2 A B):=aF _ _
theorem gC:aQ T1 T2 A B H l 0 = H:=by rw [fY]; exact MN _
theorem xg (h:i < l.length):aQ T1 T2 A B H l (i + 1) = aQ T1 T2 A B H l i ++ vr T1 T2 A B (l.getD i jk):=by
 have e1:l.take (i + 1) = l.take i ++ [l.getD i jk]:=by
  rw [Mw h,List.getD_eq_getElem?_getD,List.getElem?_eq_getElem h]; rfl
 rw [fY,fY,e1,NA,← Mo,N6]
theorem zP (t:Tn):(vr T1 T2 A B t).length ≤ 4:=by 
 unfold vr; split
 ·show 2 ≤ 4; decide
 ·show 4 ≤ 4; decide
theorem bT:∀ i,i ≤ l.length → (aQ T1 T2 A B H l i).length ≤ H.length + 4 * i
 | 0,_=>by rw [gC]; omega
 | i + 1,h=>by
  rw [xg (by omega),LZ]
  have:=bT i (by omega)
  have:=zP (T1:=T1) (T2:=T2) (A:=A) (B:=B) (l.getD i jk)
  omega
theorem dS (h:i < l.length) (h0:(l.getD i jk).long = 0):aQ T1 T2 A B H l (i + 1) = aQ T1 T2 A B H l i ++ gB A (l.getD i jk).lit.toNat 0 0:=by
 rw [xg h,vr,if_pos h0]
theorem fa (h:i < l.length) (h0:(l.getD i jk).long ≠ 0):aQ T1 T2 A B H l (i + 1) = aQ T1 T2 A B H l i ++ (gB A (257 + ao T1 (l.getD i jk).long) (T1.getD (ao T1 (l.getD i jk).long) jk).bits ((l.getD i jk).long - (T1.getD (ao T1 (l.getD i jk).long) jk).least) ++ gB B (ao T2 (l.getD i jk).dist) (T2.getD (ao T2 (l.getD i jk).dist) jk).bits ((l.getD i jk).dist - (T2.getD (ao T2 (l.getD i jk).dist) jk).least)):=by
 rw [xg h,vr,if_neg h0]
end
theorem xh {T:List Sy} (hT:T = aJ) {n:Nat} (h:3 ≤ n ∧ n ≤ 258):ao T n < 29:=by
 subst hT
 rw [lD]
 exact wV (n:=n) (b:=259) aJ 29 0 3 rfl (by decide) h.1 (by omega)
theorem zQ {T:List Sy} (hT:T = a9) {n:Nat} (h:1 ≤ n ∧ n ≤ 32768):ao T n < 30:=by
 subst hT
 rw [lD]
 exact wV (n:=n) (b:=32769) a9 30 0 1 rfl (by decide) h.1 (by omega)
abbrev ck (c:Nat × Nat):List D:=[cT c.1,ga c.2]
theorem eQ (l:List (Nat × Nat)):(l.flatMap ck).length = l.length * 2:=bn (k:=2) (fun _=>rfl) l
theorem iT (l:List UInt8) (n:Nat) (hn:n = l.length) (m:Nat) (hm:1 ≤ m ∧ m ≤ 15) (hc:cM l m = 0):SpecH false Tryz.prog 112 [.sl false n 1 (l.map dB),nD m] [] (.tup [.ref 0 0 0 n 2,iD 0]) [⟨(af l).flatMap ck, 210, true⟩]:=zH l n hn m hm hc
theorem bE {T1 T2:List Sy} (hT1:T1 = aJ) (hT2:T2 = a9) {t:Tn} (h:dq t):t.long ≠ 0 → ao T1 t.long < 29 ∧ ao T2 t.dist < 30:=fun h0=>by
 unfold dq at h
 exact ⟨xh hT1 (by omega),zQ hT2 (by omega)⟩
def mc (C:List (Nat × Nat)):Prop:=∀ s,(C.getD s jk).2 ≤ 15 ∧ (C.getD s jk).1 < 2 ^ (C.getD s jk).2
theorem iq (T:List Sy) (hT:T = aJ) (hl:T.length = 29) (hz:bZ T) (n:Nat) (hn:n ≤ 40000) (hIk:ao T n < 29):SpecH false Tryz.prog 142 [nD n] [] (.tup [nD (257 + ao T n),nD (T.getD (ao T n) jk).bits,nD (n - (T.getD (ao T n) jk).least),iD 0]) []:=D5 T hT hl hz n hn _ rfl hIk
theorem lM (T:List Sy) (hT:T = a9) (hl:T.length = 30) (hz:bZ T) (n:Nat) (hn:n ≤ 40000) (hIk:ao T n < 30):SpecH false Tryz.prog 143 [nD n] [] (.tup [nD (ao T n),nD (T.getD (ao T n) jk).bits,nD (n - (T.getD (ao T n) jk).least),iD 0]) []:=by
 have q:=GX T hT hl hz n hn _ rfl hIk
 rwa [Mq] at q
def sh (b:Bool):Nat:=bif b then 8 else 0
theorem SpecH.run2 {τ:Sort _} (t:τ) {S0 S1:Prop} {C0 C1:τ → Prop} (f0:∀ t,C0 t → S0) (f1:∀ t,C1 t → S1) (h0:C0 t) (h1:C1 t):S0 ∧ S1:=⟨f0 t h0,f1 t h1⟩
theorem Cv (l:List Tn) (k:Nat) (hk:k = l.length) (hk2:k ≤ 65535) (hl:∀ i,dq (l.getD i jk)) (T1 T2:List Sy) (hT1:T1 = aJ) (hT2:T2 = a9) (hl1:T1.length = 29) (hl2:T2.length = 30) (hz1:bZ T1) (hz2:bZ T2) (L F:List UInt8) (hL:L = cN) (hF:F = fw) (hLl:L.length = 288) (hFl:F.length = 32) (hcL:cM L 15 = 0) (hcF:cM F 15 = 0) (hmL:(af L).length = 288) (hmF:(af F).length = 32) (okL:mc (af L)) (okF:mc (af F)) (a:Nat) (ha:a ≤ 7) (raw:List UInt8) (r:Nat) (hr:r = raw.length) (hr2:r ≤ 65535) (H:List Nm) (hH:H = mb 1 1) (hHl:H.length = 2) (H' : List Nm) (hH' : H' = mb 0 1) (hHl' : H'.length = 2):(SpecH false Tryz.prog 65 [nD a,ga 1,.sl false r 1 (raw.map dB),.sl false k 3 (l.flatMap ba),.v (.bool true)] [] (.ptr 0 0 0) [⟨[.ref 1 1 0 (aQ T1 T2 (af L) (af F) H l k ++ gB (af L) 256 0 0).length 2], 123, false⟩,⟨(aQ T1 T2 (af L) (af F) H l k ++ gB (af L) 256 0 0).flatMap aV, 126, true⟩]) ∧ (SpecH false Tryz.prog 65 [nD a,ga 1,.sl false r 1 (raw.map dB),.sl false k 3 (l.flatMap ba),.v (.bool false)] [] (.ptr 0 0 0) [⟨[.ref 1 1 0 (aQ T1 T2 (af L) (af F) H' l k ++ gB (af L) 256 0 0).length 2], 123, false⟩,⟨(aQ T1 T2 (af L) (af F) H' l k ++ gB (af L) 256 0 0).flatMap aV, 126, true⟩]):=by
 refine SpecH.run2 (fun (d:Bool) (e:Nat) (H:List Nm) (hH:H = mb e 1) (hHl:H.length = 2) (R:D → List Blk → Prop) (ok:∀ r' bs', r' = (.ptr 0 0 0) → bs' = [⟨[.ref 1 1 0 (aQ T1 T2 (af L) (af F) H l k ++ gB (af L) 256 0 0).length 2], 123, false⟩,⟨(aQ T1 T2 (af L) (af F) H l k ++ gB (af L) 256 0 0).flatMap aV, 126, true⟩] → R r' bs') =>  ((.cl 86 false [] (.fn IX (@kB (L) (F) bu bu)) (.s 26 (.call 112 false [] (true && (true && LX 288 (length (map dB L)) && true && ab (bif true && LV 288 (length (map dB L)) then map dB L else take 288 (drop 0 (map dB L)))) && true) Hx ([D.sl true 288 1 (bif true && LV 288 (length (map dB L)) then map dB L else take 288 (drop 0 (map dB L))),zI 15]) _ Hy (true) wr _ _ _ (CallOk.fn (aw.of Tryz.func112 rfl rfl) (@iT (L) (288) om (15) (by (simp; done)) om)) (.s 13 (.call 112 false [] (true && (true && LX 32 (length (map dB F)) && true && ab (bif true && LV 32 (length (map dB F)) then map dB F else take 32 (drop 0 (map dB F)))) && true) Hx ([D.sl true 32 1 (bif true && LV 32 (length (map dB F)) then map dB F else take 32 (drop 0 (map dB F))),zI 15]) _ Hy (true) wr _ _ _ (CallOk.fn (aw.of Tryz.func112 rfl rfl) (@iT (F) (32) om (15) (by (simp; done)) om)) (.s 18 (.two (.s 2 (.br (decide (0 < (k:Int))) (fun p0=>have p0f:=aT p0; (.s 1 (.chk (true && decide (0 < (k:Int)) && true) (by ((refine aH ?_ ?_) <;> (repeat' (first | (refine aH ?_ ?_) | (with_reducible rfl) | (refine decide_eq_true ?_) | (refine L2 ?_) | (refine eu ?_))) <;> (omega))) (.s 2 (.chk (LX 3 (length (flatMap ba l))) Eu (.lst (take 3 (drop 0 (flatMap ba l))) ([dQ (LW (Tn.lit (getD l 0 jk))),zN (Tn.dist (getD l 0 jk)),zN (Tn.long (getD l 0 jk))]) (aD (k:=3) (i:=0) (fun _=>rfl) om om) (.s 13 (.br ((↑(Tn.long (getD l 0 jk)):Int) == 0) (fun p1=>have p1f:=eq_of_beq p1; (.s 8 (.op (↑(LW (Tn.lit (getD l 0 jk))):Int) Ew (.s 18 (.chk (true && decide ((↑(LW (Tn.lit (getD l 0 jk))):Int) < (↑288:Int))) Ex (.s 2 (.chk (LX (0 + LW (Tn.lit (getD l 0 jk)) * 2 + 2) (length (flatMap ck (af L)))) I4 (.lst (take 2 (drop (0 + LW (Tn.lit (getD l 0 jk)) * 2) (flatMap ck (af L)))) ([ah (Mk (getD (af L) (LW (Tn.lit (getD l 0 jk))) jk)),dQ (L7 (getD (af L) (LW (Tn.lit (getD l 0 jk))) jk))]) (aD (k:=2) (i:=LW (Tn.lit (getD l 0 jk))) (fun _=>rfl) mr om) (.s 18 (.op (↑(L7 (getD (af L) (LW (Tn.lit (getD l 0 jk))) jk)):Int) mr (.s 1 (.cl 152 false [] (.fn dR (@bF (Mk (getD (af L) (LW (Tn.lit (getD l 0 jk))) jk)) (L7 (getD (af L) (LW (Tn.lit (getD l 0 jk))) jk)) zL (by (exact (okL _).2)))) (.s 16 (.op (↑(L7 (getD (af L) (LW (Tn.lit (getD l 0 jk))) jk)):Int) mr (.s 35 (.blk 16 16 (Blk.mk [D.ref (1008+sh d) (1008+sh d) 0 4 2] 123 false) (Blk.mk [D.ref (1008+sh d) (1008+sh d) 0 (length (aQ T1 T2 (af L) (af F) H l 1)) 2] 123 false) (by ( rw [dS (i:=0) om om,gC,hH]; rfl)) (.blk (1008+sh d) (1008+sh d) (Blk.mk [ah e,zI 1,uI 1,zI 2,ah (eP (Mk (getD (af L) (LW (Tn.lit (getD l 0 jk))) jk)) (L7 (getD (af L) (LW (Tn.lit (getD l 0 jk))) jk))),zN (L7 (getD (af L) (LW (Tn.lit (getD l 0 jk))) jk)),uI 0,zI 0] 126 true) (Blk.mk (flatMap aV (aQ T1 T2 (af L) (af F) H l 1)) 126 true) (by ( rw [dS (i:=0) om om,gC,hH]; rfl)) (Hn.inl T_ok ai false 53 (544+sh d) (aA Tryz.prog 106 0) (fun (x:(i:Nat) ×' (hi:1 ≤ i ∧ i ≤ k) ×' Unit)=>match x with | ⟨i,hi,_⟩=>CutS.mk [(1,D.fn (MB 115) [] [D.ptr (384+sh d) (384+sh d) 0,D.ptr (496+sh d) (496+sh d) 0,D.ptr (432+sh d) (432+sh d) 0]),(10,D.sl false k 3 (flatMap ba l)),(11,zN k),(12,nD i)] [⟨16,16,16,16,.b ⟨[(D.ref (616+sh d) (616+sh d) (0) ((aQ T1 T2 (af L) (af F) H l i).length) 2)],123,false⟩⟩,⟨(96+sh d),(96+sh d),(96+sh d),(96+sh d),.b ⟨[ah e,zI 1,uI 1,zI 2],126,false⟩⟩,⟨(256+sh d),(256+sh d),(256+sh d),(256+sh d),.b ⟨map dB L,5,true⟩⟩,⟨(257+sh d),(257+sh d),(257+sh d),(257+sh d),.b ⟨map dB F,5,true⟩⟩,⟨(384+sh d),(384+sh d),(384+sh d),(384+sh d),.b ⟨[D.ptr 16 16 0],105,false⟩⟩,⟨(400+sh d),(400+sh d),(400+sh d),(400+sh d),.b ⟨flatMap ck (af L),210,true⟩⟩,⟨(432+sh d),(432+sh d),(432+sh d),(432+sh d),.b ⟨[D.ref (400+sh d) (400+sh d) 0 288 2],189,false⟩⟩,⟨(464+sh d),(464+sh d),(464+sh d),(464+sh d),.b ⟨flatMap ck (af F),210,true⟩⟩,⟨(496+sh d),(496+sh d),(496+sh d),(496+sh d),.b ⟨[D.ref (464+sh d) (464+sh d) 0 32 2],189,false⟩⟩,⟨(616+sh d),(616+sh d),(1008+sh d),(1008+sh d),.b ⟨(aQ T1 T2 (af L) (af F) H l i).flatMap aV,126,true⟩⟩] (624+sh d)) (fun (x:(i:Nat) ×' (hi:1 ≤ i ∧ i ≤ k) ×' Unit)=>match x with | ⟨i,hi,_⟩=>k - i) [⟨Unit,.exit 0,fun x=>match x with | ()=>CutS.mk [(1,D.fn (MB 115) [] [D.ptr (384+sh d) (384+sh d) 0,D.ptr (496+sh d) (496+sh d) 0,D.ptr (432+sh d) (432+sh d) 0]),(10,D.sl false k 3 (flatMap ba l)),(11,zN k),(12,nD k)] [⟨16,16,16,16,.b ⟨[(D.ref (616+sh d) (616+sh d) (0) ((aQ T1 T2 (af L) (af F) H l k).length) 2)],123,false⟩⟩,⟨(96+sh d),(96+sh d),(96+sh d),(96+sh d),.b ⟨[ah e,zI 1,uI 1,zI 2],126,false⟩⟩,⟨(256+sh d),(256+sh d),(256+sh d),(256+sh d),.b ⟨map dB L,5,true⟩⟩,⟨(257+sh d),(257+sh d),(257+sh d),(257+sh d),.b ⟨map dB F,5,true⟩⟩,⟨(384+sh d),(384+sh d),(384+sh d),(384+sh d),.b ⟨[D.ptr 16 16 0],105,false⟩⟩,⟨(400+sh d),(400+sh d),(400+sh d),(400+sh d),.b ⟨flatMap ck (af L),210,true⟩⟩,⟨(432+sh d),(432+sh d),(432+sh d),(432+sh d),.b ⟨[D.ref (400+sh d) (400+sh d) 0 288 2],189,false⟩⟩,⟨(464+sh d),(464+sh d),(464+sh d),(464+sh d),.b ⟨flatMap ck (af F),210,true⟩⟩,⟨(496+sh d),(496+sh d),(496+sh d),(496+sh d),.b ⟨[D.ref (464+sh d) (464+sh d) 0 32 2],189,false⟩⟩,⟨(616+sh d),(616+sh d),(1008+sh d),(1008+sh d),.b ⟨(aQ T1 T2 (af L) (af F) H l k).flatMap aV,126,true⟩⟩] (624+sh d)⟩] 1000 64 (fun | ⟨i,hi,_⟩,Q,next1,last1=>(.s 2 (.br (decide ((i:Int) < (k:Int))) (fun p2=>have p2f:=aT p2; (.s 1 (.chk (true && decide ((i:Int) < (k:Int)) && true) I5 (.s 2 (.chk (LX (i * 3 + 3) (length (flatMap ba l))) Eu (.lst (take 3 (drop (i * 3) (flatMap ba l))) ([dQ (LW (Tn.lit (getD l i jk))),zN (Tn.dist (getD l i jk)),zN (Tn.long (getD l i jk))]) (aD (k:=3) (i:=i) (fun _=>rfl) om om) (.s 13 (.br ((↑(Tn.long (getD l i jk)):Int) == 0) (fun p3=>have p3f:=eq_of_beq p3; (.s 8 (.op (↑(LW (Tn.lit (getD l i jk))):Int) Ew (.s 18 (.chk (true && decide ((↑(LW (Tn.lit (getD l i jk))):Int) < (↑288:Int))) Hz (.s 2 (.chk (LX (0 + LW (Tn.lit (getD l i jk)) * 2 + 2) (length (flatMap ck (af L)))) HA (.lst (take 2 (drop (0 + LW (Tn.lit (getD l i jk)) * 2) (flatMap ck (af L)))) ([ah (Mk (getD (af L) (LW (Tn.lit (getD l i jk))) jk)),dQ (L7 (getD (af L) (LW (Tn.lit (getD l i jk))) jk))]) (aD (k:=2) (i:=LW (Tn.lit (getD l i jk))) (fun _=>rfl) iv om) (.s 18 (.op (↑(L7 (getD (af L) (LW (Tn.lit (getD l i jk))) jk)):Int) iv (.s 1 (.cl 152 false [] (.fn dR (@bF (Mk (getD (af L) (LW (Tn.lit (getD l i jk))) jk)) (L7 (getD (af L) (LW (Tn.lit (getD l i jk))) jk)) zL (by (exact (okL _).2)))) (.s 16 (.op (↑(L7 (getD (af L) (LW (Tn.lit (getD l i jk))) jk)):Int) iv (.s 23 (.chk (true && LV (length (aQ T1 T2 (af L) (af F) H l i) * 2) (length (flatMap aV (aQ T1 T2 (af L) (af F) H l i))) && true && true && true && true && LX ((length (aQ T1 T2 (af L) (af F) H l i) + 2) * 16) 140737488355328) I6 (.s 9 (.ow ((i:Int) + 1) (.s 1 (.val 12 (zI ((i:Int) + 1)) (zN (i + 1)) I7 (.blk 16 16 (Blk.mk [D.ref (1064+sh d) (1064+sh d) 0 (length (aQ T1 T2 (af L) (af F) H l i) + 2) 2] 123 false) (Blk.mk [D.ref (1064+sh d) (1064+sh d) 0 (length (aQ T1 T2 (af L) (af F) H l (i + 1))) 2] 123 false) (by ( rw [dS om om,LZ]; rfl)) (.blk (1064+sh d) (1064+sh d) (Blk.mk (flatMap aV (aQ T1 T2 (af L) (af F) H l i) ++ [ah (eP (Mk (getD (af L) (LW (Tn.lit (getD l i jk))) jk)) (L7 (getD (af L) (LW (Tn.lit (getD l i jk))) jk))),zN (L7 (getD (af L) (LW (Tn.lit (getD l i jk))) jk)),uI 0,zI 0]) 126 true) (Blk.mk (flatMap aV (aQ T1 T2 (af L) (af F) H l (i + 1))) 126 true) (by ( refine aC ?_; rw [dS om om,b9]; rfl)) (Hn.next next1 ⟨(i + 1),om,⟨⟩⟩ I8 [(16,16),((96+sh d),(96+sh d)),((256+sh d),(256+sh d)),((257+sh d),(257+sh d)),((384+sh d),(384+sh d)),((400+sh d),(400+sh d)),((432+sh d),(432+sh d)),((464+sh d),(464+sh d)),((496+sh d),(496+sh d)),((1064+sh d),(1064+sh d))] Cu))))))))))))))))))))))) (fun p3=>have p3f:=au p3; (.s 7 (.cl 142 false [] (.fn rW (@iq (T1) bu om om (Tn.long (getD l i jk)) iv iv)) (.s 35 (.chk (true && decide ((↑(257 + ao T1 (Tn.long (getD l i jk))):Int) < (↑288:Int))) zM (.s 2 (.chk (LX (0 + (257 + ao T1 (Tn.long (getD l i jk))) * 2 + 2) (length (flatMap ck (af L)))) zO (.lst (take 2 (drop (0 + (257 + ao T1 (Tn.long (getD l i jk))) * 2) (flatMap ck (af L)))) ([ah (Mk (getD (af L) (257 + ao T1 (Tn.long (getD l i jk))) jk)),dQ (L7 (getD (af L) (257 + ao T1 (Tn.long (getD l i jk))) jk))]) (aD (k:=2) (i:=257 + ao T1 (Tn.long (getD l i jk))) (fun _=>rfl) iv om) (.s 18 (.op (↑(L7 (getD (af L) (257 + ao T1 (Tn.long (getD l i jk))) jk)):Int) iv (.s 1 (.cl 152 false [] (.fn dR (@bF (Mk (getD (af L) (257 + ao T1 (Tn.long (getD l i jk))) jk)) (L7 (getD (af L) (257 + ao T1 (Tn.long (getD l i jk))) jk)) zL (by (exact (okL _).2)))) (.s 16 (.op (↑(L7 (getD (af L) (257 + ao T1 (Tn.long (getD l i jk))) jk)):Int) iv (.s 4 (.opt (az .u32 (↑(Tn.long (getD l i jk) - Sy.least (getD T1 (ao T1 (Tn.long (getD l i jk))) jk)):Int)) (ah (Tn.long (getD l i jk) - Sy.least (getD T1 (ao T1 (Tn.long (getD l i jk))) jk))) (aB iv) (.s 18 (.chk (true && LV (length (aQ T1 T2 (af L) (af F) H l i) * 2) (length (flatMap aV (aQ T1 T2 (af L) (af F) H l i))) && true && true && true && true && LX ((length (aQ T1 T2 (af L) (af F) H l i) + 2) * 16) 140737488355328) I6 (.s 14 (.cl 143 false [] (.fn rX (@lM (T2) bu om om (Tn.dist (getD l i jk)) iv iv)) (.s 34 (.chk (true && decide ((↑(ao T2 (Tn.dist (getD l i jk))):Int) < (↑32:Int))) zM (.s 2 (.chk (LX (0 + ao T2 (Tn.dist (getD l i jk)) * 2 + 2) (length (flatMap ck (af F)))) zO (.lst (take 2 (drop (0 + ao T2 (Tn.dist (getD l i jk)) * 2) (flatMap ck (af F)))) ([ah (Mk (getD (af F) (ao T2 (Tn.dist (getD l i jk))) jk)),dQ (L7 (getD (af F) (ao T2 (Tn.dist (getD l i jk))) jk))]) (aD (k:=2) (i:=ao T2 (Tn.dist (getD l i jk))) (fun _=>rfl) iv om) (.s 18 (.op (↑(L7 (getD (af F) (ao T2 (Tn.dist (getD l i jk))) jk)):Int) iv (.s 1 (.cl 152 false [] (.fn dR (@bF (Mk (getD (af F) (ao T2 (Tn.dist (getD l i jk))) jk)) (L7 (getD (af F) (ao T2 (Tn.dist (getD l i jk))) jk)) Ey (by (exact (okF _).2)))) (.s 16 (.op (↑(L7 (getD (af F) (ao T2 (Tn.dist (getD l i jk))) jk)):Int) iv (.s 4 (.opt (az .u32 (↑(Tn.dist (getD l i jk) - Sy.least (getD T2 (ao T2 (Tn.dist (getD l i jk))) jk)):Int)) (ah (Tn.dist (getD l i jk) - Sy.least (getD T2 (ao T2 (Tn.dist (getD l i jk))) jk))) (aB iv) (.s 18 (.chk (true && LV ((length (aQ T1 T2 (af L) (af F) H l i) + 2) * 2) (length (flatMap aV (aQ T1 T2 (af L) (af F) H l i) ++ [ah (eP (Mk (getD (af L) (257 + ao T1 (Tn.long (getD l i jk))) jk)) (L7 (getD (af L) (257 + ao T1 (Tn.long (getD l i jk))) jk))),zN (L7 (getD (af L) (257 + ao T1 (Tn.long (getD l i jk))) jk)),ah (Tn.long (getD l i jk) - Sy.least (getD T1 (ao T1 (Tn.long (getD l i jk))) jk)),zN (Sy.bits (getD T1 (ao T1 (Tn.long (getD l i jk))) jk))])) && true && true && true && true && LX ((length (aQ T1 T2 (af L) (af F) H l i) + 2 + 2) * 16) 140737488355328) I5 (.s 9 (.ow ((i:Int) + 1) (.s 1 (.val 12 (zI ((i:Int) + 1)) (zN (i + 1)) I7 (.blk 16 16 (Blk.mk [D.ref (1840+sh d) (1840+sh d) 0 (length (aQ T1 T2 (af L) (af F) H l i) + 2 + 2) 2] 123 false) (Blk.mk [D.ref (1840+sh d) (1840+sh d) 0 (length (aQ T1 T2 (af L) (af F) H l (i + 1))) 2] 123 false) (by ( rw [fa om om,LZ]; rfl)) (.blk (1840+sh d) (1840+sh d) (Blk.mk (flatMap aV (aQ T1 T2 (af L) (af F) H l i) ++ [ah (eP (Mk (getD (af L) (257 + ao T1 (Tn.long (getD l i jk))) jk)) (L7 (getD (af L) (257 + ao T1 (Tn.long (getD l i jk))) jk))),zN (L7 (getD (af L) (257 + ao T1 (Tn.long (getD l i jk))) jk)),ah (Tn.long (getD l i jk) - Sy.least (getD T1 (ao T1 (Tn.long (getD l i jk))) jk)),zN (Sy.bits (getD T1 (ao T1 (Tn.long (getD l i jk))) jk))] ++ [ah (eP (Mk (getD (af F) (ao T2 (Tn.dist (getD l i jk))) jk)) (L7 (getD (af F) (ao T2 (Tn.dist (getD l i jk))) jk))),zN (L7 (getD (af F) (ao T2 (Tn.dist (getD l i jk))) jk)),ah (Tn.dist (getD l i jk) - Sy.least (getD T2 (ao T2 (Tn.dist (getD l i jk))) jk)),zN (Sy.bits (getD T2 (ao T2 (Tn.dist (getD l i jk))) jk))]) 126 true) (Blk.mk (flatMap aV (aQ T1 T2 (af L) (af F) H l (i + 1))) 126 true) HC (Hn.next next1 ⟨(i + 1),om,⟨⟩⟩ I8 [(16,16),((96+sh d),(96+sh d)),((256+sh d),(256+sh d)),((257+sh d),(257+sh d)),((384+sh d),(384+sh d)),((400+sh d),(400+sh d)),((432+sh d),(432+sh d)),((464+sh d),(464+sh d)),((496+sh d),(496+sh d)),((1840+sh d),(1840+sh d))] Cu)))))))))))))))))))))))))))))))))))))))))))))))))) (fun p2=>have p2f:=aU p2; (.val 12 (zN i) (zN k) Fm (.blk 16 16 (Blk.mk [D.ref (616+sh d) (616+sh d) 0 (length (aQ T1 T2 (af L) (af F) H l i)) 2] 123 false) (Blk.mk [D.ref (616+sh d) (616+sh d) 0 (length (aQ T1 T2 (af L) (af F) H l k)) 2] 123 false) Fm (.blk (616+sh d) (616+sh d) (Blk.mk (flatMap aV (aQ T1 T2 (af L) (af F) H l i)) 126 true) (Blk.mk (flatMap aV (aQ T1 T2 (af L) (af F) H l k)) 126 true) Fm (Hn.last last1 0 (():Unit) rfl [(16,16),((96+sh d),(96+sh d)),((256+sh d),(256+sh d)),((257+sh d),(257+sh d)),((384+sh d),(384+sh d)),((400+sh d),(400+sh d)),((432+sh d),(432+sh d)),((464+sh d),(464+sh d)),((496+sh d),(496+sh d)),((616+sh d),(616+sh d))] Cu)))))))) (fun | ⟨i,hi,_⟩=>by cases d <;> kernel_rfl) ⟨(1),om,⟨⟩⟩ [(16,16),((96+sh d),(96+sh d)),((256+sh d),(256+sh d)),((257+sh d),(257+sh d)),((384+sh d),(384+sh d)),((400+sh d),(400+sh d)),((432+sh d),(432+sh d)),((464+sh d),(464+sh d)),((496+sh d),(496+sh d)),((1008+sh d),(1008+sh d))] Cu (cb (fun | ()=>(.s 22 (.chk (LX 514 (length (flatMap ck (af L)))) I4 (.lst (take 2 (drop 512 (flatMap ck (af L)))) ([ah (Mk (getD (af L) 256 jk)),dQ (L7 (getD (af L) 256 jk))]) (aD (k:=2) (i:=256) (fun _=>rfl) om om) (.s 18 (.op (↑(L7 (getD (af L) 256 jk)):Int) mr (.s 1 (.cl 152 false [] (.fn dR (@bF (Mk (getD (af L) 256 jk)) (L7 (getD (af L) 256 jk)) zL (by (exact (okL _).2)))) (.s 16 (.op (↑(L7 (getD (af L) 256 jk)):Int) mr (.s 23 (.chk (true && LV (length (aQ T1 T2 (af L) (af F) H l k) * 2) (length (flatMap aV (aQ T1 T2 (af L) (af F) H l k))) && true && true && true && true && LX ((length (aQ T1 T2 (af L) (af F) H l k) + 2) * 16) 140737488355328) HD (.s 9 (.out [16,(976+sh d)] [16,(976+sh d)] (D.ptr 0 0 0) [Blk.mk [D.ref 1 1 0 (length (aQ T1 T2 (af L) (af F) H l k) + 2) 2] 123 false,Blk.mk (flatMap aV (aQ T1 T2 (af L) (af F) H l k) ++ [ah (eP (Mk (getD (af L) 256 jk)) (L7 (getD (af L) 256 jk))),zN (L7 (getD (af L) 256 jk)),uI 0,zI 0]) 126 true] R (ok _ _ wr (by (rw [LZ,b9]; rfl)))))))))))))))))))))))))))))))))))) (fun p1=>have p1f:=au p1; (.s 7 (.cl 142 false [] (.fn rW (@iq (T1) bu om om (Tn.long (getD l 0 jk)) mr mr)) (.s 35 (.chk (true && decide ((↑(257 + ao T1 (Tn.long (getD l 0 jk))):Int) < (↑288:Int))) Ex (.s 2 (.chk (LX (0 + (257 + ao T1 (Tn.long (getD l 0 jk))) * 2 + 2) (length (flatMap ck (af L)))) HE (.lst (take 2 (drop (0 + (257 + ao T1 (Tn.long (getD l 0 jk))) * 2) (flatMap ck (af L)))) ([ah (Mk (getD (af L) (257 + ao T1 (Tn.long (getD l 0 jk))) jk)),dQ (L7 (getD (af L) (257 + ao T1 (Tn.long (getD l 0 jk))) jk))]) (aD (k:=2) (i:=257 + ao T1 (Tn.long (getD l 0 jk))) (fun _=>rfl) mr om) (.s 18 (.op (↑(L7 (getD (af L) (257 + ao T1 (Tn.long (getD l 0 jk))) jk)):Int) mr (.s 1 (.cl 152 false [] (.fn dR (@bF (Mk (getD (af L) (257 + ao T1 (Tn.long (getD l 0 jk))) jk)) (L7 (getD (af L) (257 + ao T1 (Tn.long (getD l 0 jk))) jk)) zL (by (exact (okL _).2)))) (.s 16 (.op (↑(L7 (getD (af L) (257 + ao T1 (Tn.long (getD l 0 jk))) jk)):Int) mr (.s 4 (.opt (az .u32 (↑(Tn.long (getD l 0 jk) - Sy.least (getD T1 (ao T1 (Tn.long (getD l 0 jk))) jk)):Int)) (ah (Tn.long (getD l 0 jk) - Sy.least (getD T1 (ao T1 (Tn.long (getD l 0 jk))) jk))) (aB mr) (.s 33 (.cl 143 false [] (.fn rX (@lM (T2) bu om om (Tn.dist (getD l 0 jk)) mr mr)) (.s 34 (.chk (true && decide ((↑(ao T2 (Tn.dist (getD l 0 jk))):Int) < (↑32:Int))) Ex (.s 2 (.chk (LX (0 + ao T2 (Tn.dist (getD l 0 jk)) * 2 + 2) (length (flatMap ck (af F)))) HE (.lst (take 2 (drop (0 + ao T2 (Tn.dist (getD l 0 jk)) * 2) (flatMap ck (af F)))) ([ah (Mk (getD (af F) (ao T2 (Tn.dist (getD l 0 jk))) jk)),dQ (L7 (getD (af F) (ao T2 (Tn.dist (getD l 0 jk))) jk))]) (aD (k:=2) (i:=ao T2 (Tn.dist (getD l 0 jk))) (fun _=>rfl) mr om) (.s 18 (.op (↑(L7 (getD (af F) (ao T2 (Tn.dist (getD l 0 jk))) jk)):Int) mr (.s 1 (.cl 152 false [] (.fn dR (@bF (Mk (getD (af F) (ao T2 (Tn.dist (getD l 0 jk))) jk)) (L7 (getD (af F) (ao T2 (Tn.dist (getD l 0 jk))) jk)) Ey (by (exact (okF _).2)))) (.s 16 (.op (↑(L7 (getD (af F) (ao T2 (Tn.dist (getD l 0 jk))) jk)):Int) mr (.s 4 (.opt (az .u32 (↑(Tn.dist (getD l 0 jk) - Sy.least (getD T2 (ao T2 (Tn.dist (getD l 0 jk))) jk)):Int)) (ah (Tn.dist (getD l 0 jk) - Sy.least (getD T2 (ao T2 (Tn.dist (getD l 0 jk))) jk))) (aB mr) (.s 30 (.blk 16 16 (Blk.mk [D.ref (1784+sh d) (1784+sh d) 0 6 2] 123 false) (Blk.mk [D.ref (1784+sh d) (1784+sh d) 0 (length (aQ T1 T2 (af L) (af F) H l 1)) 2] 123 false) (by ( rw [fa (i:=0) om om,gC,hH]; rfl)) (.blk (1784+sh d) (1784+sh d) (Blk.mk [ah e,zI 1,uI 1,zI 2,ah (eP (Mk (getD (af L) (257 + ao T1 (Tn.long (getD l 0 jk))) jk)) (L7 (getD (af L) (257 + ao T1 (Tn.long (getD l 0 jk))) jk))),zN (L7 (getD (af L) (257 + ao T1 (Tn.long (getD l 0 jk))) jk)),ah (Tn.long (getD l 0 jk) - Sy.least (getD T1 (ao T1 (Tn.long (getD l 0 jk))) jk)),zN (Sy.bits (getD T1 (ao T1 (Tn.long (getD l 0 jk))) jk)),ah (eP (Mk (getD (af F) (ao T2 (Tn.dist (getD l 0 jk))) jk)) (L7 (getD (af F) (ao T2 (Tn.dist (getD l 0 jk))) jk))),zN (L7 (getD (af F) (ao T2 (Tn.dist (getD l 0 jk))) jk)),ah (Tn.dist (getD l 0 jk) - Sy.least (getD T2 (ao T2 (Tn.dist (getD l 0 jk))) jk)),zN (Sy.bits (getD T2 (ao T2 (Tn.dist (getD l 0 jk))) jk))] 126 true) (Blk.mk (flatMap aV (aQ T1 T2 (af L) (af F) H l 1)) 126 true) (by ( rw [fa (i:=0) om om,gC,hH]; rfl)) (Hn.inl T_ok ai false 53 (544+sh d) (aA Tryz.prog 106 0) (fun (x:(i:Nat) ×' (hi:1 ≤ i ∧ i ≤ k) ×' Unit)=>match x with | ⟨i,hi,_⟩=>CutS.mk [(1,D.fn (MB 115) [] [D.ptr (384+sh d) (384+sh d) 0,D.ptr (496+sh d) (496+sh d) 0,D.ptr (432+sh d) (432+sh d) 0]),(10,D.sl false k 3 (flatMap ba l)),(11,zN k),(12,nD i)] [⟨16,16,16,16,.b ⟨[(D.ref (616+sh d) (616+sh d) (0) ((aQ T1 T2 (af L) (af F) H l i).length) 2)],123,false⟩⟩,⟨(96+sh d),(96+sh d),(96+sh d),(96+sh d),.b ⟨[ah e,zI 1,uI 1,zI 2],126,false⟩⟩,⟨(256+sh d),(256+sh d),(256+sh d),(256+sh d),.b ⟨map dB L,5,true⟩⟩,⟨(257+sh d),(257+sh d),(257+sh d),(257+sh d),.b ⟨map dB F,5,true⟩⟩,⟨(384+sh d),(384+sh d),(384+sh d),(384+sh d),.b ⟨[D.ptr 16 16 0],105,false⟩⟩,⟨(400+sh d),(400+sh d),(400+sh d),(400+sh d),.b ⟨flatMap ck (af L),210,true⟩⟩,⟨(432+sh d),(432+sh d),(432+sh d),(432+sh d),.b ⟨[D.ref (400+sh d) (400+sh d) 0 288 2],189,false⟩⟩,⟨(464+sh d),(464+sh d),(464+sh d),(464+sh d),.b ⟨flatMap ck (af F),210,true⟩⟩,⟨(496+sh d),(496+sh d),(496+sh d),(496+sh d),.b ⟨[D.ref (464+sh d) (464+sh d) 0 32 2],189,false⟩⟩,⟨(616+sh d),(616+sh d),(1784+sh d),(1784+sh d),.b ⟨(aQ T1 T2 (af L) (af F) H l i).flatMap aV,126,true⟩⟩] (624+sh d)) (fun (x:(i:Nat) ×' (hi:1 ≤ i ∧ i ≤ k) ×' Unit)=>match x with | ⟨i,hi,_⟩=>k - i) [⟨Unit,.exit 0,fun x=>match x with | ()=>CutS.mk [(1,D.fn (MB 115) [] [D.ptr (384+sh d) (384+sh d) 0,D.ptr (496+sh d) (496+sh d) 0,D.ptr (432+sh d) (432+sh d) 0]),(10,D.sl false k 3 (flatMap ba l)),(11,zN k),(12,nD k)] [⟨16,16,16,16,.b ⟨[(D.ref (616+sh d) (616+sh d) (0) ((aQ T1 T2 (af L) (af F) H l k).length) 2)],123,false⟩⟩,⟨(96+sh d),(96+sh d),(96+sh d),(96+sh d),.b ⟨[ah e,zI 1,uI 1,zI 2],126,false⟩⟩,⟨(256+sh d),(256+sh d),(256+sh d),(256+sh d),.b ⟨map dB L,5,true⟩⟩,⟨(257+sh d),(257+sh d),(257+sh d),(257+sh d),.b ⟨map dB F,5,true⟩⟩,⟨(384+sh d),(384+sh d),(384+sh d),(384+sh d),.b ⟨[D.ptr 16 16 0],105,false⟩⟩,⟨(400+sh d),(400+sh d),(400+sh d),(400+sh d),.b ⟨flatMap ck (af L),210,true⟩⟩,⟨(432+sh d),(432+sh d),(432+sh d),(432+sh d),.b ⟨[D.ref (400+sh d) (400+sh d) 0 288 2],189,false⟩⟩,⟨(464+sh d),(464+sh d),(464+sh d),(464+sh d),.b ⟨flatMap ck (af F),210,true⟩⟩,⟨(496+sh d),(496+sh d),(496+sh d),(496+sh d),.b ⟨[D.ref (464+sh d) (464+sh d) 0 32 2],189,false⟩⟩,⟨(616+sh d),(616+sh d),(1784+sh d),(1784+sh d),.b ⟨(aQ T1 T2 (af L) (af F) H l k).flatMap aV,126,true⟩⟩] (624+sh d)⟩] 1000 64 (fun | ⟨i,hi,_⟩,Q,next1,last1=>(.s 2 (.br (decide ((i:Int) < (k:Int))) (fun p4=>have p4f:=aT p4; (.s 1 (.chk (true && decide ((i:Int) < (k:Int)) && true) I5 (.s 2 (.chk (LX (i * 3 + 3) (length (flatMap ba l))) Eu (.lst (take 3 (drop (i * 3) (flatMap ba l))) ([dQ (LW (Tn.lit (getD l i jk))),zN (Tn.dist (getD l i jk)),zN (Tn.long (getD l i jk))]) (aD (k:=3) (i:=i) (fun _=>rfl) om om) (.s 13 (.br ((↑(Tn.long (getD l i jk)):Int) == 0) (fun p5=>have p5f:=eq_of_beq p5; (.s 8 (.op (↑(LW (Tn.lit (getD l i jk))):Int) Ew (.s 18 (.chk (true && decide ((↑(LW (Tn.lit (getD l i jk))):Int) < (↑288:Int))) Hz (.s 2 (.chk (LX (0 + LW (Tn.lit (getD l i jk)) * 2 + 2) (length (flatMap ck (af L)))) HA (.lst (take 2 (drop (0 + LW (Tn.lit (getD l i jk)) * 2) (flatMap ck (af L)))) ([ah (Mk (getD (af L) (LW (Tn.lit (getD l i jk))) jk)),dQ (L7 (getD (af L) (LW (Tn.lit (getD l i jk))) jk))]) (aD (k:=2) (i:=LW (Tn.lit (getD l i jk))) (fun _=>rfl) iv om) (.s 18 (.op (↑(L7 (getD (af L) (LW (Tn.lit (getD l i jk))) jk)):Int) iv (.s 1 (.cl 152 false [] (.fn dR (@bF (Mk (getD (af L) (LW (Tn.lit (getD l i jk))) jk)) (L7 (getD (af L) (LW (Tn.lit (getD l i jk))) jk)) zL (by (exact (okL _).2)))) (.s 16 (.op (↑(L7 (getD (af L) (LW (Tn.lit (getD l i jk))) jk)):Int) iv (.s 23 (.chk (true && LV (length (aQ T1 T2 (af L) (af F) H l i) * 2) (length (flatMap aV (aQ T1 T2 (af L) (af F) H l i))) && true && true && true && true && LX ((length (aQ T1 T2 (af L) (af F) H l i) + 2) * 16) 140737488355328) I6 (.s 9 (.ow ((i:Int) + 1) (.s 1 (.val 12 (zI ((i:Int) + 1)) (zN (i + 1)) I7 (.blk 16 16 (Blk.mk [D.ref (1064+sh d) (1064+sh d) 0 (length (aQ T1 T2 (af L) (af F) H l i) + 2) 2] 123 false) (Blk.mk [D.ref (1064+sh d) (1064+sh d) 0 (length (aQ T1 T2 (af L) (af F) H l (i + 1))) 2] 123 false) (by ( rw [dS om om,LZ]; rfl)) (.blk (1064+sh d) (1064+sh d) (Blk.mk (flatMap aV (aQ T1 T2 (af L) (af F) H l i) ++ [ah (eP (Mk (getD (af L) (LW (Tn.lit (getD l i jk))) jk)) (L7 (getD (af L) (LW (Tn.lit (getD l i jk))) jk))),zN (L7 (getD (af L) (LW (Tn.lit (getD l i jk))) jk)),uI 0,zI 0]) 126 true) (Blk.mk (flatMap aV (aQ T1 T2 (af L) (af F) H l (i + 1))) 126 true) (by ( refine aC ?_; rw [dS om om,b9]; rfl)) (Hn.next next1 ⟨(i + 1),om,⟨⟩⟩ I8 [(16,16),((96+sh d),(96+sh d)),((256+sh d),(256+sh d)),((257+sh d),(257+sh d)),((384+sh d),(384+sh d)),((400+sh d),(400+sh d)),((432+sh d),(432+sh d)),((464+sh d),(464+sh d)),((496+sh d),(496+sh d)),((1064+sh d),(1064+sh d))] Cu))))))))))))))))))))))) (fun p5=>have p5f:=au p5; (.s 7 (.cl 142 false [] (.fn rW (@iq (T1) bu om om (Tn.long (getD l i jk)) iv iv)) (.s 35 (.chk (true && decide ((↑(257 + ao T1 (Tn.long (getD l i jk))):Int) < (↑288:Int))) zM (.s 2 (.chk (LX (0 + (257 + ao T1 (Tn.long (getD l i jk))) * 2 + 2) (length (flatMap ck (af L)))) zO (.lst (take 2 (drop (0 + (257 + ao T1 (Tn.long (getD l i jk))) * 2) (flatMap ck (af L)))) ([ah (Mk (getD (af L) (257 + ao T1 (Tn.long (getD l i jk))) jk)),dQ (L7 (getD (af L) (257 + ao T1 (Tn.long (getD l i jk))) jk))]) (aD (k:=2) (i:=257 + ao T1 (Tn.long (getD l i jk))) (fun _=>rfl) iv om) (.s 18 (.op (↑(L7 (getD (af L) (257 + ao T1 (Tn.long (getD l i jk))) jk)):Int) iv (.s 1 (.cl 152 false [] (.fn dR (@bF (Mk (getD (af L) (257 + ao T1 (Tn.long (getD l i jk))) jk)) (L7 (getD (af L) (257 + ao T1 (Tn.long (getD l i jk))) jk)) zL (by (exact (okL _).2)))) (.s 16 (.op (↑(L7 (getD (af L) (257 + ao T1 (Tn.long (getD l i jk))) jk)):Int) iv (.s 4 (.opt (az .u32 (↑(Tn.long (getD l i jk) - Sy.least (getD T1 (ao T1 (Tn.long (getD l i jk))) jk)):Int)) (ah (Tn.long (getD l i jk) - Sy.least (getD T1 (ao T1 (Tn.long (getD l i jk))) jk))) (aB iv) (.s 18 (.chk (true && LV (length (aQ T1 T2 (af L) (af F) H l i) * 2) (length (flatMap aV (aQ T1 T2 (af L) (af F) H l i))) && true && true && true && true && LX ((length (aQ T1 T2 (af L) (af F) H l i) + 2) * 16) 140737488355328) I6 (.s 14 (.cl 143 false [] (.fn rX (@lM (T2) bu om om (Tn.dist (getD l i jk)) iv iv)) (.s 34 (.chk (true && decide ((↑(ao T2 (Tn.dist (getD l i jk))):Int) < (↑32:Int))) zM (.s 2 (.chk (LX (0 + ao T2 (Tn.dist (getD l i jk)) * 2 + 2) (length (flatMap ck (af F)))) zO (.lst (take 2 (drop (0 + ao T2 (Tn.dist (getD l i jk)) * 2) (flatMap ck (af F)))) ([ah (Mk (getD (af F) (ao T2 (Tn.dist (getD l i jk))) jk)),dQ (L7 (getD (af F) (ao T2 (Tn.dist (getD l i jk))) jk))]) (aD (k:=2) (i:=ao T2 (Tn.dist (getD l i jk))) (fun _=>rfl) iv om) (.s 18 (.op (↑(L7 (getD (af F) (ao T2 (Tn.dist (getD l i jk))) jk)):Int) iv (.s 1 (.cl 152 false [] (.fn dR (@bF (Mk (getD (af F) (ao T2 (Tn.dist (getD l i jk))) jk)) (L7 (getD (af F) (ao T2 (Tn.dist (getD l i jk))) jk)) Ey (by (exact (okF _).2)))) (.s 16 (.op (↑(L7 (getD (af F) (ao T2 (Tn.dist (getD l i jk))) jk)):Int) iv (.s 4 (.opt (az .u32 (↑(Tn.dist (getD l i jk) - Sy.least (getD T2 (ao T2 (Tn.dist (getD l i jk))) jk)):Int)) (ah (Tn.dist (getD l i jk) - Sy.least (getD T2 (ao T2 (Tn.dist (getD l i jk))) jk))) (aB iv) (.s 18 (.chk (true && LV ((length (aQ T1 T2 (af L) (af F) H l i) + 2) * 2) (length (flatMap aV (aQ T1 T2 (af L) (af F) H l i) ++ [ah (eP (Mk (getD (af L) (257 + ao T1 (Tn.long (getD l i jk))) jk)) (L7 (getD (af L) (257 + ao T1 (Tn.long (getD l i jk))) jk))),zN (L7 (getD (af L) (257 + ao T1 (Tn.long (getD l i jk))) jk)),ah (Tn.long (getD l i jk) - Sy.least (getD T1 (ao T1 (Tn.long (getD l i jk))) jk)),zN (Sy.bits (getD T1 (ao T1 (Tn.long (getD l i jk))) jk))])) && true && true && true && true && LX ((length (aQ T1 T2 (af L) (af F) H l i) + 2 + 2) * 16) 140737488355328) I5 (.s 9 (.ow ((i:Int) + 1) (.s 1 (.val 12 (zI ((i:Int) + 1)) (zN (i + 1)) I7 (.blk 16 16 (Blk.mk [D.ref (1840+sh d) (1840+sh d) 0 (length (aQ T1 T2 (af L) (af F) H l i) + 2 + 2) 2] 123 false) (Blk.mk [D.ref (1840+sh d) (1840+sh d) 0 (length (aQ T1 T2 (af L) (af F) H l (i + 1))) 2] 123 false) (by ( rw [fa om om,LZ]; rfl)) (.blk (1840+sh d) (1840+sh d) (Blk.mk (flatMap aV (aQ T1 T2 (af L) (af F) H l i) ++ [ah (eP (Mk (getD (af L) (257 + ao T1 (Tn.long (getD l i jk))) jk)) (L7 (getD (af L) (257 + ao T1 (Tn.long (getD l i jk))) jk))),zN (L7 (getD (af L) (257 + ao T1 (Tn.long (getD l i jk))) jk)),ah (Tn.long (getD l i jk) - Sy.least (getD T1 (ao T1 (Tn.long (getD l i jk))) jk)),zN (Sy.bits (getD T1 (ao T1 (Tn.long (getD l i jk))) jk))] ++ [ah (eP (Mk (getD (af F) (ao T2 (Tn.dist (getD l i jk))) jk)) (L7 (getD (af F) (ao T2 (Tn.dist (getD l i jk))) jk))),zN (L7 (getD (af F) (ao T2 (Tn.dist (getD l i jk))) jk)),ah (Tn.dist (getD l i jk) - Sy.least (getD T2 (ao T2 (Tn.dist (getD l i jk))) jk)),zN (Sy.bits (getD T2 (ao T2 (Tn.dist (getD l i jk))) jk))]) 126 true) (Blk.mk (flatMap aV (aQ T1 T2 (af L) (af F) H l (i + 1))) 126 true) HC (Hn.next next1 ⟨(i + 1),om,⟨⟩⟩ I8 [(16,16),((96+sh d),(96+sh d)),((256+sh d),(256+sh d)),((257+sh d),(257+sh d)),((384+sh d),(384+sh d)),((400+sh d),(400+sh d)),((432+sh d),(432+sh d)),((464+sh d),(464+sh d)),((496+sh d),(496+sh d)),((1840+sh d),(1840+sh d))] Cu)))))))))))))))))))))))))))))))))))))))))))))))))) (fun p4=>have p4f:=aU p4; (.val 12 (zN i) (zN k) Fm (.blk 16 16 (Blk.mk [D.ref (616+sh d) (616+sh d) 0 (length (aQ T1 T2 (af L) (af F) H l i)) 2] 123 false) (Blk.mk [D.ref (616+sh d) (616+sh d) 0 (length (aQ T1 T2 (af L) (af F) H l k)) 2] 123 false) Fm (.blk (616+sh d) (616+sh d) (Blk.mk (flatMap aV (aQ T1 T2 (af L) (af F) H l i)) 126 true) (Blk.mk (flatMap aV (aQ T1 T2 (af L) (af F) H l k)) 126 true) Fm (Hn.last last1 0 (():Unit) rfl [(16,16),((96+sh d),(96+sh d)),((256+sh d),(256+sh d)),((257+sh d),(257+sh d)),((384+sh d),(384+sh d)),((400+sh d),(400+sh d)),((432+sh d),(432+sh d)),((464+sh d),(464+sh d)),((496+sh d),(496+sh d)),((616+sh d),(616+sh d))] Cu)))))))) (fun | ⟨i,hi,_⟩=>by cases d <;> kernel_rfl) ⟨(1),om,⟨⟩⟩ [(16,16),((96+sh d),(96+sh d)),((256+sh d),(256+sh d)),((257+sh d),(257+sh d)),((384+sh d),(384+sh d)),((400+sh d),(400+sh d)),((432+sh d),(432+sh d)),((464+sh d),(464+sh d)),((496+sh d),(496+sh d)),((1784+sh d),(1784+sh d))] Cu (cb (fun | ()=>(.s 22 (.chk (LX 514 (length (flatMap ck (af L)))) I4 (.lst (take 2 (drop 512 (flatMap ck (af L)))) ([ah (Mk (getD (af L) 256 jk)),dQ (L7 (getD (af L) 256 jk))]) (aD (k:=2) (i:=256) (fun _=>rfl) om om) (.s 18 (.op (↑(L7 (getD (af L) 256 jk)):Int) mr (.s 1 (.cl 152 false [] (.fn dR (@bF (Mk (getD (af L) 256 jk)) (L7 (getD (af L) 256 jk)) zL (by (exact (okL _).2)))) (.s 16 (.op (↑(L7 (getD (af L) 256 jk)):Int) mr (.s 23 (.chk (true && LV (length (aQ T1 T2 (af L) (af F) H l k) * 2) (length (flatMap aV (aQ T1 T2 (af L) (af F) H l k))) && true && true && true && true && LX ((length (aQ T1 T2 (af L) (af F) H l k) + 2) * 16) 140737488355328) HD (.s 9 (.out [16,(976+sh d)] [16,(976+sh d)] (D.ptr 0 0 0) [Blk.mk [D.ref 1 1 0 (length (aQ T1 T2 (af L) (af F) H l k) + 2) 2] 123 false,Blk.mk (flatMap aV (aQ T1 T2 (af L) (af F) H l k) ++ [ah (eP (Mk (getD (af L) 256 jk)) (L7 (getD (af L) 256 jk))),zN (L7 (getD (af L) 256 jk)),uI 0,zI 0]) 126 true] R (ok _ _ wr (by (rw [LZ,b9]; rfl))))))))))))))))))))))))))))))))))))))))))))))))))))))))))))) (fun p0=>have p0f:=aU p0; (.s 22 (.chk (LX 514 (length (flatMap ck (af L)))) I4 (.lst (take 2 (drop 512 (flatMap ck (af L)))) ([ah (Mk (getD (af L) 256 jk)),dQ (L7 (getD (af L) 256 jk))]) (aD (k:=2) (i:=256) (fun _=>rfl) om om) (.s 18 (.op (↑(L7 (getD (af L) 256 jk)):Int) mr (.s 1 (.cl 152 false [] (.fn dR (@bF (Mk (getD (af L) 256 jk)) (L7 (getD (af L) 256 jk)) zL (by (exact (okL _).2)))) (.s 16 (.op (↑(L7 (getD (af L) 256 jk)):Int) mr (.s 33 (.out [16,(928+sh d)] [16,(928+sh d)] (D.ptr 0 0 0) [Blk.mk [D.ref 1 1 0 4 2] 123 false,Blk.mk [ah e,zI 1,uI 1,zI 2,ah (eP (Mk (getD (af L) 256 jk)) (L7 (getD (af L) 256 jk))),zN (L7 (getD (af L) 256 jk)),uI 0,zI 0] 126 true] R (ok _ _ wr (by ( rw [show k = 0 from by omega,gC,hH]; rfl))))))))))))))))) .nil))))))):Hn Tryz.prog)) (fun t h=>SpecH.run T_ok ai Tryz.func65 rfl rfl rfl ⟨rfl,ej (fun _=>rfl) _,trivial⟩ rfl 1000 64 (fun R ok=>.s 43 (t true 1 H hH hHl R ok)) h) (fun t h=>SpecH.run T_ok ai Tryz.func65 rfl rfl rfl ⟨rfl,ej (fun _=>rfl) _,trivial⟩ rfl 1000 64 (fun R ok=>.s 42 (t false 0 H' hH' hHl' R ok)) h) (by kernel_rfl) (by kernel_rfl)
theorem HF (l:List Tn) (k:Nat) (hk:k = l.length) (hk2:k ≤ 65535) (hl:∀ i,dq (l.getD i jk)) (T1 T2:List Sy) (hT1:T1 = aJ) (hT2:T2 = a9) (hl1:T1.length = 29) (hl2:T2.length = 30) (hz1:bZ T1) (hz2:bZ T2) (L F:List UInt8) (hL:L = cN) (hF:F = fw) (hLl:L.length = 288) (hFl:F.length = 32) (hcL:cM L 15 = 0) (hcF:cM F 15 = 0) (hmL:(af L).length = 288) (hmF:(af F).length = 32) (okL:mc (af L)) (okF:mc (af F)) (H:List Nm) (hH:H = mb 1 1) (hHl:H.length = 2) (a:Nat) (ha:a ≤ 7) (raw:List UInt8) (r:Nat) (hr:r = raw.length) (hr2:r ≤ 65535):SpecH false Tryz.prog 65 [nD a,ga 1,.sl false r 1 (raw.map dB),.sl false k 3 (l.flatMap ba),.v (.bool true)] [] (.ptr 0 0 0) [⟨[.ref 1 1 0 (aQ T1 T2 (af L) (af F) H l k ++ gB (af L) 256 0 0).length 2], 123, false⟩,⟨(aQ T1 T2 (af L) (af F) H l k ++ gB (af L) 256 0 0).flatMap aV, 126, true⟩]:=(Cv l k hk hk2 hl T1 T2 hT1 hT2 hl1 hl2 hz1 hz2 L F hL hF hLl hFl hcL hcF hmL hmF okL okF a ha raw r hr hr2 H hH hHl _ rfl rfl).1
theorem HG (l:List Tn) (k:Nat) (hk:k = l.length) (hk2:k ≤ 65535) (hl:∀ i,dq (l.getD i jk)) (T1 T2:List Sy) (hT1:T1 = aJ) (hT2:T2 = a9) (hl1:T1.length = 29) (hl2:T2.length = 30) (hz1:bZ T1) (hz2:bZ T2) (L F:List UInt8) (hL:L = cN) (hF:F = fw) (hLl:L.length = 288) (hFl:F.length = 32) (hcL:cM L 15 = 0) (hcF:cM F 15 = 0) (hmL:(af L).length = 288) (hmF:(af F).length = 32) (okL:mc (af L)) (okF:mc (af F)) (H:List Nm) (hH:H = mb 0 1) (hHl:H.length = 2) (a:Nat) (ha:a ≤ 7) (raw:List UInt8) (r:Nat) (hr:r = raw.length) (hr2:r ≤ 65535):SpecH false Tryz.prog 65 [nD a,ga 1,.sl false r 1 (raw.map dB),.sl false k 3 (l.flatMap ba),.v (.bool false)] [] (.ptr 0 0 0) [⟨[.ref 1 1 0 (aQ T1 T2 (af L) (af F) H l k ++ gB (af L) 256 0 0).length 2], 123, false⟩,⟨(aQ T1 T2 (af L) (af F) H l k ++ gB (af L) 256 0 0).flatMap aV, 126, true⟩]:=(Cv l k hk hk2 hl T1 T2 hT1 hT2 hl1 hl2 hz1 hz2 L F hL hF hLl hFl hcL hcF hmL hmF okL okF a ha raw r hr hr2 _ rfl rfl H hH hHl).2
end Vp
end Go.Proofs.YtefjnofhgkjpmaaGreat
namespace Go.Proofs.YtefjnofhgkjpmaaGreat
open Go.RowKit Go.Bw Go.Vx
namespace Vp
theorem SpecH.frz {al:Bool} {P:Program} {f:FuncId} {ds:List D} {n sz:Nat} {cells:List D} {t:TypeId} {rw' : Bool} (h:SpecH al P f ds [] (.ref 0 0 0 n sz) [⟨cells,t,rw'⟩]) (hn:cells.length = n * sz) (hs:0 < sz) (hc:ab cells = true):SpecH al P f ds [] (.sl false n sz cells) []:=by
 refine ⟨Mc _,fun O φ w args hO hh hi hl ha=>(h.2 O φ w args hO hh hi hl ha).mono ?_⟩
 rintro e w' ⟨u,rfl,hf,ψ,g1,g2,g3,g4,g5⟩
 refine ⟨u,rfl,hf,φ,fun j hj=>rfl,?_,fun j b hb=>by simp at hb,fun i j x h1=>absurd h1 (M7 i),fun j x h1 h2=>absurd h2 (M7 j)⟩
 have hB:=(g3 0 _ rfl).1
 have own:∀ b,(dW (jg al O w) φ 0).own b → b < w.heap.size:=fun b q=>by
  rcases q with q | ⟨j,hj,_⟩
  ·unfold jg at q; split at q
   ·exact hO b q
   ·exact q
  ·exact absurd hj (M7 j)
 have hst:Stp (dW (jg al O w) ψ 1).cl (dW (jg al O w) φ 0).cl w' w' := ⟨fun g hg=>hg.elim,fun g hg=>hg.elim,Mc _,fun b _ hb=>⟨fun q=>hb (by
  rcases q with q | ⟨j,hj,_⟩
  ·exact .inl q
  ·exact absurd hj (M7 j)),rfl⟩,fun _ _=>rfl⟩
 obtain ⟨hnm,hB⟩:=hB
 cases g2 with
 | refn _ _ _ hg hb =>
  have h0:cells = []:=Mm (by rw [hn,Nh])
  subst h0
  exact .sl false 0 sz [] none 0 [] rfl (fun i d u h=>by simp at h) (fun u h=>by cases h) (by simp) hs ⟨Mc _,MK _⟩ (fun _=>⟨rfl,rfl⟩) (.inl rfl)
 | ref _ _ _ _ _ c b off' t' m hg hb hcc ho hsh hm =>
  rw [hb] at hB
  obtain ⟨_,hlt,cur,fr,hheap,hfr,hle,_,hcell⟩:=hB
  have hcell:∀ (i:Nat) d,cells[i]? = some d → ∃ u,cur[i]? = some u ∧ u.oneCell' = true ∧ RD (dW (jg al O w) ψ 1) w' d u:=hcell
  have hle:cells.length ≤ cur.size:=hle
  have hul:(cur.toList.take cells.length).length = cells.length:=MM (by rw [OR]; exact hle)
  have hget:∀ (i:Nat) u,(cur.toList.take cells.length)[i]? = some u → i < cells.length ∧ cur[i]? = some u:=fun i u hu=>by
   rw [List.getElem?_take] at hu
   split at hu
   ·next q=>exact ⟨q,by simpa using hu⟩
   ·cases hu
  refine .sl false n sz cells (some ⟨b,off', none⟩) c (cur.toList.take cells.length) hul (fun i d u h1 h2=>?_) (fun u hu=>?_) hn hs hcc (fun q=>by cases q) ?_
  ·obtain ⟨_,h2⟩:=hget i u h2
   obtain ⟨u', q1,_,q3⟩:=hcell i d h1
   rw [h2] at q1; cases q1
   exact (q3.weak (bi hc h1)).step hst
  ·obtain ⟨i,hi⟩:=List.getElem?_of_mem hu
   obtain ⟨q0,q1⟩:=hget i u hi
   obtain ⟨u', y1,y2,_⟩:=hcell i _ (List.getElem?_eq_getElem q0)
   rw [q1] at y1; cases y1; exact y2
  ·rcases ho with ho | ⟨ho,_⟩
   ·refine .inr ⟨b,off', rfl,hlt,fun q=>?_,fun i u hu=>?_⟩
    ·have:=g5 0 b (MK _) NY hb
     have:=own b q; omega
    ·rw [ho,Mq,cell_of_row w' b i cur t fr hheap]; exact (hget i u hu).2
   ·exact .inl ho
end Vp
end Go.Proofs.YtefjnofhgkjpmaaGreat

/- Part 6. -/
import Derived.Test.YtefjnofhgkjpmaaGreatTm5
set_option linter.unusedVariables false
set_option linter.unusedSimpArgs false
set_option maxRecDepth 100000
set_option maxHeartbeats 4000000
open And renaming intro → Mi
open Array renaming length_toList → OY
open BitVec renaming ofInt → Mf, toNat → MD
open Bool renaming and_eq_true → L7, and_true → Mv, true_and → Mr
open Go.Fn renaming func → MG
open Go.IntKind renaming i64 → Mk, u64 → Nr, wrap → Mj
open Go.Value renaming int → MS
open Inhabited renaming default → ji
open Int renaming fdiv → MK, tmod → Nz, toNat → u7
open List renaming append_assoc → Mu, append_nil → MU, drop_append → PW, drop_replicate → OZ, drop_zero → Ns, eq_nil_of_length_eq_zero → Mt, eq_replicate_iff → OJ, flatMap_append → NF, flatMap_singleton → N9, length_append → L6, length_cons → Mx, length_map → Mg, length_nil → NG, length_range → Nh, length_replicate → MA, length_take → Mc, length_take_of_le → MR, map → ND, map_append → MO, map_replicate → Nv, map_take → OS, range → MQ, replicate → Ml, take → ME, take_append_of_le_length → NN, take_length → M8, take_replicate → PD, take_succ_eq_append_getElem → MB
open Nat renaming add_assoc → Nd, add_sub_cancel → NJ, beq → L2, beq_eq → MZ, beq_refl → M5, ble → L5, ble_eq → MX, ble_eq_true_of_le → L9, blt → NK, eq_of_beq_eq_true → Ma, le_refl → Mh, le_trans → L8, lt_irrefl → OQ, lt_or_ge → MF, lt_succ_self → Pe, min → M3, min_eq_left → Pn, mul_comm → Nk, mul_one → My, not_lt_zero → Nc, pow_add → Py, pow_le_pow_right → MV, zero_add → Mw, zero_le → MP, zero_lt_one → N0, zero_mul → Nj
open Prod renaming fst → Mq, snd → Mb
open UInt8 renaming toNat → L4, toNat_lt → MT
namespace Go.Proofs.YtefjnofhgkjpmaaGreat
open Go.RowKit Go.Bw Go.Vx
open List (length getD map take drop flatMap replicate)
namespace Vp
theorem En {p:Prop} (h:p:=by ( have h8:=zM (l:=l) (k:=k) hc15 om (0 + (l.getD (k * 1) ji).toNat * 1) om om; omega)):p:=h
theorem Hd {p:Prop} (h:p:=by (refine decide_eq_true ?_;  have h8:=zM (l:=l) (k:=k) hc15 om (0 + (l.getD (k * 1) ji).toNat * 1) om om; omega)):p:=h
theorem I6 {p:Prop} (h:p:=by (refine aO ?_; (omega))):p:=h
theorem I7 {p:Prop} (h:p:=by show n - (k + 1) < n - k; clear next1 last1; omega):p:=h
theorem LI {p:Prop} (h:p:=by ((refine aI ?_ ?_) <;> (repeat' (first | (refine aI ?_ ?_) | (with_reducible rfl) | (refine decide_eq_true ?_) | (refine L9 ?_) | (refine er ?_))) <;> (omega))):p:=h
theorem LJ {p:Prop} (h:p:=by ((refine aI ?_ ?_) <;> (repeat' (first | (refine aI ?_ ?_) | (with_reducible rfl) | (refine decide_eq_true ?_) | (refine L9 ?_) | (refine er ?_))) <;> ( have h8:=zM (l:=l) (k:=k) hc15 om (0 + (l.getD (k * 1) ji).toNat * 1) om om; omega))):p:=h
theorem LK {p:Prop} (h:p:=by ( have h7:=Cz (l:=l) (a:=a) hc15 om (0 + a * 1) om; omega)):p:=h
theorem LL {p:Prop} (h:p:=by ( have h7:=Cz (l:=l) (a:=a) hc15 om (0 + a * 1) om; refine aO ?_; omega)):p:=h
def gX (f:Nat → Nat):List D:=[cO (f 0),cO (f 1),cO (f 2),cO (f 3),cO (f 4),cO (f 5),cO (f 6),cO (f 7),cO (f 8),cO (f 9),cO (f 10),cO (f 11),cO (f 12),cO (f 13),cO (f 14),cO (f 15),cO (f 16)]
theorem tT (f:Nat → Nat) (n:Nat) (h:n < 17):(gX f)[n]? = some (cO (f n)):=by
 match n,h with
 | 0,_=>rfl | 1,_=>rfl | 2,_=>rfl | 3,_=>rfl | 4,_=>rfl | 5,_=>rfl | 6,_=>rfl | 7,_=>rfl | 8,_=>rfl | 9,_=>rfl | 10,_=>rfl | 11,_=>rfl | 12,_=>rfl | 13,_=>rfl | 14,_=>rfl | 15,_=>rfl | 16,_=>rfl
 | n + 17,h=>exact absurd h (by omega)
theorem xk (f:Nat → Nat) (n:Nat) (h:n < 17) (x:Nat):aj (gX f) n [cO x] = gX (fun m=>if m = n then x else f m):=by
 match n,h with
 | 0,_=>rfl | 1,_=>rfl | 2,_=>rfl | 3,_=>rfl | 4,_=>rfl | 5,_=>rfl | 6,_=>rfl | 7,_=>rfl | 8,_=>rfl | 9,_=>rfl | 10,_=>rfl | 11,_=>rfl | 12,_=>rfl | 13,_=>rfl | 14,_=>rfl | 15,_=>rfl | 16,_=>rfl
 | n + 17,h=>exact absurd h (by omega)
theorem cD {f g:Nat → Nat} (h:∀ n,n < 17 → f n = g n):gX f = gX g:=by
 unfold gX
 rw [h 0 (by decide),h 1 (by decide),h 2 (by decide),h 3 (by decide),h 4 (by decide),h 5 (by decide),h 6 (by decide),h 7 (by decide),h 8 (by decide),h 9 (by decide),h 10 (by decide),h 11 (by decide),h 12 (by decide),h 13 (by decide),h 14 (by decide),h 15 (by decide),h 16 (by decide)]
def bg (l:List UInt8) (k m:Nat):Nat:=lk l (if m = 0 then 0 else (eg l m k).length)
theorem gw (l:List UInt8) (k m:Nat):bg l k m = if m = 0 then 0 else (eg l m k).length:=aG _ _
theorem Ct (l:List UInt8) (m:Nat):bg l 0 m = 0:=by rw [gw]; split <;> rfl
theorem Cu (l:List UInt8) (m:Nat):bg l l.length m = aL l m:=by rw [gw,lx]; rfl
theorem xl (l:List UInt8) (k m:Nat):bg l k m ≤ k:=by
 rw [gw]; split
 ·exact MP _
 ·exact zC _ _ _
theorem qu {l:List UInt8} {k:Nat} (m:Nat):bg l (k + 1) m = bg l k m + (if m ≠ 0 ∧ (l.getD k ji).toNat = m then 1 else 0):=by
 rw [gw,gw]
 by_cases h0:m = 0
 ·rw [if_pos h0,if_pos h0,if_neg (fun q=>q.1 h0)]
 ·rw [if_neg h0,if_neg h0,gT]
  by_cases h:(l.getD k ji).toNat = m
  ·rw [if_pos h,if_pos ⟨h0,h⟩,L6]; rfl
  ·rw [if_neg h,if_neg (fun q=>h q.2),MU]; rfl
def bT (l:List UInt8) (a m:Nat):Nat:=lk l (if m < a then jU l m else aL l m)
theorem lI (l:List UInt8) (a m:Nat):bT l a m = if m < a then jU l m else aL l m:=aG _ _
def bt (l:List UInt8) (k m:Nat):Nat:=lk l (jU l m + bg l k m)
theorem eW (l:List UInt8) (k m:Nat):bt l k m = jU l m + bg l k m:=aG _ _
def qv (l:List UInt8) (a:Nat):Nat:=lk l (jU l a)
theorem oD (l:List UInt8) (a:Nat):qv l a = jU l a:=aG _ _
def Eo (l:List UInt8) (k j:Nat):Nat × Nat:=if j < k ∧ (l.getD j ji).toNat ≠ 0 then (qn l j,(l.getD j ji).toNat) else (0,0)
def kx (l:List UInt8) (k:Nat):List (Nat × Nat):=lk l ((MQ l.length).map (Eo l k))
theorem lJ (l:List UInt8) (k:Nat):kx l k = (MQ l.length).map (Eo l k):=aG _ _
theorem oE (l:List UInt8) (k:Nat):(kx l k).length = l.length:=by rw [lJ,Mg,Nh]
theorem He (l:List UInt8):kx l 0 = Ml l.length (0,0):=by
 rw [lJ]
 apply List.ext_getElem?
 intro i
 rw [List.getElem?_map,List.getElem?_replicate]
 rcases MF i l.length with hi | hi
 ·rw [List.getElem?_range hi,if_pos hi]; rfl
 ·rw [List.getElem?_eq_none (by simpa using hi),if_neg (by omega)]; rfl
theorem Cv {l:List UInt8} {k:Nat} (hk:k < l.length):kx l (k + 1) = if (l.getD k ji).toNat = 0 then kx l k else (kx l k).set k (qn l k,(l.getD k ji).toNat):=by
 apply List.ext_getElem?
 intro i
 have e:∀ j,(kx l j)[i]? = if i < l.length then some (Eo l j i) else none:=fun j=>by
  rw [lJ,List.getElem?_map]
  rcases MF i l.length with hi | hi
  ·rw [List.getElem?_range hi,if_pos hi]; rfl
  ·rw [List.getElem?_eq_none (by simpa using hi),if_neg (by omega)]; rfl
 by_cases h:(l.getD k ji).toNat = 0
 ·rw [if_pos h,e,e]
  split
  ·congr 1; unfold Eo
   by_cases hi:i = k
   ·subst hi; rw [if_neg (fun q=>q.2 h),if_neg (fun q=>q.2 h)]
   ·by_cases q:i < k ∧ (l.getD i ji).toNat ≠ 0
    ·rw [if_pos q,if_pos ⟨by omega,q.2⟩]
    ·rw [if_neg q,if_neg (fun z=>q ⟨by omega,z.2⟩)]
  ·rfl
 ·rw [if_neg h,List.getElem?_set,oE,e,e]
  by_cases hi:k = i
  ·subst hi
   rw [if_pos hk,if_pos rfl,if_pos hk]
   unfold Eo; rw [if_pos ⟨Pe k,h⟩]
  ·rw [if_neg hi]
   split
   ·congr 1; unfold Eo
    by_cases q:i < k ∧ (l.getD i ji).toNat ≠ 0
    ·rw [if_pos q,if_pos ⟨by omega,q.2⟩]
    ·rw [if_neg q,if_neg (fun z=>q ⟨by omega,z.2⟩)]
   ·rfl
theorem Cw {l:List UInt8} (ho:dk l 15 = false):kx l l.length = af l:=by
 rw [lJ,xi,Cr]
 apply List.map_congr_left
 intro j hj
 have hj:=List.mem_range.1 hj
 have h:=eK ho hj
 unfold Eo Kg
 by_cases q:(l.getD j ji).toNat = 0
 ·rw [if_neg (fun z=>z.2 q),if_neg (fun z=>z.1 q)]
 ·rw [if_pos ⟨hj,q⟩,if_pos ⟨q,.inl (by omega)⟩]
theorem Cy {l:List UInt8} (hc:cG l 15 = 0) {a:Nat} (h:a ≤ 15):jU l a + aL l a ≤ 2 ^ a:=by
 have ho:=(eV hc).2.1
 have hk:=(eV hc).2.2
 have h1:=so l a h
 have h2:=qq l (a + 1) (16 - (a + 1))
 rw [show a + 1 + (16 - (a + 1)) = 16 from by omega,Hc l ho,h1] at h2
 have h3:(jU l a + aL l a) * dl 32768 a ≤ 2 ^ a * dl 32768 a:=by
  rw [dU h,← Py,show a + (15 - a) = 15 from by omega]
  rw [dU h] at h2
  omega
 exact Nat.le_of_mul_le_mul_right h3 (qo h)
theorem Ep {l:List UInt8} (ho:dk l 15 = false) {a:Nat} (h:16 ≤ a):aL l a = 0:=by
 rw [lx]; unfold w4
 rw [if_neg (by omega)]
 have:eg l a l.length = []:=by
  rw [List.eq_nil_iff_forall_not_mem]
  intro i hi
  have:=w5.1 hi
  have:=eK ho this.1
  omega
 rw [this]; rfl
theorem xm {l:List UInt8} (hc:cG l 15 = 0) {a:Nat} (h:a ≤ 17):jU l a ≤ 131072 ∧ (a ≤ 16 → jU l a + aL l a ≤ 65536):=by
 have ho:=(eV hc).2.1
 have p:∀ b,b ≤ 15 → jU l b + aL l b ≤ 32768:=fun b hb=>L8 (Cy hc hb) (MV (n:=2) (by decide) hb)
 have q16:jU l 16 = 2 * (jU l 15 + aL l 15):=rfl
 have q17:jU l 17 = 2 * (jU l 16 + aL l 16):=rfl
 have LC:=Ep ho (a:=16) (by decide)
 have p15:=p 15 (by decide)
 rcases MF a 16 with z | z
 ·have:=p a (by omega); exact ⟨by omega,fun _=>by omega⟩
 ·rcases MF a 17 with y | y
  ·have e:a = 16:=by omega
   subst e; exact ⟨by omega,fun _=>by omega⟩
  ·have e:a = 17:=by omega
   subst e; exact ⟨by omega,fun q=>by omega⟩
theorem Hf (l:List UInt8):gX (fun _=>0) = gX (bg l 0):=cD fun m _=>(Ct l m).symm
theorem Es {l:List UInt8} {k:Nat} (h:(l.getD (k * 1) ji).toNat = 0):gX (bg l k) = gX (bg l (k + 1)):=cD fun m _=>by
 rw [My] at h
 rw [qu,if_neg (fun q=>by omega)]; rfl
theorem Hg {l:List UInt8} {k:Nat} (h:k = l.length):gX (bg l k) = gX (aL l):=cD fun m _=>by rw [h,Cu]
theorem Hh (l:List UInt8):gX (aL l) = gX (bT l 0):=cD fun m _=>by rw [lI,if_neg (Nc m)]
theorem Hi {l:List UInt8} {a:Nat} (h:17 ≤ a):gX (bT l a) = gX (bt l 0):=cD fun m hm=>by rw [lI,if_pos (by omega),eW,Ct]; rfl
theorem Et {l:List UInt8} {k:Nat} (h:(l.getD (k * 1) ji).toNat = 0):gX (bt l k) = gX (bt l (k + 1)):=cD fun m _=>by
 rw [My] at h
 rw [eW,eW,qu,if_neg (fun q=>by omega)]; rfl
theorem Kh (l:List UInt8) (k:Nat) {o:Nat} (h:(l.getD (k * 1) ji).toNat = o) (h0:0 < o) (h1:o < 17):aj (gX (bg l k)) o [D.v (.int .u32 (((bg l k o:Nat):Int) + 1))] = gX (bg l (k + 1)):=by
 rw [My] at h
 refine (xk (bg l k) o h1 (bg l k o + 1)).trans (cD fun m _=>?_)
 rw [qu]
 by_cases e:m = o
 ·rw [if_pos e,e,if_pos ⟨by omega,h⟩]
 ·rw [if_neg e,if_neg (fun q=>e (by omega))]; rfl
theorem Hj (l:List UInt8) (a:Nat) {o:Nat} {z:Int} (ho:o = a) (h1:a < 17) (hz:z = ((qv l a:Nat):Int)):aj (gX (bT l a)) o [D.v (.int .u32 z)] = gX (bT l (a + 1)):=by
 subst ho hz
 refine (xk (bT l o) o h1 (qv l o)).trans (cD fun m _=>?_)
 rw [lI,lI,oD]
 by_cases e:m = o
 ·rw [if_pos e,e,if_pos (Pe o)]
 ·rw [if_neg e]
  by_cases q:m < o
  ·rw [if_pos q,if_pos (by omega)]
  ·rw [if_neg q,if_neg (by omega)]
theorem Hk (l:List UInt8) (k:Nat) {o:Nat} (h:(l.getD (k * 1) ji).toNat = o) (h0:0 < o) (h1:o < 17):aj (gX (bt l k)) o [D.v (.int .u32 (((bt l k o:Nat):Int) + 1))] = gX (bt l (k + 1)):=by
 rw [My] at h
 refine (xk (bt l k) o h1 (bt l k o + 1)).trans (cD fun m _=>?_)
 rw [eW,eW,eW,qu]
 by_cases e:m = o
 ·rw [if_pos e,e,if_pos ⟨by omega,h⟩]; rfl
 ·rw [if_neg e,if_neg (fun q=>e (by omega))]; rfl
theorem zM {l:List UInt8} {k:Nat} (hc:cG l 15 = 0) (hk:k < l.length) (o:Nat) (h:(l.getD (k * 1) ji).toNat = o) (h0:0 < o):o ≤ 15 ∧ bt l k o = qn l k ∧ bt l (k + 1) o = qn l k + 1 ∧ qn l k ≤ 65536 ∧ bg l k o ≤ k:=by
 rw [My] at h
 have ho:=eK (eV hc).2.1 hk
 have h1:o ≤ 15:=by omega
 have e:=Cs h (by omega) h1
 have h2:bt l k o = qn l k:=by rw [eW,gw,if_neg (by omega),e]
 have h3:=(xm hc (a:=o) (by omega)).2 (by omega)
 have h4:bg l (k + 1) o = bg l k o + 1:=by rw [qu,if_pos ⟨by omega,h⟩]
 have h5:bt l (k + 1) o = qn l k + 1:=by
  rw [eW,h4,← h2,eW,Nd]
 have h6:bg l (k + 1) o ≤ aL l o:=by
  rw [← Cu,gw,gw,if_neg (by omega),if_neg (by omega)]
  obtain ⟨r,hr⟩:=lG l o (k + 1) (l.length - (k + 1))
  rw [show k + 1 + (l.length - (k + 1)) = l.length from by omega] at hr
  rw [hr,L6]; omega
 refine ⟨h1,h2,h5,?_,xl l k o⟩
 rw [← h2,eW]; omega
theorem Cz {l:List UInt8} {a:Nat} (hc:cG l 15 = 0) (h:a < 17) (o:Nat) (ho:o = a):qv l a + bT l a o ≤ 65536 ∧ (qv l a + bT l a o) * 2 = qv l (a + 1) ∧ qv l (a + 1) ≤ 131072:=by
 subst ho
 have h1:=(xm hc (a:=o) (by omega)).2 (by omega)
 have h2:=(xm hc (a:=o + 1) (by omega)).1
 rw [oD,oD,lI,if_neg (OQ o)]
 refine ⟨h1,?_,h2⟩
 rw [jU,Nk]
theorem Hl {l:List UInt8} {k:Nat} (hk:k < l.length) (h:(l.getD (k * 1) ji).toNat = 0):kx l (k + 1) = kx l k:=by
 rw [My] at h; rw [Cv hk,if_pos h]
theorem Hm {l:List UInt8} {k:Nat} (hk:k < l.length) (h:0 < (l.getD (k * 1) ji).toNat):kx l (k + 1) = (kx l k).set k (qn l k,(l.getD k ji).toNat):=by
 rw [My] at h; rw [Cv hk,if_neg (by omega)]
theorem LZ {l:List UInt8} {k:Nat} (hc:cG l 15 = 0) (hk:k < l.length) (h:0 < (l.getD (k * 1) ji).toNat):aj ((kx l k).flatMap jN) (k * 2) [D.v (.int .u32 (((bt l (k + 1) (l.getD k ji).toNat:Nat):Int) - 1)),D.v (.int .u8 (((l.getD k ji).toNat:Nat):Int))] = (kx l (k + 1)).flatMap jN:=by
 have h2:=zM hc hk (l.getD k ji).toNat (by rw [My]) (by rwa [My] at h)
 rw [Hm hk h,h2.2.2.1,show (((qn l k + 1:Nat):Int) - 1) = ((qn l k:Nat):Int) from by omega]
 exact zK (c:=(qn l k,(l.getD k ji).toNat)) (by rw [oE]; exact hk) (Nk k 2)
theorem zO (l:List UInt8) (n:Nat) (hn:n = l.length) (m:Nat) (hm:1 ≤ m ∧ m ≤ 15) (hc:cG l m = 0):SpecH false Tryz.prog 112 [.sl false n 1 (l.map dB),nD m] [] (.tup [.ref 0 0 0 n 2,iD 0]) [⟨(af l).flatMap jN, 210, true⟩]:=by
 have hL:=(eV hc).1
 have hc15:=(oz hm.2 hc).1
 have ho:=(eV hc15).2.1
 refine SpecH.run T_ok ai Tryz.func112 rfl rfl rfl ⟨ef (fun _=>rfl) _,trivial⟩ rfl 1000 64 (fun R ok=>(.s 5 (.cl 148 false [] (.fn JQ (@Ec (l) (n) om om (m) om)) (.s 4 (.f ((↑(cG l m):Int) != 0) (by (simp <;> (omega))) (.s 8 (.blk 80 80 (Blk.mk [uI 0,uI 0,uI 0,uI 0,uI 0,uI 0,uI 0,uI 0,uI 0,uI 0,uI 0,uI 0,uI 0,uI 0,uI 0,uI 0,uI 0] 234 false) (Blk.mk [ah (bg l 0 0),ah (bg l 0 1),ah (bg l 0 2),ah (bg l 0 3),ah (bg l 0 4),ah (bg l 0 5),ah (bg l 0 6),ah (bg l 0 7),ah (bg l 0 8),ah (bg l 0 9),ah (bg l 0 10),ah (bg l 0 11),ah (bg l 0 12),ah (bg l 0 13),ah (bg l 0 14),ah (bg l 0 15),ah (bg l 0 16)] 234 false) (by (exact aC (Hf l))) (Hn.inl T_ok ai false 20 80 (ay Tryz.prog 149 0) (fun (x:(k:Nat) ×' (hk:k ≤ n) ×' Unit)=>match x with | ⟨k,hk,_⟩=>CutS.mk [(2,D.ptr 80 80 0),(5,D.sl false n 1 (map dB l)),(6,zN n),(7,nD k)] [⟨80,80,80,80,.c ⟨gX (bg l k),234,false⟩⟩] 88) (fun (x:(k:Nat) ×' (hk:k ≤ n) ×' Unit)=>match x with | ⟨k,hk,_⟩=>n - k) [⟨Unit,.exit 0,fun x=>match x with | ()=>CutS.mk [(2,D.ptr 80 80 0),(5,D.sl false n 1 (map dB l)),(6,zN n)] [⟨80,80,80,80,.c ⟨gX (aL l),234,false⟩⟩] 88⟩] 1000 64 (fun | ⟨k,hk,_⟩,Q,next1,last1=>(.s 2 (.br (decide ((k:Int) < (n:Int))) (fun p0=>have p0f:=ba p0; (.s 1 (.chk (true && decide ((k:Int) < (n:Int)) && true) LI (.s 2 (.opt ((map dB l)[k * 1]?) (dB (getD l (k * 1) ji)) (au _ _ om) (.s 4 (.br (decide (0 < (↑(L4 (getD l (k * 1) ji)):Int))) (fun p1=>have p1f:=ba p1; (.s 2 (.chk (true && decide ((↑(L4 (getD l (k * 1) ji)):Int) < (↑17:Int))) Hd (.s 3 (.opt ((gX (bg l k))[0 + L4 (getD l (k * 1) ji) * 1]?) (cO (bg l k (0 + L4 (getD l (k * 1) ji) * 1))) (@tT (bg l k) (0 + L4 (getD l (k * 1) ji) * 1) En) (.s 2 (.opt (aw .u32 ((↑(bg l k (0 + L4 (getD l (k * 1) ji) * 1)):Int) + 1)) (uI ((↑(bg l k (0 + L4 (getD l (k * 1) ji) * 1)):Int) + 1)) (aB (by ( have h9:=xl l k (0 + (l.getD (k * 1) ji).toNat * 1); omega))) (.s 1 (.chk (true && decide ((↑(L4 (getD l (k * 1) ji)):Int) < (↑17:Int))) Hd (.s 2 (.chk (true && L5 (0 + L4 (getD l (k * 1) ji) * 1 + 1) 17) LJ (.lst (aj [ah (bg l k 0),ah (bg l k 1),ah (bg l k 2),ah (bg l k 3),ah (bg l k 4),ah (bg l k 5),ah (bg l k 6),ah (bg l k 7),ah (bg l k 8),ah (bg l k 9),ah (bg l k 10),ah (bg l k 11),ah (bg l k 12),ah (bg l k 13),ah (bg l k 14),ah (bg l k 15),ah (bg l k 16)] (0 + L4 (getD l (k * 1) ji) * 1) [uI ((↑(bg l k (0 + L4 (getD l (k * 1) ji) * 1)):Int) + 1)]) ([ah (bg l (k + 1) 0),ah (bg l (k + 1) 1),ah (bg l (k + 1) 2),ah (bg l (k + 1) 3),ah (bg l (k + 1) 4),ah (bg l (k + 1) 5),ah (bg l (k + 1) 6),ah (bg l (k + 1) 7),ah (bg l (k + 1) 8),ah (bg l (k + 1) 9),ah (bg l (k + 1) 10),ah (bg l (k + 1) 11),ah (bg l (k + 1) 12),ah (bg l (k + 1) 13),ah (bg l (k + 1) 14),ah (bg l (k + 1) 15),ah (bg l (k + 1) 16)]) (@Kh l k (0 + L4 (getD l (k * 1) ji) * 1) om om En) (.s 2 (.ow ((k:Int) + 1) (.s 1 (.val 7 (zI ((k:Int) + 1)) (zN (k + 1)) I6 (Hn.next next1 ⟨(k + 1),om,⟨⟩⟩ I7 [(80,80)] ro))))))))))))))))) (fun p1=>have p1f:=bb p1; (.s 2 (.ow ((k:Int) + 1) (.s 1 (.val 7 (zI ((k:Int) + 1)) (zN (k + 1)) I6 (.blk 80 80 (Blk.mk [ah (bg l k 0),ah (bg l k 1),ah (bg l k 2),ah (bg l k 3),ah (bg l k 4),ah (bg l k 5),ah (bg l k 6),ah (bg l k 7),ah (bg l k 8),ah (bg l k 9),ah (bg l k 10),ah (bg l k 11),ah (bg l k 12),ah (bg l k 13),ah (bg l k 14),ah (bg l k 15),ah (bg l k 16)] 234 false) (Blk.mk [ah (bg l (k + 1) 0),ah (bg l (k + 1) 1),ah (bg l (k + 1) 2),ah (bg l (k + 1) 3),ah (bg l (k + 1) 4),ah (bg l (k + 1) 5),ah (bg l (k + 1) 6),ah (bg l (k + 1) 7),ah (bg l (k + 1) 8),ah (bg l (k + 1) 9),ah (bg l (k + 1) 10),ah (bg l (k + 1) 11),ah (bg l (k + 1) 12),ah (bg l (k + 1) 13),ah (bg l (k + 1) 14),ah (bg l (k + 1) 15),ah (bg l (k + 1) 16)] 234 false) (by (exact aC (Es (by (omega))))) (Hn.next next1 ⟨(k + 1),om,⟨⟩⟩ I7 [(80,80)] ro)))))))))))))) (fun p0=>have p0f:=bb p0; (.blk 80 80 (Blk.mk [ah (bg l k 0),ah (bg l k 1),ah (bg l k 2),ah (bg l k 3),ah (bg l k 4),ah (bg l k 5),ah (bg l k 6),ah (bg l k 7),ah (bg l k 8),ah (bg l k 9),ah (bg l k 10),ah (bg l k 11),ah (bg l k 12),ah (bg l k 13),ah (bg l k 14),ah (bg l k 15),ah (bg l k 16)] 234 false) (Blk.mk [ah (aL l 0),ah (aL l 1),ah (aL l 2),ah (aL l 3),ah (aL l 4),ah (aL l 5),ah (aL l 6),ah (aL l 7),ah (aL l 8),ah (aL l 9),ah (aL l 10),ah (aL l 11),ah (aL l 12),ah (aL l 13),ah (aL l 14),ah (aL l 15),ah (aL l 16)] 234 false) (by (exact aC (Hg (by (omega))))) (Hn.last last1 0 (():Unit) rfl [(80,80)] ro)))))) (fun | ⟨k,hk,_⟩=>by kernel_rfl) ⟨(0),om,⟨⟩⟩ [(80,80)] ro (bZ (fun | ()=>(.s 19 (.val 2 (uI 0) (ah (qv l 0)) (by (rw [oD]; rfl)) (.blk 120 120 (Blk.mk [ah (aL l 0),ah (aL l 1),ah (aL l 2),ah (aL l 3),ah (aL l 4),ah (aL l 5),ah (aL l 6),ah (aL l 7),ah (aL l 8),ah (aL l 9),ah (aL l 10),ah (aL l 11),ah (aL l 12),ah (aL l 13),ah (aL l 14),ah (aL l 15),ah (aL l 16)] 234 false) (Blk.mk [ah (bT l 0 0),ah (bT l 0 1),ah (bT l 0 2),ah (bT l 0 3),ah (bT l 0 4),ah (bT l 0 5),ah (bT l 0 6),ah (bT l 0 7),ah (bT l 0 8),ah (bT l 0 9),ah (bT l 0 10),ah (bT l 0 11),ah (bT l 0 12),ah (bT l 0 13),ah (bT l 0 14),ah (bT l 0 15),ah (bT l 0 16)] 234 false) (by (exact aC (Hh l))) (Hn.inl T_ok ai false 21 144 (ay Tryz.prog 150 0) (fun (x:(a:Nat) ×' (ha:a ≤ 17) ×' Unit)=>match x with | ⟨a,ha,_⟩=>CutS.mk [(0,D.ptr 120 120 0),(2,cO (qv l a)),(4,nD a)] [⟨80,80,80,80,.b ⟨[ah (aL l 0),ah (aL l 1),ah (aL l 2),ah (aL l 3),ah (aL l 4),ah (aL l 5),ah (aL l 6),ah (aL l 7),ah (aL l 8),ah (aL l 9),ah (aL l 10),ah (aL l 11),ah (aL l 12),ah (aL l 13),ah (aL l 14),ah (aL l 15),ah (aL l 16)],234,false⟩⟩,⟨120,120,120,120,.c ⟨gX (bT l a),234,false⟩⟩] 160) (fun (x:(a:Nat) ×' (ha:a ≤ 17) ×' Unit)=>match x with | ⟨a,ha,_⟩=>17 - a) [⟨Unit,.exit 0,fun x=>match x with | ()=>CutS.mk [(0,D.ptr 120 120 0)] [⟨80,80,80,80,.b ⟨[ah (aL l 0),ah (aL l 1),ah (aL l 2),ah (aL l 3),ah (aL l 4),ah (aL l 5),ah (aL l 6),ah (aL l 7),ah (aL l 8),ah (aL l 9),ah (aL l 10),ah (aL l 11),ah (aL l 12),ah (aL l 13),ah (aL l 14),ah (aL l 15),ah (aL l 16)],234,false⟩⟩,⟨120,120,120,120,.c ⟨gX (bt l 0),234,false⟩⟩] 160⟩] 1000 64 (fun | ⟨a,ha,_⟩,Q,next1,last1=>(.s 2 (.br (decide ((a:Int) < 17)) (fun p2=>have p2f:=ba p2; (.s 10 (.chk (true && decide ((a:Int) < (↑17:Int))) bz (.s 3 (.opt ((gX (bT l a))[0 + a * 1]?) (cO (bT l a (0 + a * 1))) (@tT (bT l a) (0 + a * 1) om) (.s 2 (.opt (aw .u32 ((↑(qv l a):Int) + (↑(bT l a (0 + a * 1)):Int))) (uI ((↑(qv l a):Int) + (↑(bT l a (0 + a * 1)):Int))) (aB LK) (.s 2 (.opt (aw .u32 (((↑(qv l a):Int) + (↑(bT l a (0 + a * 1)):Int)) * 2)) (uI (((↑(qv l a):Int) + (↑(bT l a (0 + a * 1)):Int)) * 2)) (aB LK) (.s 4 (.chk (true && decide ((a:Int) < (↑17:Int))) bz (.s 2 (.chk (true && L5 (0 + a * 1 + 1) 17) (by (refine L9 ?_; (omega))) (.lst (aj [ah (bT l a 0),ah (bT l a 1),ah (bT l a 2),ah (bT l a 3),ah (bT l a 4),ah (bT l a 5),ah (bT l a 6),ah (bT l a 7),ah (bT l a 8),ah (bT l a 9),ah (bT l a 10),ah (bT l a 11),ah (bT l a 12),ah (bT l a 13),ah (bT l a 14),ah (bT l a 15),ah (bT l a 16)] (0 + a * 1) [ah (qv l a)]) ([ah (bT l (a + 1) 0),ah (bT l (a + 1) 1),ah (bT l (a + 1) 2),ah (bT l (a + 1) 3),ah (bT l (a + 1) 4),ah (bT l (a + 1) 5),ah (bT l (a + 1) 6),ah (bT l (a + 1) 7),ah (bT l (a + 1) 8),ah (bT l (a + 1) 9),ah (bT l (a + 1) 10),ah (bT l (a + 1) 11),ah (bT l (a + 1) 12),ah (bT l (a + 1) 13),ah (bT l (a + 1) 14),ah (bT l (a + 1) 15),ah (bT l (a + 1) 16)]) (@Hj l a (0 + a * 1) ((↑(qv l a):Int)) om om om) (.s 2 (.ow ((a:Int) + 1) (.s 1 (.val 2 (uI (((↑(qv l a):Int) + (↑(bT l a (0 + a * 1)):Int)) * 2)) (ah (qv l (a + 1))) LL (.val 4 (zI ((a:Int) + 1)) (zN (a + 1)) LL (Hn.next next1 ⟨(a + 1),om,⟨⟩⟩ (by show 17 - (a + 1) < 17 - a; clear next1 last1; omega) [(80,80),(120,120)] ro)))))))))))))))))))) (fun p2=>have p2f:=bb p2; (.blk 120 120 (Blk.mk [ah (bT l a 0),ah (bT l a 1),ah (bT l a 2),ah (bT l a 3),ah (bT l a 4),ah (bT l a 5),ah (bT l a 6),ah (bT l a 7),ah (bT l a 8),ah (bT l a 9),ah (bT l a 10),ah (bT l a 11),ah (bT l a 12),ah (bT l a 13),ah (bT l a 14),ah (bT l a 15),ah (bT l a 16)] 234 false) (Blk.mk [ah (bt l 0 0),ah (bt l 0 1),ah (bt l 0 2),ah (bt l 0 3),ah (bt l 0 4),ah (bt l 0 5),ah (bt l 0 6),ah (bt l 0 7),ah (bt l 0 8),ah (bt l 0 9),ah (bt l 0 10),ah (bt l 0 11),ah (bt l 0 12),ah (bt l 0 13),ah (bt l 0 14),ah (bt l 0 15),ah (bt l 0 16)] 234 false) (by (exact aC (Hi (by (omega))))) (Hn.last last1 0 (():Unit) rfl [(80,80),(120,120)] ro)))))) (fun | ⟨a,ha,_⟩=>by kernel_rfl) ⟨(0),om,⟨⟩⟩ [(80,80),(120,120)] ro (bZ (fun | ()=>(.s 3 (.chk (true && decide ((n:Int) ≤ (n:Int)) && true && true && true && true && decide ((↑(TI.bytes tO):Int) * (n:Int) ≤ 140737488355328)) (by (have h9:((tO.bytes:Nat):Int) = 8:=rfl; rw [h9]; simp; omega)) (.s 4 (.blk 184 184 (Blk.mk (cv [uI 0,bI 0] (n * 2)) 210 true) (Blk.mk (flatMap jN (kx l 0)) 210 true) (by (refine aC ?_; rw [Ek,He,hn])) (Hn.inl T_ok ai false 39 0 (ay Tryz.prog 112 0) (fun (x:(k:Nat) ×' (hk:k ≤ n) ×' Unit)=>match x with | ⟨k,hk,_⟩=>CutS.mk [(7,D.ptr 0 0 0),(8,D.ref 8 8 0 n 2),(23,D.sl false n 1 (map dB l)),(24,zN n),(25,nD k)] [⟨0,0,120,120,.c ⟨gX (bt l k),234,false⟩⟩,⟨8,8,184,184,.b ⟨(kx l k).flatMap jN,210,true⟩⟩] 16) (fun (x:(k:Nat) ×' (hk:k ≤ n) ×' Unit)=>match x with | ⟨k,hk,_⟩=>n - k) [⟨Unit,.exit 0,fun x=>match x with | ()=>CutS.mk [(7,D.ptr 0 0 0),(8,D.ref 8 8 0 n 2),(23,D.sl false n 1 (map dB l)),(24,zN n)] [⟨8,8,184,184,.b ⟨(af l).flatMap jN,210,true⟩⟩] 16⟩] 1000 64 (fun | ⟨k,hk,_⟩,Q,next1,last1=>(.s 2 (.br (decide ((k:Int) < (n:Int))) (fun p3=>have p3f:=ba p3; (.s 2 (.chk (true && decide ((k:Int) < (n:Int)) && true) LI (.s 2 (.opt ((map dB l)[k * 1]?) (dB (getD l (k * 1) ji)) (au _ _ om) (.s 5 (.br (decide (0 < (↑(L4 (getD l (k * 1) ji)):Int))) (fun p4=>have p4f:=ba p4; (.s 12 (.chk (true && decide ((↑(L4 (getD l (k * 1) ji)):Int) < (↑17:Int))) Hd (.s 3 (.opt ((gX (bt l k))[0 + L4 (getD l (k * 1) ji) * 1]?) (cO (bt l k (0 + L4 (getD l (k * 1) ji) * 1))) (@tT (bt l k) (0 + L4 (getD l (k * 1) ji) * 1) En) (.s 2 (.opt (aw .u32 ((↑(bt l k (0 + L4 (getD l (k * 1) ji) * 1)):Int) + 1)) (uI ((↑(bt l k (0 + L4 (getD l (k * 1) ji) * 1)):Int) + 1)) (aB En) (.s 2 (.chk (true && decide ((↑(L4 (getD l (k * 1) ji)):Int) < (↑17:Int))) Hd (.s 2 (.chk (true && L5 (0 + L4 (getD l (k * 1) ji) * 1 + 1) 17) LJ (.lst (aj [ah (bt l k 0),ah (bt l k 1),ah (bt l k 2),ah (bt l k 3),ah (bt l k 4),ah (bt l k 5),ah (bt l k 6),ah (bt l k 7),ah (bt l k 8),ah (bt l k 9),ah (bt l k 10),ah (bt l k 11),ah (bt l k 12),ah (bt l k 13),ah (bt l k 14),ah (bt l k 15),ah (bt l k 16)] (0 + L4 (getD l (k * 1) ji) * 1) [uI ((↑(bt l k (0 + L4 (getD l (k * 1) ji) * 1)):Int) + 1)]) ([ah (bt l (k + 1) 0),ah (bt l (k + 1) 1),ah (bt l (k + 1) 2),ah (bt l (k + 1) 3),ah (bt l (k + 1) 4),ah (bt l (k + 1) 5),ah (bt l (k + 1) 6),ah (bt l (k + 1) 7),ah (bt l (k + 1) 8),ah (bt l (k + 1) 9),ah (bt l (k + 1) 10),ah (bt l (k + 1) 11),ah (bt l (k + 1) 12),ah (bt l (k + 1) 13),ah (bt l (k + 1) 14),ah (bt l (k + 1) 15),ah (bt l (k + 1) 16)]) (@Hk l k (0 + L4 (getD l (k * 1) ji) * 1) om om En) (.s 4 (.chk (true && decide ((↑(L4 (getD l (k * 1) ji)):Int) < (↑17:Int))) Hd (.s 3 (.opt ((gX (bt l (k + 1)))[0 + L4 (getD l (k * 1) ji) * 1]?) (cO (bt l (k + 1) (0 + L4 (getD l (k * 1) ji) * 1))) (@tT (bt l (k + 1)) (0 + L4 (getD l (k * 1) ji) * 1) En) (.s 2 (.opt (aw .u32 ((↑(bt l (k + 1) (0 + L4 (getD l (k * 1) ji) * 1)):Int) - 1)) (uI ((↑(bt l (k + 1) (0 + L4 (getD l (k * 1) ji) * 1)):Int) - 1)) (aB En) (.s 10 (.chk (true && decide ((k:Int) < (n:Int))) bz (.s 1 (.chk (true && L5 (0 + k * 2 + 2) (length (flatMap jN (kx l k)))) (by (rw [bl (k:=2) (fun _=>rfl),oE]; simp only [Mr]; refine L9 ?_; (omega))) (.lst (aj (flatMap jN (kx l k)) (0 + k * 2) [uI ((↑(bt l (k + 1) (0 + L4 (getD l (k * 1) ji) * 1)):Int) - 1),dL (L4 (getD l (k * 1) ji))]) (aj (flatMap jN (kx l k)) (k * 2) [uI ((↑(bt l (k + 1) (L4 (getD l k ji))):Int) - 1),dL (L4 (getD l k ji))]) (by (simp; done)) (.s 2 (.ow ((k:Int) + 1) (.s 1 (.val 25 (zI ((k:Int) + 1)) (zN (k + 1)) I6 (.blk 8 8 (Blk.mk (aj (flatMap jN (kx l k)) (k * 2) [uI ((↑(bt l (k + 1) (L4 (getD l k ji))):Int) - 1),dL (L4 (getD l k ji))]) 210 true) (Blk.mk (flatMap jN (kx l (k + 1))) 210 true) (by (exact aC (LZ hc15 (by (omega)) (by (omega))))) (Hn.next next1 ⟨(k + 1),om,⟨⟩⟩ I7 [(0,0),(8,8)] ro))))))))))))))))))))))))))))) (fun p4=>have p4f:=bb p4; (.s 2 (.ow ((k:Int) + 1) (.s 1 (.val 25 (zI ((k:Int) + 1)) (zN (k + 1)) I6 (.blk 0 0 (Blk.mk [ah (bt l k 0),ah (bt l k 1),ah (bt l k 2),ah (bt l k 3),ah (bt l k 4),ah (bt l k 5),ah (bt l k 6),ah (bt l k 7),ah (bt l k 8),ah (bt l k 9),ah (bt l k 10),ah (bt l k 11),ah (bt l k 12),ah (bt l k 13),ah (bt l k 14),ah (bt l k 15),ah (bt l k 16)] 234 false) (Blk.mk [ah (bt l (k + 1) 0),ah (bt l (k + 1) 1),ah (bt l (k + 1) 2),ah (bt l (k + 1) 3),ah (bt l (k + 1) 4),ah (bt l (k + 1) 5),ah (bt l (k + 1) 6),ah (bt l (k + 1) 7),ah (bt l (k + 1) 8),ah (bt l (k + 1) 9),ah (bt l (k + 1) 10),ah (bt l (k + 1) 11),ah (bt l (k + 1) 12),ah (bt l (k + 1) 13),ah (bt l (k + 1) 14),ah (bt l (k + 1) 15),ah (bt l (k + 1) 16)] 234 false) (by (exact aC (Et (by (omega))))) (.blk 8 8 (Blk.mk (flatMap jN (kx l k)) 210 true) (Blk.mk (flatMap jN (kx l (k + 1))) 210 true) (by (rw [Hl (by (omega)) (by (omega))])) (Hn.next next1 ⟨(k + 1),om,⟨⟩⟩ I7 [(0,0),(8,8)] ro))))))))))))))) (fun p3=>have p3f:=bb p3; (.blk 8 8 (Blk.mk (flatMap jN (kx l k)) 210 true) (Blk.mk (flatMap jN (af l)) 210 true) (by (rw [show k = l.length from by (omega),Cw ho])) (Hn.last last1 0 (():Unit) rfl [(8,8)] ro)))))) (fun | ⟨k,hk,_⟩=>by kernel_rfl) ⟨(0),om,⟨⟩⟩ [(120,120),(184,184)] ro (bZ (fun | ()=>(.s 3 (.out [8] [8] (D.tup [D.ref 0 0 0 n 2,zI 0]) [Blk.mk (flatMap jN (af l)) 210 true] R (ok _ _ wr wr)))))))))))))))))))))))))) (by kernel_rfl)
def tU (l:List UInt8) (m:Nat):Nat → Nat
 | 0=>0
 | n + 1=>if m < n + 1 ∧ l.getD n ji = 0 then tU l m n else n + 1
def gx (l:List UInt8) (m:Nat):Nat:=lk l (tU l m l.length)
theorem lK (l:List UInt8) (m:Nat):gx l m = tU l m l.length:=aG _ _
theorem Ki {l:List UInt8} {m n T u:Nat} (hR:tU l m n = T) (h:m < n) (hu:u = n - 1) (h2:(((l.getD u ji).toNat:Nat):Int) = 0):tU l m (n - 1) = T:=by
 subst hu
 obtain ⟨g,rfl⟩:∃ g,n = g + 1:=⟨n - 1,by omega⟩
 rw [← hR,tU,if_pos ⟨by omega,Ck h2⟩]; rfl
theorem Ho {l:List UInt8} {m n T:Nat} (hR:tU l m n = T) (h:¬ (m < n ∧ (l.getD (n - 1) ji).toNat = 0)):n = T:=by
 rw [← hR]
 cases n with
 | zero=>rfl
 | succ n=>exact (if_neg (fun q=>h ⟨by omega,by rw [NJ,q.2]; rfl⟩)).symm
theorem xo {l:List UInt8} {m:Nat}:∀ n,tU l m n ≤ n ∧ (m ≤ n → m ≤ tU l m n)
 | 0=>⟨Mh _,id⟩
 | n + 1=>by
  rw [tU]; split
  ·have:=xo (l:=l) (m:=m) n; omega
  ·omega
theorem jq (l:List UInt8) (m:Nat):gx l m ≤ l.length ∧ (m ≤ l.length → m ≤ gx l m):=by rw [lK]; exact xo _
structure Nm where
 v:Nat
 n:Nat
 deriving Inhabited
abbrev aS (x:Nm):List D:=[cO x.v,nD x.n]
theorem b5 (l:List Nm):(l.flatMap aS).length = l.length * 2:=bl (k:=2) (fun _=>rfl) l
theorem b6 (l m:List Nm):(l ++ m).flatMap aS = l.flatMap aS ++ m.flatMap aS:=NF
theorem Eu (l:List UInt8) (L:Nat) (hL:L = l.length) (hL2:L ≤ 320) (m:Nat) (hm:m ≤ 1000) (T:Nat) (hT:gx l m = T):SpecH false Tryz.prog 109 [.sl false L 1 (l.map dB),nD m] [] (nD T) []:=by
 refine SpecH.run T_ok ai Tryz.func109 rfl rfl rfl trivial rfl 1000 64 (fun R ok=>(.s 4 (Hn.inl T_ok ai false 22 0 (ay Tryz.prog 109 0) (fun (x:(n:Nat) ×' (hn:n ≤ L) ×' (hR:tU l m n = T) ×' Unit)=>match x with | ⟨n,hn,hR,_⟩=>CutS.mk [(0,D.sl false L 1 (map dB l)),(1,zN m),(5,nD n)] [] 0) (fun (x:(n:Nat) ×' (hn:n ≤ L) ×' (hR:tU l m n = T) ×' Unit)=>match x with | ⟨n,hn,hR,_⟩=>n) [⟨Unit,.exit 0,fun x=>match x with | ()=>CutS.mk [(0,D.sl false L 1 (map dB l)),(1,zN m),(5,nD T)] [] 0⟩] 1000 64 (fun | ⟨n,hn,hR,_⟩,Q,next1,last1=>(.s 6 (.br (decide ((m:Int) < (n:Int))) (fun p0=>have p0f:=ba p0; (.s 5 (.ow ((n:Int) - 1) (.s 2 (.chk (decide (0 ≤ (n:Int) - 1) && decide ((n:Int) - 1 < (L:Int)) && true) (by ((refine aI ?_ ?_) <;> (repeat' (first | (refine aI ?_ ?_) | (with_reducible rfl) | (refine decide_eq_true ?_) | (refine L9 ?_) | (refine er ?_))) <;> (omega))) (.s 3 (.opt ((map dB l)[u7 ((n:Int) - 1) * 1]?) (dB (getD l (u7 ((n:Int) - 1) * 1) ji)) (au _ _ om) (.s 4 (.br ((↑(L4 (getD l (u7 ((n:Int) - 1) * 1) ji)):Int) == 0) (fun p1=>have p1f:=eq_of_beq p1; (.s 3 (.ow ((n:Int) - 1) (.s 1 (.val 5 (zI ((n:Int) - 1)) (zN (n - 1)) (by ( refine aO ?_; omega)) (Hn.next next1 ⟨(n - 1),om,(by (simp only [My] at *;  exact Ki hR om (u:=((n:Int) - 1).toNat) om om)),⟨⟩⟩ (by show n - 1 < n; clear next1 last1; omega) [] ro)))))) (fun p1=>have p1f:=av p1; (.val 5 (zN n) (zN T) (by (simp only [My] at *;  rw [Ho hR (by rw [show ((n:Int) - 1).toNat = n - 1 from by omega] at *; omega)])) (Hn.last last1 0 (():Unit) rfl [] ro)))))))))))) (fun p0=>have p0f:=bb p0; (.s 12 (.val 5 (zN n) (zN T) (by ( rw [Ho hR om])) (Hn.last last1 0 (():Unit) rfl [] ro))))))) (fun | ⟨n,hn,hR,_⟩=>by kernel_rfl) ⟨(L),om,(by (rw [hL]; exact (lK l m).symm.trans hT)),⟨⟩⟩ [] ro (bZ (fun | ()=>(.s 2 (.out [] [] (zN T) [] R (ok _ _ wr wr)))))))) (by kernel_rfl)
def nr (X:List Nm):Nat → Nat
 | 0=>0
 | i + 1=>nr X i + (X.getD i ji).n
def xp (X:List Nm):Nat:=lk X (nr X X.length)
theorem sq (X:List Nm):xp X = nr X X.length:=aG _ _
theorem CA {X:List Nm} (h:∀ i,(X.getD i ji).n ≤ 32):∀ i,nr X i ≤ 32 * i
 | 0=>Mh _
 | i + 1=>by have:=CA h i; have:=h i; rw [nr]; omega
theorem Hp {p:Prop} (h:p:=by (simp;  have h9:=fv (v:=v) (c:=c) (m:=m) om; have h8:=mn m (c - m); omega)):p:=h
theorem Hq {p:Prop} (h:p:=by ( have h9:=fv (v:=v) (c:=c) (m:=m) om; have h8:=mn m (c - m); omega)):p:=h
theorem Hr (c:Nat) (hc:c ≤ 100000):SpecH false Tryz.prog 141 [.v (.int .u64 1),.v (.int .u64 c)] [] (.tup [.v (.int .u64 0),.v (.int .u64 c)]) []:=by
 refine SpecH.run T_ok ai Tryz.func141 rfl rfl rfl trivial rfl 1000 64 (fun R ok=>(.s 22 (.opt (bi Nr (Mj Nr (↑(MD (Mf 64 (c:Int) &&& Mf 64 4294967295)):Int))) (D.v (MS .u64 ((c:Int) % 4294967296))) (aA (@jM 32 (4294967296:Int) ((c:Int)) (4294967295) om om om om)) (.s 4 (.opt (bi Nr (MK (c:Int) 4294967296)) (D.v (MS .u64 ((c:Int) / 4294967296))) (aA (@fT  ((c:Int)) (4294967296) om)) (.s 5 (.opt (aw .u64 (1 * ((c:Int) % 4294967296))) (D.v (MS .u64 (1 * ((c:Int) % 4294967296)))) (bk om) (.s 5 (.opt (aw .u64 (0 * ((c:Int) % 4294967296))) (D.v (MS .u64 (0 * ((c:Int) % 4294967296)))) (bk om) (.s 3 (.opt (bi Nr (MK (1 * ((c:Int) % 4294967296)) 4294967296)) (D.v (MS .u64 (1 * ((c:Int) % 4294967296) / 4294967296))) (aA (@fT  (1 * ((c:Int) % 4294967296)) (4294967296) om)) (.s 2 (.opt (aw .u64 (0 * ((c:Int) % 4294967296) + 1 * ((c:Int) % 4294967296) / 4294967296)) (D.v (MS .u64 (0 * ((c:Int) % 4294967296) + 1 * ((c:Int) % 4294967296) / 4294967296))) (bk om) (.s 4 (.opt (bi Nr (Mj Nr (↑(MD (Mf 64 (0 * ((c:Int) % 4294967296) + 1 * ((c:Int) % 4294967296) / 4294967296) &&& Mf 64 4294967295)):Int))) (D.v (MS .u64 ((0 * ((c:Int) % 4294967296) + 1 * ((c:Int) % 4294967296) / 4294967296) % 4294967296))) (aA (@jM 32 (4294967296:Int) (0 * ((c:Int) % 4294967296) + 1 * ((c:Int) % 4294967296) / 4294967296) (4294967295) om om om om)) (.s 4 (.opt (bi Nr (MK (0 * ((c:Int) % 4294967296) + 1 * ((c:Int) % 4294967296) / 4294967296) 4294967296)) (D.v (MS .u64 ((0 * ((c:Int) % 4294967296) + 1 * ((c:Int) % 4294967296) / 4294967296) / 4294967296))) (aA (@fT  (0 * ((c:Int) % 4294967296) + 1 * ((c:Int) % 4294967296) / 4294967296) (4294967296) om)) (.s 6 (.opt (aw .u64 (1 * ((c:Int) / 4294967296))) (D.v (MS .u64 (1 * ((c:Int) / 4294967296)))) (bk om) (.s 2 (.opt (aw .u64 ((0 * ((c:Int) % 4294967296) + 1 * ((c:Int) % 4294967296) / 4294967296) % 4294967296 + 1 * ((c:Int) / 4294967296))) (D.v (MS .u64 ((0 * ((c:Int) % 4294967296) + 1 * ((c:Int) % 4294967296) / 4294967296) % 4294967296 + 1 * ((c:Int) / 4294967296)))) (bk om) (.s 5 (.opt (aw .u64 (0 * ((c:Int) / 4294967296))) (D.v (MS .u64 (0 * ((c:Int) / 4294967296)))) (bk om) (.s 3 (.opt (aw .u64 (0 * ((c:Int) / 4294967296) + (0 * ((c:Int) % 4294967296) + 1 * ((c:Int) % 4294967296) / 4294967296) / 4294967296)) (D.v (MS .u64 (0 * ((c:Int) / 4294967296) + (0 * ((c:Int) % 4294967296) + 1 * ((c:Int) % 4294967296) / 4294967296) / 4294967296))) (bk om) (.s 3 (.opt (bi Nr (MK ((0 * ((c:Int) % 4294967296) + 1 * ((c:Int) % 4294967296) / 4294967296) % 4294967296 + 1 * ((c:Int) / 4294967296)) 4294967296)) (D.v (MS .u64 (((0 * ((c:Int) % 4294967296) + 1 * ((c:Int) % 4294967296) / 4294967296) % 4294967296 + 1 * ((c:Int) / 4294967296)) / 4294967296))) (aA (@fT  ((0 * ((c:Int) % 4294967296) + 1 * ((c:Int) % 4294967296) / 4294967296) % 4294967296 + 1 * ((c:Int) / 4294967296)) (4294967296) om)) (.s 2 (.opt (aw .u64 (0 * ((c:Int) / 4294967296) + (0 * ((c:Int) % 4294967296) + 1 * ((c:Int) % 4294967296) / 4294967296) / 4294967296 + ((0 * ((c:Int) % 4294967296) + 1 * ((c:Int) % 4294967296) / 4294967296) % 4294967296 + 1 * ((c:Int) / 4294967296)) / 4294967296)) (D.v (MS .u64 (0 * ((c:Int) / 4294967296) + (0 * ((c:Int) % 4294967296) + 1 * ((c:Int) % 4294967296) / 4294967296) / 4294967296 + ((0 * ((c:Int) % 4294967296) + 1 * ((c:Int) % 4294967296) / 4294967296) % 4294967296 + 1 * ((c:Int) / 4294967296)) / 4294967296))) (bk om) (.s 5 (.opt (aw .u64 (1 * (c:Int))) (D.v (MS .u64 (1 * (c:Int)))) (bk om) (.s 12 (.out [] [] (D.tup [D.v (MS .u64 (0 * ((c:Int) / 4294967296) + (0 * ((c:Int) % 4294967296) + 1 * ((c:Int) % 4294967296) / 4294967296) / 4294967296 + ((0 * ((c:Int) % 4294967296) + 1 * ((c:Int) % 4294967296) / 4294967296) % 4294967296 + 1 * ((c:Int) / 4294967296)) / 4294967296)),D.v (MS .u64 (1 * (c:Int)))]) [] R (ok _ _ (by (simp <;> (omega))) wr)))))))))))))))))))))))))))))))))) (by kernel_rfl)
def b8 (v:UInt8) (c m:Nat):List UInt8:=Ml m v ++ Ml (c - m) 0
theorem fv {v:UInt8} {c m:Nat} (h:m ≤ c):(b8 v c m).length = c:=by unfold b8; simp; omega
theorem mn (a b:Nat):M3 a b ≤ a ∧ M3 a b ≤ b ∧ (1 ≤ a → 1 ≤ b → 1 ≤ M3 a b):=by
 show min a b ≤ a ∧ min a b ≤ b ∧ (1 ≤ a → 1 ≤ b → 1 ≤ min a b)
 omega
theorem Kj {L:List D} {m:Nat}:(bif true && L2 (m * 1) L.length then L else (L.drop 0).take (m * 1)) = L.take m:=by
 rw [My,Ns]
 cases h:(true && L2 m L.length) with
 | false=>rfl
 | true =>
  have:=Ma ((Mr _).symm.trans h)
  rw [cond_true,this,M8]
theorem Ew {v:UInt8} {c:Nat} (h:1 ≤ c):aj (cv [D.v (.int .u8 0)] c) 0 (ME (M3 1 c) [D.v (.int .u8 ((v.toNat:Nat):Int))]) = (b8 v c 1).map dB:=by
 have e:M3 1 c = 1:=by show min 1 c = 1; omega
 have r:cv [D.v (.int .u8 0)] c = Ml c (dB 0):=by
  rw [OJ]
  refine ⟨by simp [cv],fun d hd=>?_⟩
  unfold cv at hd
  obtain ⟨j,_,rfl⟩:=List.mem_map.1 hd
  show [D.v (.int .u8 0)].getD (j % 1) ji = dB 0
  rw [Nat.mod_one]; rfl
 rw [e,r]
 unfold b8 aj
 rw [MO,Nv,Nv,OZ]
 rfl
theorem Ex {v:UInt8} {c m k:Nat} (h:k ≤ m) (h2:m + k ≤ c):aj ((b8 v c m).map dB) m (ND dB (ME k (ME m (b8 v c m)))) = (b8 v c (m + k)).map dB:=by
 have e1:(b8 v c m).take m = Ml m v:=by
  unfold b8
  rw [NN (by simp),PD,Nat.min_self]
 unfold aj
 rw [← OS,e1,PD,Pn h,Mg,MA,← List.map_drop,← MO,← MO]
 congr 1
 unfold b8
 rw [PW,OZ,OZ,MA,show m - (m + k) = 0 from by omega,show c - m - (m + k - m) = c - (m + k) from by omega]
 simp [List.replicate_append_replicate]
theorem qw (nn:Bool) (v:UInt8) (c:Nat) (hc:1 ≤ c ∧ c ≤ 100000):SpecH false Tryz.prog 105 [.sl nn 1 1 [dB v],nD c] [] (.ref 0 0 0 c 1) [⟨(Ml c v).map dB, 5, true⟩]:=by
 refine SpecH.run T_ok ai Tryz.func105 rfl rfl rfl ⟨aT _,trivial⟩ rfl 1000 64 (fun R ok=>(.s 11 (.opt (aw .u64 (c:Int)) (D.v (MS .u64 (c:Int))) (bk om) (.s 1 (.cl 141 false [] (.fn JO (@Hr (c) om)) (.s 17 (.f (decide (9223372036854775807 < (c:Int))) (by (refine decide_eq_false ?_; (omega))) (.s 2 (.ow (c:Int) (.s 1 (.chk (true && decide ((c:Int) ≤ (c:Int)) && true && true && true && true && decide ((↑(TI.bytes zB):Int) * (c:Int) ≤ 140737488355328)) (by (have h9:((zB.bytes:Nat):Int) = 1:=rfl; rw [h9]; simp; omega)) (.s 4 (.chk (true && NK 0 (M3 1 c) && L5 (0 + c) (length (cv [bI 0] (c * 1)))) (by (simp_all; done)) (.lst (aj (cv [bI 0] (c * 1)) 0 (take (M3 1 c) [dL (L4 v)])) (aj (cv [bI 0] c) 0 (take (M3 1 c) [dL (L4 v)])) (by (simp; done)) (.s 1 (.val 8 (zN (M3 1 c)) (zI 1) (by (simp_all; done)) (.blk 176 176 (Blk.mk (aj (cv [bI 0] c) 0 (take (M3 1 c) [dL (L4 v)])) 5 true) (Blk.mk (map dB (b8 v c 1)) 5 true) (by (refine aC (Ew om))) (Hn.inl T_ok ai false 48 0 (ay Tryz.prog 105 0) (fun (x:(m:Nat) ×' (hm:1 ≤ m ∧ m ≤ c) ×' Unit)=>match x with | ⟨m,hm,_⟩=>CutS.mk [(7,D.ref 0 0 0 c 1),(8,nD m)] [⟨0,0,176,176,.b ⟨(b8 v c m).map dB,5,true⟩⟩] 8) (fun (x:(m:Nat) ×' (hm:1 ≤ m ∧ m ≤ c) ×' Unit)=>match x with | ⟨m,hm,_⟩=>c - m) [⟨Unit,.exit 0,fun x=>match x with | ()=>CutS.mk [(7,D.ref 0 0 0 c 1)] [⟨0,0,176,176,.b ⟨(replicate c v).map dB,5,true⟩⟩] 8⟩] 1000 64 (fun | ⟨m,hm,_⟩,Q,next1,last1=>(.s 5 (.br (decide ((m:Int) < (c:Int))) (fun p0=>have p0f:=ba p0; (.s 5 (.chk (aM (some (m:Int)) none none c && true) Hp (.s 3 (.chk (aM none (some (m:Int)) none c && true) Hp (.s 1 (.chk (true && L5 (0 + m * 1) (length (map dB (b8 v c m))) && true && true && true && NK 0 (M3 m (c - m)) && L5 (0 + m * 1 + (c - m)) (length (map dB (b8 v c m)))) (by (simp only [Mr,Mv,Mg];  have h9:=fv (v:=v) (c:=c) (m:=m) om; have h8:=mn m (c - m); simp only [L7]; refine ⟨⟨L9 om,L9 om⟩,L9 om⟩)) (.lst (aj (map dB (b8 v c m)) (0 + m * 1) (take (M3 m (c - m)) (bif true && L2 (m * 1) (length (map dB (b8 v c m))) then map dB (b8 v c m) else take (m * 1) (drop 0 (map dB (b8 v c m)))))) (aj (map dB (b8 v c m)) m (map dB (take (M3 m (c - m)) (take m (b8 v c m))))) (by (rw [Kj,My,Mw,OS,OS])) (.s 2 (.op ((m:Int) + (↑(M3 m (c - m)):Int)) Hq (.s 1 (.val 8 (zI ((m:Int) + (↑(M3 m (c - m)):Int))) (zN (m + M3 m (c - m))) (by (refine aO ?_; (omega))) (.blk 0 0 (Blk.mk (aj (map dB (b8 v c m)) m (map dB (take (M3 m (c - m)) (take m (b8 v c m))))) 5 true) (Blk.mk (map dB (b8 v c (m + M3 m (c - m)))) 5 true) (by ( have h9:=fv (v:=v) (c:=c) (m:=m) om; have h8:=mn m (c - m); refine aC (Ex om om))) (Hn.next next1 ⟨(m + M3 m (c - m)),Hq,⟨⟩⟩ (by show c - (m + M3 m (c - m)) < c - m; clear next1 last1; ( have h9:=fv (v:=v) (c:=c) (m:=m) om; have h8:=mn m (c - m); omega)) [(0,0)] ro)))))))))))))) (fun p0=>have p0f:=bb p0; (.blk 0 0 (Blk.mk (map dB (b8 v c m)) 5 true) (Blk.mk (map dB (replicate c v)) 5 true) (by (rw [show m = c from by (omega)]; unfold b8; simp; done)) (Hn.last last1 0 (():Unit) rfl [(0,0)] ro)))))) (fun | ⟨m,hm,_⟩=>by kernel_rfl) ⟨(1),om,⟨⟩⟩ [(176,176)] ro (bZ (fun | ()=>(.s 2 (.out [0] [0] (D.ref 0 0 0 c 1) [Blk.mk (map dB (replicate c v)) 5 true] R (ok _ _ wr wr))))))))))))))))))))))) (by kernel_rfl)
def cH:List UInt8:=Ml 144 8 ++ Ml 112 9 ++ Ml 24 7 ++ Ml 8 8
def fw:List UInt8:=Ml 32 5
theorem Hs (R:List UInt8) (hR:R = Ml 144 8):SpecH false Tryz.prog 105 [.sl true 1 1 [.v (.int .u8 8)],iD 144] [] (.ref 0 0 0 144 1) [⟨R.map dB, 5, true⟩]:=by
 subst hR; exact qw true 8 144 (by decide)
theorem Ht (R:List UInt8) (hR:R = Ml 112 9):SpecH false Tryz.prog 105 [.sl true 1 1 [.v (.int .u8 9)],iD 112] [] (.ref 0 0 0 112 1) [⟨R.map dB, 5, true⟩]:=by
 subst hR; exact qw true 9 112 (by decide)
theorem Hu (R:List UInt8) (hR:R = Ml 24 7):SpecH false Tryz.prog 105 [.sl true 1 1 [.v (.int .u8 7)],iD 24] [] (.ref 0 0 0 24 1) [⟨R.map dB, 5, true⟩]:=by
 subst hR; exact qw true 7 24 (by decide)
theorem Hv (R:List UInt8) (hR:R = Ml 8 8):SpecH false Tryz.prog 105 [.sl true 1 1 [.v (.int .u8 8)],iD 8] [] (.ref 0 0 0 8 1) [⟨R.map dB, 5, true⟩]:=by
 subst hR; exact qw true 8 8 (by decide)
theorem Hw (R:List UInt8) (hR:R = Ml 32 5):SpecH false Tryz.prog 105 [.sl true 1 1 [.v (.int .u8 5)],iD 32] [] (.ref 0 0 0 32 1) [⟨R.map dB, 5, true⟩]:=by
 subst hR; exact qw true 5 32 (by decide)
theorem zP (R1 R2 R3 R4 R5:List UInt8) (h1:R1 = Ml 144 8) (h2:R2 = Ml 112 9) (h3:R3 = Ml 24 7) (h4:R4 = Ml 8 8) (h5:R5 = Ml 32 5):SpecH false Tryz.prog 86 [] [] (.tup [.ref 0 0 0 288 1,.ref 1 1 0 32 1]) [⟨(R1 ++ R2 ++ R3 ++ R4).map dB, 5, true⟩,⟨R5.map dB, 5, true⟩]:=by
 have l1:R1.length = 144:=by rw [h1,MA]
 have l2:R2.length = 112:=by rw [h2,MA]
 have l3:R3.length = 24:=by rw [h3,MA]
 have l4:R4.length = 8:=by rw [h4,MA]
 have l5:R5.length = 32:=by rw [h5,MA]
 refine SpecH.run T_ok ai Tryz.func86 rfl rfl rfl ⟨aT _,aT _,trivial⟩ rfl 1000 64 (fun R ok=>(.s 5 (.cl 105 false [] (.fn wW (@Hs (R1) bz)) (.s 3 (.cl 105 false [] (.fn wW (@Ht (R2) bz)) (.s 3 (.cl 105 false [] (.fn wW (@Hu (R3) bz)) (.s 3 (.cl 105 false [] (.fn wW (@Hv (R4) bz)) (.s 165 (.chk (true && (true && L5 144 (length (map dB R1))) && true && true && true) (by (simp <;> (omega))) (.s 17 (.chk (true && L2 144 (length (bif true && L2 144 (length (map dB R1)) then map dB R1 else take 144 (drop 0 (map dB R1)))) && true && (true && L5 112 (length (map dB R2))) && true && true && true) (by (simp_all; done)) (.s 17 (.chk (true && L2 256 (length ((bif true && L2 144 (length (map dB R1)) then map dB R1 else take 144 (drop 0 (map dB R1))) ++ bif true && L2 112 (length (map dB R2)) then map dB R2 else take 112 (drop 0 (map dB R2)))) && true && (true && L5 24 (length (map dB R3))) && true && true && true) (by (simp_all; done)) (.s 17 (.chk (true && L2 280 (length (((bif true && L2 144 (length (map dB R1)) then map dB R1 else take 144 (drop 0 (map dB R1))) ++ bif true && L2 112 (length (map dB R2)) then map dB R2 else take 112 (drop 0 (map dB R2))) ++ bif true && L2 24 (length (map dB R3)) then map dB R3 else take 24 (drop 0 (map dB R3)))) && true && (true && L5 8 (length (map dB R4))) && true && true && true) (by (simp_all; done)) (.s 15 (.cl 105 false [] (.fn wW (@Hw (R5) bz)) (.s 2 (.out [1112,1272] [1112,1272] (D.tup [D.ref 0 0 0 288 1,D.ref 1 1 0 32 1]) [Blk.mk ((((bif true && L2 144 (length (map dB R1)) then map dB R1 else take 144 (drop 0 (map dB R1))) ++ bif true && L2 112 (length (map dB R2)) then map dB R2 else take 112 (drop 0 (map dB R2))) ++ bif true && L2 24 (length (map dB R3)) then map dB R3 else take 24 (drop 0 (map dB R3))) ++ bif true && L2 8 (length (map dB R4)) then map dB R4 else take 8 (drop 0 (map dB R4))) 5 true,Blk.mk (map dB R5) 5 true] R (ok _ _ wr (by (simp_all; done)))))))))))))))))))))))) (by kernel_rfl)
theorem kA (L F:List UInt8) (hL:L = cH) (hF:F = fw):SpecH false Tryz.prog 86 [] [] (.tup [.ref 0 0 0 288 1,.ref 1 1 0 32 1]) [⟨L.map dB, 5, true⟩,⟨F.map dB, 5, true⟩]:=by
 subst hL hF; exact zP _ _ _ _ _ rfl rfl rfl rfl rfl
theorem zQ  : SpecH false Tryz.prog 111 [] [] (.agg ([16,17,18,0,8,7,9,6,10,5,11,4,12,3,13,2,14,1,15].map nD)) []:=by
 refine SpecH.run T_ok ai Tryz.func111 rfl rfl rfl trivial rfl 1000 64 (fun R ok=>(.s 10 (.out [] [] (D.agg [zI 16,zI 17,zI 18,zI 0,zI 8,zI 7,zI 9,zI 6,zI 10,zI 5,zI 11,zI 4,zI 12,zI 3,zI 13,zI 2,zI 14,zI 1,zI 15]) [] R (ok _ _ (by (simp; done)) wr)))) (by kernel_rfl)
theorem I8 {p:Prop} (h:p:=by (refine aO ?_; (omega))):p:=h
theorem LM {p:Prop} (h:p:=by ((refine aI ?_ ?_) <;> (repeat' (first | (refine aI ?_ ?_) | (with_reducible rfl) | (refine decide_eq_true ?_) | (refine L9 ?_) | (refine er ?_))) <;> (omega))):p:=h
def mr (at' : Nat):Nat:=lk [()] ((8 - (at' + 3) % 8) % 8)
theorem kB (at' : Nat):mr at' = (8 - (at' + 3) % 8) % 8:=aG _ _
def Fq (x:UInt8):Nm:=⟨x.toNat,8⟩
def mb (e k:Nat):List Nm:=[⟨e,1⟩,⟨k,2⟩]
def Hx (e a r:Nat):List Nm:=[⟨e,1⟩,⟨0,2⟩,⟨0,mr a⟩,⟨r,16⟩,⟨65535 - r,16⟩]
def mv (e a:Nat) (raw:List UInt8) (i:Nat):List Nm:=lk raw (Hx e a raw.length ++ (raw.take i).map Fq)
theorem eX (e a:Nat) (raw:List UInt8) (i:Nat):mv e a raw i = Hx e a raw.length ++ (raw.take i).map Fq:=aG _ _
def nu (e a:Nat) (raw:List UInt8):List Nm:=mv e a raw raw.length
theorem iO {e a:Nat} {raw:List UInt8} {i:Nat} (h:i ≤ raw.length):(mv e a raw i).length = 5 + i:=by
 rw [eX,L6,Mg,Mc,Pn h]; rfl
theorem Hy {e a:Nat} {raw:List UInt8} {i:Nat} (h:i < raw.length):(mv e a raw (i + 1)).flatMap aS = (mv e a raw i).flatMap aS ++ aS ⟨(raw.getD i ji).toNat,8⟩:=by
 have e1:raw.take (i + 1) = raw.take i ++ [raw.getD i ji]:=by
  rw [MB h,List.getD_eq_getElem?_getD,List.getElem?_eq_getElem h]; rfl
 rw [eX,eX,e1,MO,← Mu,b6]; rfl
theorem Hz {e a:Nat} {raw:List UInt8}:(mv e a raw 0).flatMap aS = [cO e,nD 1,cO 0,nD 2,cO 0,nD (mr a),cO raw.length,nD 16,cO (65535 - raw.length),nD 16]:=by
 rw [eX]; rfl
theorem CB {e a:Nat} {raw:List UInt8} {r:Nat} {x y:Int} (hr:r = raw.length) (hx:x = (mr a:Int)) (hy:y = ((65535 - r:Nat):Int)):[D.v (.int .u32 (e:Int)),D.v (.int .i64 1),D.v (.int .u32 0),D.v (.int .i64 2),D.v (.int .u32 0),D.v (.int .i64 x),D.v (.int .u32 (r:Int)),D.v (.int .i64 16),D.v (.int .u32 y),D.v (.int .i64 16)] = (mv e a raw 0).flatMap aS:=by
 subst hr hx hy; exact Hz.symm
theorem CC {e a:Nat} {raw:List UInt8} {i u:Nat} (hu:u = i) (h:i < raw.length):(mv e a raw i).flatMap aS ++ [D.v (.int .u32 (((raw.getD u ji).toNat:Nat):Int)),D.v (.int .i64 8)] = (mv e a raw (i + 1)).flatMap aS:=by
 subst hu; exact (Hy h).symm
theorem HA (k:Nat) (cs:List D) (hcs:cs.length = k * 3) (a:Nat) (ha:a ≤ 7) (raw:List UInt8) (r:Nat) (hr:r = raw.length) (hr2:r ≤ 65535) (L F:List UInt8) (hL:L = cH) (hF:F = fw):SpecH false Tryz.prog 65 [nD a,f8 0,.sl false r 1 (raw.map dB),.sl false k 3 cs,.v (.bool true)] [] (.ptr 0 0 0) [⟨[.ref 1 1 0 (5 + r) 2], 123, false⟩,⟨(nu 1 a raw).flatMap aS, 126, true⟩]:=by
 refine SpecH.run T_ok ai Tryz.func65 rfl rfl rfl ⟨rfl,ef (fun _=>rfl) _,trivial⟩ rfl 1000 64 (fun R ok=>(.s 43 (.cl 86 false [] (.fn I3 (@kA (L) (F) bz bz)) (.s 21 (.ow ((a:Int) + 3) (.s 2 (.opt (bi Mk (Nz ((a:Int) + 3) 8)) (zI (((a:Int) + 3) % 8)) (aA (@bR  ((a:Int) + 3) (8) om)) (.s 2 (.ow (8 - ((a:Int) + 3) % 8) (.s 2 (.opt (bi Mk (Nz (8 - ((a:Int) + 3) % 8) 8)) (zI ((8 - ((a:Int) + 3) % 8) % 8)) (aA (@bR  (8 - ((a:Int) + 3) % 8) (8) om)) (.s 5 (.opt (aw .u32 (r:Int)) (ah r) (aB om) (.s 6 (.ow (65535 - (r:Int)) (.s 1 (.opt (aw .u32 (65535 - (r:Int))) (uI (65535 - (r:Int))) (aB om) (.s 28 (.blk 560 560 (Blk.mk [uI 1,zI 1,uI 0,zI 2,uI 0,zI ((8 - ((a:Int) + 3) % 8) % 8),ah r,zI 16,uI (65535 - (r:Int)),zI 16] 126 true) (Blk.mk (flatMap aS (mv 1 a raw 0)) 126 true) (by ( refine aC (CB (e:=1) hr ?_ ?_) <;> (try rw [kB]) <;> omega)) (Hn.inl T_ok ai false 39 368 (ay Tryz.prog 87 0) (fun (x:(i:Nat) ×' (hi:i ≤ r) ×' Unit)=>match x with | ⟨i,hi,_⟩=>CutS.mk [(0,D.ptr 16 16 0),(26,D.sl false r 1 (map dB raw)),(27,zN r),(28,nD i)] [⟨16,16,16,16,.b ⟨[(D.ref 400 400 (0) (5 + i) 2)],123,false⟩⟩,⟨104,104,104,104,.b ⟨[uI 1,zI 1,uI 0,zI 2],126,false⟩⟩,⟨264,264,264,264,.b ⟨map dB L,5,true⟩⟩,⟨265,265,265,265,.b ⟨map dB F,5,true⟩⟩,⟨400,400,560,560,.b ⟨(mv 1 a raw i).flatMap aS,126,true⟩⟩] 408) (fun (x:(i:Nat) ×' (hi:i ≤ r) ×' Unit)=>match x with | ⟨i,hi,_⟩=>r - i) [⟨Unit,.exit 0,fun x=>match x with | ()=>CutS.mk [(0,D.ptr 16 16 0),(26,D.sl false r 1 (map dB raw)),(27,zN r),(28,nD r)] [⟨16,16,16,16,.b ⟨[(D.ref 400 400 (0) (5 + r) 2)],123,false⟩⟩,⟨104,104,104,104,.b ⟨[uI 1,zI 1,uI 0,zI 2],126,false⟩⟩,⟨264,264,264,264,.b ⟨map dB L,5,true⟩⟩,⟨265,265,265,265,.b ⟨map dB F,5,true⟩⟩,⟨400,400,560,560,.b ⟨(nu 1 a raw).flatMap aS,126,true⟩⟩] 408⟩] 1000 64 (fun | ⟨i,hi,_⟩,Q,next1,last1=>(.s 2 (.br (decide ((i:Int) < (r:Int))) (fun p0=>have p0f:=ba p0; (.s 1 (.chk (true && decide ((i:Int) < (r:Int)) && true) LM (.s 2 (.opt ((map dB raw)[i * 1]?) (dB (getD raw (i * 1) ji)) (au _ _ om) (.s 4 (.opt (aw .u32 (↑(L4 (getD raw (i * 1) ji)):Int)) (ah (L4 (getD raw (i * 1) ji))) (aB (by (exact fU _ (by decide) (by decide)))) (.s 17 (.chk (true && L2 ((5 + i) * 2) (length (flatMap aS (mv 1 a raw i))) && true && true && true && true && L5 ((5 + i + 1) * 16) 140737488355328) (by ( simp only [b5,iO (raw:=raw) (e:=1) (a:=a) (i:=i) om,M5,Mr,Mv]; refine L9 ?_; omega)) (.s 9 (.ow ((i:Int) + 1) (.s 1 (.val 28 (zI ((i:Int) + 1)) (zN (i + 1)) I8 (.blk 16 16 (Blk.mk [D.ref 536 536 0 (5 + i + 1) 2] 123 false) (Blk.mk [D.ref 536 536 0 (5 + (i + 1)) 2] 123 false) (by (simp <;> (omega))) (.blk 536 536 (Blk.mk (flatMap aS (mv 1 a raw i) ++ [ah (L4 (getD raw (i * 1) ji)),zI 8]) 126 true) (Blk.mk (flatMap aS (mv 1 a raw (i + 1))) 126 true) (by ( refine aC (CC om om))) (Hn.next next1 ⟨(i + 1),om,⟨⟩⟩ (by show r - (i + 1) < r - i; clear next1 last1; omega) [(16,16),(104,104),(264,264),(265,265),(536,536)] ro)))))))))))))))) (fun p0=>have p0f:=bb p0; (.val 28 (zN i) (zN r) I8 (.blk 16 16 (Blk.mk [D.ref 400 400 0 (5 + i) 2] 123 false) (Blk.mk [D.ref 400 400 0 (5 + r) 2] 123 false) (by (simp <;> (omega))) (.blk 400 400 (Blk.mk (flatMap aS (mv 1 a raw i)) 126 true) (Blk.mk (flatMap aS (nu 1 a raw)) 126 true) (by ( rw [show i = raw.length from by omega]; rfl)) (Hn.last last1 0 (():Unit) rfl [(16,16),(104,104),(264,264),(265,265),(400,400)] ro)))))))) (fun | ⟨i,hi,_⟩=>by kernel_rfl) ⟨(0),om,⟨⟩⟩ [(16,16),(104,104),(264,264),(265,265),(560,560)] ro (bZ (fun | ()=>(.s 2 (.out [16,400] [16,400] (D.ptr 0 0 0) [Blk.mk [D.ref 1 1 0 (5 + r) 2] 123 false,Blk.mk (flatMap aS (nu 1 a raw)) 126 true] R (ok _ _ wr wr))))))))))))))))))))))))) (by kernel_rfl)
theorem HC (k:Nat) (cs:List D) (hcs:cs.length = k * 3) (a:Nat) (ha:a ≤ 7) (raw:List UInt8) (r:Nat) (hr:r = raw.length) (hr2:r ≤ 65535) (L F:List UInt8) (hL:L = cH) (hF:F = fw):SpecH false Tryz.prog 65 [nD a,f8 0,.sl false r 1 (raw.map dB),.sl false k 3 cs,.v (.bool false)] [] (.ptr 0 0 0) [⟨[.ref 1 1 0 (5 + r) 2], 123, false⟩,⟨(nu 0 a raw).flatMap aS, 126, true⟩]:=by
 refine SpecH.run T_ok ai Tryz.func65 rfl rfl rfl ⟨rfl,ef (fun _=>rfl) _,trivial⟩ rfl 1000 64 (fun R ok=>(.s 42 (.cl 86 false [] (.fn I3 (@kA (L) (F) bz bz)) (.s 21 (.ow ((a:Int) + 3) (.s 2 (.opt (bi Mk (Nz ((a:Int) + 3) 8)) (zI (((a:Int) + 3) % 8)) (aA (@bR  ((a:Int) + 3) (8) om)) (.s 2 (.ow (8 - ((a:Int) + 3) % 8) (.s 2 (.opt (bi Mk (Nz (8 - ((a:Int) + 3) % 8) 8)) (zI ((8 - ((a:Int) + 3) % 8) % 8)) (aA (@bR  (8 - ((a:Int) + 3) % 8) (8) om)) (.s 5 (.opt (aw .u32 (r:Int)) (ah r) (aB om) (.s 6 (.ow (65535 - (r:Int)) (.s 1 (.opt (aw .u32 (65535 - (r:Int))) (uI (65535 - (r:Int))) (aB om) (.s 28 (.blk 552 552 (Blk.mk [uI 0,zI 1,uI 0,zI 2,uI 0,zI ((8 - ((a:Int) + 3) % 8) % 8),ah r,zI 16,uI (65535 - (r:Int)),zI 16] 126 true) (Blk.mk (flatMap aS (mv 0 a raw 0)) 126 true) (by ( refine aC (CB (e:=0) hr ?_ ?_) <;> (try rw [kB]) <;> omega)) (Hn.inl T_ok ai false 39 360 (ay Tryz.prog 87 0) (fun (x:(i:Nat) ×' (hi:i ≤ r) ×' Unit)=>match x with | ⟨i,hi,_⟩=>CutS.mk [(0,D.ptr 16 16 0),(26,D.sl false r 1 (map dB raw)),(27,zN r),(28,nD i)] [⟨16,16,16,16,.b ⟨[(D.ref 392 392 (0) (5 + i) 2)],123,false⟩⟩,⟨96,96,96,96,.b ⟨[uI 0,zI 1,uI 0,zI 2],126,false⟩⟩,⟨256,256,256,256,.b ⟨map dB L,5,true⟩⟩,⟨257,257,257,257,.b ⟨map dB F,5,true⟩⟩,⟨392,392,552,552,.b ⟨(mv 0 a raw i).flatMap aS,126,true⟩⟩] 400) (fun (x:(i:Nat) ×' (hi:i ≤ r) ×' Unit)=>match x with | ⟨i,hi,_⟩=>r - i) [⟨Unit,.exit 0,fun x=>match x with | ()=>CutS.mk [(0,D.ptr 16 16 0),(26,D.sl false r 1 (map dB raw)),(27,zN r),(28,nD r)] [⟨16,16,16,16,.b ⟨[(D.ref 392 392 (0) (5 + r) 2)],123,false⟩⟩,⟨96,96,96,96,.b ⟨[uI 0,zI 1,uI 0,zI 2],126,false⟩⟩,⟨256,256,256,256,.b ⟨map dB L,5,true⟩⟩,⟨257,257,257,257,.b ⟨map dB F,5,true⟩⟩,⟨392,392,552,552,.b ⟨(nu 0 a raw).flatMap aS,126,true⟩⟩] 400⟩] 1000 64 (fun | ⟨i,hi,_⟩,Q,next1,last1=>(.s 2 (.br (decide ((i:Int) < (r:Int))) (fun p0=>have p0f:=ba p0; (.s 1 (.chk (true && decide ((i:Int) < (r:Int)) && true) LM (.s 2 (.opt ((map dB raw)[i * 1]?) (dB (getD raw (i * 1) ji)) (au _ _ om) (.s 4 (.opt (aw .u32 (↑(L4 (getD raw (i * 1) ji)):Int)) (ah (L4 (getD raw (i * 1) ji))) (aB (by (exact fU _ (by decide) (by decide)))) (.s 17 (.chk (true && L2 ((5 + i) * 2) (length (flatMap aS (mv 0 a raw i))) && true && true && true && true && L5 ((5 + i + 1) * 16) 140737488355328) (by ( simp only [b5,iO (raw:=raw) (e:=0) (a:=a) (i:=i) om,M5,Mr,Mv]; refine L9 ?_; omega)) (.s 9 (.ow ((i:Int) + 1) (.s 1 (.val 28 (zI ((i:Int) + 1)) (zN (i + 1)) I8 (.blk 16 16 (Blk.mk [D.ref 528 528 0 (5 + i + 1) 2] 123 false) (Blk.mk [D.ref 528 528 0 (5 + (i + 1)) 2] 123 false) (by (simp <;> (omega))) (.blk 528 528 (Blk.mk (flatMap aS (mv 0 a raw i) ++ [ah (L4 (getD raw (i * 1) ji)),zI 8]) 126 true) (Blk.mk (flatMap aS (mv 0 a raw (i + 1))) 126 true) (by ( refine aC (CC om om))) (Hn.next next1 ⟨(i + 1),om,⟨⟩⟩ (by show r - (i + 1) < r - i; clear next1 last1; omega) [(16,16),(96,96),(256,256),(257,257),(528,528)] ro)))))))))))))))) (fun p0=>have p0f:=bb p0; (.val 28 (zN i) (zN r) I8 (.blk 16 16 (Blk.mk [D.ref 392 392 0 (5 + i) 2] 123 false) (Blk.mk [D.ref 392 392 0 (5 + r) 2] 123 false) (by (simp <;> (omega))) (.blk 392 392 (Blk.mk (flatMap aS (mv 0 a raw i)) 126 true) (Blk.mk (flatMap aS (nu 0 a raw)) 126 true) (by ( rw [show i = raw.length from by omega]; rfl)) (Hn.last last1 0 (():Unit) rfl [(16,16),(96,96),(256,256),(257,257),(392,392)] ro)))))))) (fun | ⟨i,hi,_⟩=>by kernel_rfl) ⟨(0),om,⟨⟩⟩ [(16,16),(96,96),(256,256),(257,257),(552,552)] ro (bZ (fun | ()=>(.s 2 (.out [16,392] [16,392] (D.ptr 0 0 0) [Blk.mk [D.ref 1 1 0 (5 + r) 2] 123 false,Blk.mk (flatMap aS (nu 0 a raw)) 126 true] R (ok _ _ wr wr))))))))))))))))))))))))) (by kernel_rfl)
end Vp
end Go.Proofs.YtefjnofhgkjpmaaGreat
namespace Go.Proofs.YtefjnofhgkjpmaaGreat
open Go.RowKit Go.Bw Go.Vx
open List (length getD map take drop flatMap replicate)
namespace Vp
theorem io {p:Prop} (h:p:=by ( have h9:=hl i; have h5:=MT (l.getD i ji).lit; have h2:=bC hT1 hT2 (hl i); have h8:=okL (l.getD i ji).lit.toNat; have h4:=okL (257 + ao T1 (l.getD i ji).long); have h3:=okF (ao T2 (l.getD i ji).dist); have g1:=hz1 (ao T1 (l.getD i ji).long); have g2:=hz2 (ao T2 (l.getD i ji).dist); have g3:=okL 256; have h7:=bS (T1:=T1) (T2:=T2) (A:=af L) (B:=af F) (H:=H) (l:=l) i om; unfold dj at h9; omega)):p:=h
theorem mw {p:Prop} (h:p:=by ( have h9:=hl 0; have h5:=MT (l.getD 0 ji).lit; have h2:=bC hT1 hT2 (hl 0); have h8:=okL (l.getD 0 ji).lit.toNat; have h4:=okL (257 + ao T1 (l.getD 0 ji).long); have h3:=okF (ao T2 (l.getD 0 ji).dist); have g1:=hz1 (ao T1 (l.getD 0 ji).long); have g2:=hz2 (ao T2 (l.getD 0 ji).dist); have g3:=okL 256; have h7:=bS (T1:=T1) (T2:=T2) (A:=af L) (B:=af F) (H:=H) (l:=l) 0 om; unfold dj at h9; omega)):p:=h
theorem zR {p:Prop} (h:p:=by (exact L8 (okL _).1 (by decide))):p:=h
theorem CD {p:Prop} (h:p:=by cases d <;> repeat' first | exact trivial | exact rfl | exact (fun _=>aR _) | exact (fun _=>by assumption) | exact (fun _=>bP _ (fun _=>rfl) _) | exact (fun _=>cS (fun _=>rfl) _) | (intro h; cases h; done) | (intro _; rfl) | (intro _; exact cz _ (bP _ (fun _=>rfl) _)) | exact jj _ (bP _ (fun _=>rfl) _) | refine Mi ?_ ?_ | refine fQ ?_ ?_ | (intro _; refine cQ ?_ ?_) | refine cQ ?_ ?_ | (intro _; refine gq ?_ ?_) | exact cz _ (bP _ (fun _=>rfl) _) | exact bP _ (fun _=>rfl) _):p:=h
theorem Fs {p:Prop} (h:p:=by ( rw [show i = k from by omega])):p:=h
theorem I9 {p:Prop} (h:p:=by (rw [eN]; have h5:=MT (l.getD 0 ji).lit;  refine L9 ?_; omega)):p:=h
theorem Ja {p:Prop} (h:p:=by ( have h7:=bS (T1:=T1) (T2:=T2) (A:=af L) (B:=af F) (H:=H) (l:=l) i om; simp only [L6,b5,Mx,NG,Mr,Mv,L7,MZ,MX]; omega)):p:=h
theorem Jb {p:Prop} (h:p:=by ( have h7:=bS (T1:=T1) (T2:=T2) (A:=af L) (B:=af F) (H:=H) (l:=l) i om; simp only [b5,M5,Mr,Mv]; refine L9 ?_; omega)):p:=h
theorem Jc {p:Prop} (h:p:=by (refine aO ?_; (omega))):p:=h
theorem Jd {p:Prop} (h:p:=by show k - (i + 1) < k - i; clear next1 last1; omega):p:=h
theorem zT {p:Prop} (h:p:=by (refine decide_eq_true ?_;  have h9:=hl i; have h5:=MT (l.getD i ji).lit; have h2:=bC hT1 hT2 (hl i); have h8:=okL (l.getD i ji).lit.toNat; have h4:=okL (257 + ao T1 (l.getD i ji).long); have h3:=okF (ao T2 (l.getD i ji).dist); have g1:=hz1 (ao T1 (l.getD i ji).long); have g2:=hz2 (ao T2 (l.getD i ji).dist); have g3:=okL 256; have h7:=bS (T1:=T1) (T2:=T2) (A:=af L) (B:=af F) (H:=H) (l:=l) i om; unfold dj at h9; omega)):p:=h
theorem zU {p:Prop} (h:p:=by (rw [eN]; have h2:=bC hT1 hT2 (hl i);  refine L9 ?_; omega)):p:=h
theorem Ey {p:Prop} (h:p:=by (rw [cb]; refine L9 ?_; (omega))):p:=h
theorem Ez {p:Prop} (h:p:=by (exact fU _ (by decide) (by decide))):p:=h
theorem EA {p:Prop} (h:p:=by (refine decide_eq_true ?_;  have h9:=hl 0; have h5:=MT (l.getD 0 ji).lit; have h2:=bC hT1 hT2 (hl 0); have h8:=okL (l.getD 0 ji).lit.toNat; have h4:=okL (257 + ao T1 (l.getD 0 ji).long); have h3:=okF (ao T2 (l.getD 0 ji).dist); have g1:=hz1 (ao T1 (l.getD 0 ji).long); have g2:=hz2 (ao T2 (l.getD 0 ji).dist); have g3:=okL 256; have h7:=bS (T1:=T1) (T2:=T2) (A:=af L) (B:=af F) (H:=H) (l:=l) 0 om; unfold dj at h9; omega)):p:=h
theorem EB {p:Prop} (h:p:=by (exact L8 (okF _).1 (by decide))):p:=h
theorem HD {p:Prop} (h:p:=by (simp;  have h9:=hl 0; have h5:=MT (l.getD 0 ji).lit; have h2:=bC hT1 hT2 (hl 0); have h8:=okL (l.getD 0 ji).lit.toNat; have h4:=okL (257 + ao T1 (l.getD 0 ji).long); have h3:=okF (ao T2 (l.getD 0 ji).dist); have g1:=hz1 (ao T1 (l.getD 0 ji).long); have g2:=hz2 (ao T2 (l.getD 0 ji).dist); have g3:=okL 256; have h7:=bS (T1:=T1) (T2:=T2) (A:=af L) (B:=af F) (H:=H) (l:=l) 0 om; unfold dj at h9; omega)):p:=h
theorem HE {p:Prop} (h:p:=by exact (Mi (D.sim.slw rfl (aV (by (simp;  have h9:=hl 0; have h5:=MT (l.getD 0 ji).lit; have h2:=bC hT1 hT2 (hl 0); have h8:=okL (l.getD 0 ji).lit.toNat; have h4:=okL (257 + ao T1 (l.getD 0 ji).long); have h3:=okF (ao T2 (l.getD 0 ji).dist); have g1:=hz1 (ao T1 (l.getD 0 ji).long); have g2:=hz2 (ao T2 (l.getD 0 ji).dist); have g3:=okL 256; have h7:=bS (T1:=T1) (T2:=T2) (A:=af L) (B:=af F) (H:=H) (l:=l) 0 om; unfold dj at h9; omega)) |>.trans rfl)) (Mi (D.sim.refl _) trivial))):p:=h
theorem HF {p:Prop} (h:p:=by (rw [Mr]; refine decide_eq_true ?_; have h5:=MT (l.getD i ji).lit; omega)):p:=h
theorem HG {p:Prop} (h:p:=by (rw [eN]; refine L9 ?_; have h5:=MT (l.getD i ji).lit; (omega))):p:=h
theorem HH {p:Prop} (h:p:=by ( refine aC ?_; rw [eY om om,b6,b6,Mu]; rfl)):p:=h
theorem HI {p:Prop} (h:p:=by (have h7:=bS (T1:=T1) (T2:=T2) (A:=af L) (B:=af F) (H:=H) (l:=l) k om; simp only [b5,M5,Mr,Mv]; refine L9 ?_; omega)):p:=h
theorem HJ {p:Prop} (h:p:=by (rw [eN]; have h2:=bC hT1 hT2 (hl 0);  refine L9 ?_; omega)):p:=h
structure Tn where
 lit:UInt8
 dist:Nat
 long:Nat
 deriving Inhabited
abbrev aZ (t:Tn):List D:=[dB t.lit,nD t.dist,nD t.long]
def dj (t:Tn):Prop:=t.long = 0 ∨ 3 ≤ t.long ∧ t.long ≤ 258 ∧ 1 ≤ t.dist ∧ t.dist ≤ 32768
theorem cb (l:List Tn):(l.flatMap aZ).length = l.length * 3:=bl (k:=3) (fun _=>rfl) l
def gy (C:List (Nat × Nat)) (s n x:Nat):List Nm:=[⟨eM (C.getD s ji).1 (C.getD s ji).2,(C.getD s ji).2⟩,⟨x,n⟩]
def vC (T1 T2:List Sy) (A B:List (Nat × Nat)) (t:Tn):List Nm :=
 if t.long = 0 then gy A t.lit.toNat 0 0
 else gy A (257 + ao T1 t.long) (T1.getD (ao T1 t.long) ji).bits (t.long - (T1.getD (ao T1 t.long) ji).least) ++ gy B (ao T2 t.dist) (T2.getD (ao T2 t.dist) ji).bits (t.dist - (T2.getD (ao T2 t.dist) ji).least)
def aQ (T1 T2:List Sy) (A B:List (Nat × Nat)) (H:List Nm) (l:List Tn) (i:Nat):List Nm:=lk l (H ++ (l.take i).flatMap (vC T1 T2 A B))
section
variable {T1 T2:List Sy} {A B:List (Nat × Nat)} {H:List Nm} {l:List Tn} {i:Nat}
theorem fW:aQ T1 T2 A B H l i = H ++ (l.take i).flatMap (vC T1 T2 A B):=aG _ _
theorem gz:aQ T1 T2 A B H l 0 = H:=by rw [fW]; exact MU _
theorem xq (h:i < l.length):aQ T1 T2 A B H l (i + 1) = aQ T1 T2 A B H l i ++ vC T1 T2 A B (l.getD i ji):=by
 have e1:l.take (i + 1) = l.take i ++ [l.getD i ji]:=by
  rw [MB h,List.getD_eq_getElem?_getD,List.getElem?_eq_getElem h]; rfl
 rw [fW,fW,e1,NF,← Mu,N9]
theorem zV (t:Tn):(vC T1 T2 A B t).length ≤ 4:=by 
 unfold vC; split
 ·show 2 ≤ 4; decide
 ·show 4 ≤ 4; decide
theorem bS:∀ i,i ≤ l.length → (aQ T1 T2 A B H l i).length ≤ H.length + 4 * i
 | 0,_=>by rw [gz]; omega
 | i + 1,h=>by
  rw [xq (by omega),L6]
  have:=bS i (by omega)
  have:=zV (T1:=T1) (T2:=T2) (A:=A) (B:=B) (l.getD i ji)
  omega
theorem dN (h:i < l.length) (h0:(l.getD i ji).long = 0):aQ T1 T2 A B H l (i + 1) = aQ T1 T2 A B H l i ++ gy A (l.getD i ji).lit.toNat 0 0:=by
 rw [xq h,vC,if_pos h0]
theorem eY (h:i < l.length) (h0:(l.getD i ji).long ≠ 0):aQ T1 T2 A B H l (i + 1) = aQ T1 T2 A B H l i ++ (gy A (257 + ao T1 (l.getD i ji).long) (T1.getD (ao T1 (l.getD i ji).long) ji).bits ((l.getD i ji).long - (T1.getD (ao T1 (l.getD i ji).long) ji).least) ++ gy B (ao T2 (l.getD i ji).dist) (T2.getD (ao T2 (l.getD i ji).dist) ji).bits ((l.getD i ji).dist - (T2.getD (ao T2 (l.getD i ji).dist) ji).least)):=by
 rw [xq h,vC,if_neg h0]
end
theorem xu {T:List Sy} (hT:T = aK) {n:Nat} (h:3 ≤ n ∧ n ≤ 258):ao T n < 29:=by
 subst hT
 rw [lE]
 exact w8 (n:=n) (b:=259) aK 29 0 3 rfl (by decide) h.1 (by omega)
theorem zW {T:List Sy} (hT:T = aY) {n:Nat} (h:1 ≤ n ∧ n ≤ 32768):ao T n < 30:=by
 subst hT
 rw [lE]
 exact w8 (n:=n) (b:=32769) aY 30 0 1 rfl (by decide) h.1 (by omega)
abbrev ce (c:Nat × Nat):List D:=[cO c.1,f8 c.2]
theorem eN (l:List (Nat × Nat)):(l.flatMap ce).length = l.length * 2:=bl (k:=2) (fun _=>rfl) l
theorem iP (l:List UInt8) (n:Nat) (hn:n = l.length) (m:Nat) (hm:1 ≤ m ∧ m ≤ 15) (hc:cG l m = 0):SpecH false Tryz.prog 112 [.sl false n 1 (l.map dB),nD m] [] (.tup [.ref 0 0 0 n 2,iD 0]) [⟨(af l).flatMap ce, 210, true⟩]:=zO l n hn m hm hc
theorem bC {T1 T2:List Sy} (hT1:T1 = aK) (hT2:T2 = aY) {t:Tn} (h:dj t):t.long ≠ 0 → ao T1 t.long < 29 ∧ ao T2 t.dist < 30:=fun h0=>by
 unfold dj at h
 exact ⟨xu hT1 (by omega),zW hT2 (by omega)⟩
def mc (C:List (Nat × Nat)):Prop:=∀ s,(C.getD s ji).2 ≤ 15 ∧ (C.getD s ji).1 < 2 ^ (C.getD s ji).2
theorem ik (T:List Sy) (hT:T = aK) (hl:T.length = 29) (hz:bY T) (n:Nat) (hn:n ≤ 40000) (hIk:ao T n < 29):SpecH false Tryz.prog 142 [nD n] [] (.tup [nD (257 + ao T n),nD (T.getD (ao T n) ji).bits,nD (n - (T.getD (ao T n) ji).least),iD 0]) []:=Eb T hT hl hz n hn _ rfl hIk
theorem lM (T:List Sy) (hT:T = aY) (hl:T.length = 30) (hz:bY T) (n:Nat) (hn:n ≤ 40000) (hIk:ao T n < 30):SpecH false Tryz.prog 143 [nD n] [] (.tup [nD (ao T n),nD (T.getD (ao T n) ji).bits,nD (n - (T.getD (ao T n) ji).least),iD 0]) []:=by
 have q:=G3 T hT hl hz n hn _ rfl hIk
 rwa [Mw] at q
def sh (b:Bool):Nat:=bif b then 8 else 0
theorem SpecH.run2 {τ:Sort _} (t:τ) {S0 S1:Prop} {C0 C1:τ → Prop} (f0:∀ t,C0 t → S0) (f1:∀ t,C1 t → S1) (h0:C0 t) (h1:C1 t):S0 ∧ S1:=⟨f0 t h0,f1 t h1⟩
theorem CE (l:List Tn) (k:Nat) (hk:k = l.length) (hk2:k ≤ 65535) (hl:∀ i,dj (l.getD i ji)) (T1 T2:List Sy) (hT1:T1 = aK) (hT2:T2 = aY) (hl1:T1.length = 29) (hl2:T2.length = 30) (hz1:bY T1) (hz2:bY T2) (L F:List UInt8) (hL:L = cH) (hF:F = fw) (hLl:L.length = 288) (hFl:F.length = 32) (hcL:cG L 15 = 0) (hcF:cG F 15 = 0) (hmL:(af L).length = 288) (hmF:(af F).length = 32) (okL:mc (af L)) (okF:mc (af F)) (a:Nat) (ha:a ≤ 7) (raw:List UInt8) (r:Nat) (hr:r = raw.length) (hr2:r ≤ 65535) (H:List Nm) (hH:H = mb 1 1) (hHl:H.length = 2) (H' : List Nm) (hH' : H' = mb 0 1) (hHl' : H'.length = 2):(SpecH false Tryz.prog 65 [nD a,f8 1,.sl false r 1 (raw.map dB),.sl false k 3 (l.flatMap aZ),.v (.bool true)] [] (.ptr 0 0 0) [⟨[.ref 1 1 0 (aQ T1 T2 (af L) (af F) H l k ++ gy (af L) 256 0 0).length 2], 123, false⟩,⟨(aQ T1 T2 (af L) (af F) H l k ++ gy (af L) 256 0 0).flatMap aS, 126, true⟩]) ∧ (SpecH false Tryz.prog 65 [nD a,f8 1,.sl false r 1 (raw.map dB),.sl false k 3 (l.flatMap aZ),.v (.bool false)] [] (.ptr 0 0 0) [⟨[.ref 1 1 0 (aQ T1 T2 (af L) (af F) H' l k ++ gy (af L) 256 0 0).length 2], 123, false⟩,⟨(aQ T1 T2 (af L) (af F) H' l k ++ gy (af L) 256 0 0).flatMap aS, 126, true⟩]):=by
 refine SpecH.run2 (fun (d:Bool) (e:Nat) (H:List Nm) (hH:H = mb e 1) (hHl:H.length = 2) (R:D → List Blk → Prop) (ok:∀ r' bs', r' = (.ptr 0 0 0) → bs' = [⟨[.ref 1 1 0 (aQ T1 T2 (af L) (af F) H l k ++ gy (af L) 256 0 0).length 2], 123, false⟩,⟨(aQ T1 T2 (af L) (af F) H l k ++ gy (af L) 256 0 0).flatMap aS, 126, true⟩] → R r' bs') =>  ((.cl 86 false [] (.fn I3 (@kA (L) (F) bz bz)) (.s 26 (.call 112 false [] (true && (true && L5 288 (length (map dB L)) && true && ab (bif true && L2 288 (length (map dB L)) then map dB L else take 288 (drop 0 (map dB L)))) && true) HD ([D.sl true 288 1 (bif true && L2 288 (length (map dB L)) then map dB L else take 288 (drop 0 (map dB L))),zI 15]) _ HE (true) wr _ _ _ (CallOk.fn (ax.of Tryz.func112 rfl rfl) (@iP (L) (288) om (15) (by (simp; done)) om)) (.s 13 (.call 112 false [] (true && (true && L5 32 (length (map dB F)) && true && ab (bif true && L2 32 (length (map dB F)) then map dB F else take 32 (drop 0 (map dB F)))) && true) HD ([D.sl true 32 1 (bif true && L2 32 (length (map dB F)) then map dB F else take 32 (drop 0 (map dB F))),zI 15]) _ HE (true) wr _ _ _ (CallOk.fn (ax.of Tryz.func112 rfl rfl) (@iP (F) (32) om (15) (by (simp; done)) om)) (.s 18 (.two (.s 2 (.br (decide (0 < (k:Int))) (fun p0=>have p0f:=ba p0; (.s 1 (.chk (true && decide (0 < (k:Int)) && true) (by ((refine aI ?_ ?_) <;> (repeat' (first | (refine aI ?_ ?_) | (with_reducible rfl) | (refine decide_eq_true ?_) | (refine L9 ?_) | (refine er ?_))) <;> (omega))) (.s 2 (.chk (L5 3 (length (flatMap aZ l))) Ey (.lst (take 3 (drop 0 (flatMap aZ l))) ([dL (L4 (Tn.lit (getD l 0 ji))),zN (Tn.dist (getD l 0 ji)),zN (Tn.long (getD l 0 ji))]) (aE (k:=3) (i:=0) (fun _=>rfl) om om) (.s 13 (.br ((↑(Tn.long (getD l 0 ji)):Int) == 0) (fun p1=>have p1f:=eq_of_beq p1; (.s 8 (.op (↑(L4 (Tn.lit (getD l 0 ji))):Int) Ez (.s 18 (.chk (true && decide ((↑(L4 (Tn.lit (getD l 0 ji))):Int) < (↑288:Int))) EA (.s 2 (.chk (L5 (0 + L4 (Tn.lit (getD l 0 ji)) * 2 + 2) (length (flatMap ce (af L)))) I9 (.lst (take 2 (drop (0 + L4 (Tn.lit (getD l 0 ji)) * 2) (flatMap ce (af L)))) ([ah (Mq (getD (af L) (L4 (Tn.lit (getD l 0 ji))) ji)),dL (Mb (getD (af L) (L4 (Tn.lit (getD l 0 ji))) ji))]) (aE (k:=2) (i:=L4 (Tn.lit (getD l 0 ji))) (fun _=>rfl) mw om) (.s 18 (.op (↑(Mb (getD (af L) (L4 (Tn.lit (getD l 0 ji))) ji)):Int) mw (.s 1 (.cl 152 false [] (.fn dM (@bE (Mq (getD (af L) (L4 (Tn.lit (getD l 0 ji))) ji)) (Mb (getD (af L) (L4 (Tn.lit (getD l 0 ji))) ji)) zR (by (exact (okL _).2)))) (.s 16 (.op (↑(Mb (getD (af L) (L4 (Tn.lit (getD l 0 ji))) ji)):Int) mw (.s 35 (.blk 16 16 (Blk.mk [D.ref (1008+sh d) (1008+sh d) 0 4 2] 123 false) (Blk.mk [D.ref (1008+sh d) (1008+sh d) 0 (length (aQ T1 T2 (af L) (af F) H l 1)) 2] 123 false) (by ( rw [dN (i:=0) om om,gz,hH]; rfl)) (.blk (1008+sh d) (1008+sh d) (Blk.mk [ah e,zI 1,uI 1,zI 2,ah (eM (Mq (getD (af L) (L4 (Tn.lit (getD l 0 ji))) ji)) (Mb (getD (af L) (L4 (Tn.lit (getD l 0 ji))) ji))),zN (Mb (getD (af L) (L4 (Tn.lit (getD l 0 ji))) ji)),uI 0,zI 0] 126 true) (Blk.mk (flatMap aS (aQ T1 T2 (af L) (af F) H l 1)) 126 true) (by ( rw [dN (i:=0) om om,gz,hH]; rfl)) (Hn.inl T_ok ai false 53 (544+sh d) (ay Tryz.prog 106 0) (fun (x:(i:Nat) ×' (hi:1 ≤ i ∧ i ≤ k) ×' Unit)=>match x with | ⟨i,hi,_⟩=>CutS.mk [(1,D.fn (MG 115) [] [D.ptr (384+sh d) (384+sh d) 0,D.ptr (496+sh d) (496+sh d) 0,D.ptr (432+sh d) (432+sh d) 0]),(10,D.sl false k 3 (flatMap aZ l)),(11,zN k),(12,nD i)] [⟨16,16,16,16,.b ⟨[(D.ref (616+sh d) (616+sh d) (0) ((aQ T1 T2 (af L) (af F) H l i).length) 2)],123,false⟩⟩,⟨(96+sh d),(96+sh d),(96+sh d),(96+sh d),.b ⟨[ah e,zI 1,uI 1,zI 2],126,false⟩⟩,⟨(256+sh d),(256+sh d),(256+sh d),(256+sh d),.b ⟨map dB L,5,true⟩⟩,⟨(257+sh d),(257+sh d),(257+sh d),(257+sh d),.b ⟨map dB F,5,true⟩⟩,⟨(384+sh d),(384+sh d),(384+sh d),(384+sh d),.b ⟨[D.ptr 16 16 0],105,false⟩⟩,⟨(400+sh d),(400+sh d),(400+sh d),(400+sh d),.b ⟨flatMap ce (af L),210,true⟩⟩,⟨(432+sh d),(432+sh d),(432+sh d),(432+sh d),.b ⟨[D.ref (400+sh d) (400+sh d) 0 288 2],189,false⟩⟩,⟨(464+sh d),(464+sh d),(464+sh d),(464+sh d),.b ⟨flatMap ce (af F),210,true⟩⟩,⟨(496+sh d),(496+sh d),(496+sh d),(496+sh d),.b ⟨[D.ref (464+sh d) (464+sh d) 0 32 2],189,false⟩⟩,⟨(616+sh d),(616+sh d),(1008+sh d),(1008+sh d),.b ⟨(aQ T1 T2 (af L) (af F) H l i).flatMap aS,126,true⟩⟩] (624+sh d)) (fun (x:(i:Nat) ×' (hi:1 ≤ i ∧ i ≤ k) ×' Unit)=>match x with | ⟨i,hi,_⟩=>k - i) [⟨Unit,.exit 0,fun x=>match x with | ()=>CutS.mk [(1,D.fn (MG 115) [] [D.ptr (384+sh d) (384+sh d) 0,D.ptr (496+sh d) (496+sh d) 0,D.ptr (432+sh d) (432+sh d) 0]),(10,D.sl false k 3 (flatMap aZ l)),(11,zN k),(12,nD k)] [⟨16,16,16,16,.b ⟨[(D.ref (616+sh d) (616+sh d) (0) ((aQ T1 T2 (af L) (af F) H l k).length) 2)],123,false⟩⟩,⟨(96+sh d),(96+sh d),(96+sh d),(96+sh d),.b ⟨[ah e,zI 1,uI 1,zI 2],126,false⟩⟩,⟨(256+sh d),(256+sh d),(256+sh d),(256+sh d),.b ⟨map dB L,5,true⟩⟩,⟨(257+sh d),(257+sh d),(257+sh d),(257+sh d),.b ⟨map dB F,5,true⟩⟩,⟨(384+sh d),(384+sh d),(384+sh d),(384+sh d),.b ⟨[D.ptr 16 16 0],105,false⟩⟩,⟨(400+sh d),(400+sh d),(400+sh d),(400+sh d),.b ⟨flatMap ce (af L),210,true⟩⟩,⟨(432+sh d),(432+sh d),(432+sh d),(432+sh d),.b ⟨[D.ref (400+sh d) (400+sh d) 0 288 2],189,false⟩⟩,⟨(464+sh d),(464+sh d),(464+sh d),(464+sh d),.b ⟨flatMap ce (af F),210,true⟩⟩,⟨(496+sh d),(496+sh d),(496+sh d),(496+sh d),.b ⟨[D.ref (464+sh d) (464+sh d) 0 32 2],189,false⟩⟩,⟨(616+sh d),(616+sh d),(1008+sh d),(1008+sh d),.b ⟨(aQ T1 T2 (af L) (af F) H l k).flatMap aS,126,true⟩⟩] (624+sh d)⟩] 1000 64 (fun | ⟨i,hi,_⟩,Q,next1,last1=>(.s 2 (.br (decide ((i:Int) < (k:Int))) (fun p2=>have p2f:=ba p2; (.s 1 (.chk (true && decide ((i:Int) < (k:Int)) && true) Ja (.s 2 (.chk (L5 (i * 3 + 3) (length (flatMap aZ l))) Ey (.lst (take 3 (drop (i * 3) (flatMap aZ l))) ([dL (L4 (Tn.lit (getD l i ji))),zN (Tn.dist (getD l i ji)),zN (Tn.long (getD l i ji))]) (aE (k:=3) (i:=i) (fun _=>rfl) om om) (.s 13 (.br ((↑(Tn.long (getD l i ji)):Int) == 0) (fun p3=>have p3f:=eq_of_beq p3; (.s 8 (.op (↑(L4 (Tn.lit (getD l i ji))):Int) Ez (.s 18 (.chk (true && decide ((↑(L4 (Tn.lit (getD l i ji))):Int) < (↑288:Int))) HF (.s 2 (.chk (L5 (0 + L4 (Tn.lit (getD l i ji)) * 2 + 2) (length (flatMap ce (af L)))) HG (.lst (take 2 (drop (0 + L4 (Tn.lit (getD l i ji)) * 2) (flatMap ce (af L)))) ([ah (Mq (getD (af L) (L4 (Tn.lit (getD l i ji))) ji)),dL (Mb (getD (af L) (L4 (Tn.lit (getD l i ji))) ji))]) (aE (k:=2) (i:=L4 (Tn.lit (getD l i ji))) (fun _=>rfl) io om) (.s 18 (.op (↑(Mb (getD (af L) (L4 (Tn.lit (getD l i ji))) ji)):Int) io (.s 1 (.cl 152 false [] (.fn dM (@bE (Mq (getD (af L) (L4 (Tn.lit (getD l i ji))) ji)) (Mb (getD (af L) (L4 (Tn.lit (getD l i ji))) ji)) zR (by (exact (okL _).2)))) (.s 16 (.op (↑(Mb (getD (af L) (L4 (Tn.lit (getD l i ji))) ji)):Int) io (.s 23 (.chk (true && L2 (length (aQ T1 T2 (af L) (af F) H l i) * 2) (length (flatMap aS (aQ T1 T2 (af L) (af F) H l i))) && true && true && true && true && L5 ((length (aQ T1 T2 (af L) (af F) H l i) + 2) * 16) 140737488355328) Jb (.s 9 (.ow ((i:Int) + 1) (.s 1 (.val 12 (zI ((i:Int) + 1)) (zN (i + 1)) Jc (.blk 16 16 (Blk.mk [D.ref (1064+sh d) (1064+sh d) 0 (length (aQ T1 T2 (af L) (af F) H l i) + 2) 2] 123 false) (Blk.mk [D.ref (1064+sh d) (1064+sh d) 0 (length (aQ T1 T2 (af L) (af F) H l (i + 1))) 2] 123 false) (by ( rw [dN om om,L6]; rfl)) (.blk (1064+sh d) (1064+sh d) (Blk.mk (flatMap aS (aQ T1 T2 (af L) (af F) H l i) ++ [ah (eM (Mq (getD (af L) (L4 (Tn.lit (getD l i ji))) ji)) (Mb (getD (af L) (L4 (Tn.lit (getD l i ji))) ji))),zN (Mb (getD (af L) (L4 (Tn.lit (getD l i ji))) ji)),uI 0,zI 0]) 126 true) (Blk.mk (flatMap aS (aQ T1 T2 (af L) (af F) H l (i + 1))) 126 true) (by ( refine aC ?_; rw [dN om om,b6]; rfl)) (Hn.next next1 ⟨(i + 1),om,⟨⟩⟩ Jd [(16,16),((96+sh d),(96+sh d)),((256+sh d),(256+sh d)),((257+sh d),(257+sh d)),((384+sh d),(384+sh d)),((400+sh d),(400+sh d)),((432+sh d),(432+sh d)),((464+sh d),(464+sh d)),((496+sh d),(496+sh d)),((1064+sh d),(1064+sh d))] CD))))))))))))))))))))))) (fun p3=>have p3f:=av p3; (.s 7 (.cl 142 false [] (.fn sc (@ik (T1) bz om om (Tn.long (getD l i ji)) io io)) (.s 35 (.chk (true && decide ((↑(257 + ao T1 (Tn.long (getD l i ji))):Int) < (↑288:Int))) zT (.s 2 (.chk (L5 (0 + (257 + ao T1 (Tn.long (getD l i ji))) * 2 + 2) (length (flatMap ce (af L)))) zU (.lst (take 2 (drop (0 + (257 + ao T1 (Tn.long (getD l i ji))) * 2) (flatMap ce (af L)))) ([ah (Mq (getD (af L) (257 + ao T1 (Tn.long (getD l i ji))) ji)),dL (Mb (getD (af L) (257 + ao T1 (Tn.long (getD l i ji))) ji))]) (aE (k:=2) (i:=257 + ao T1 (Tn.long (getD l i ji))) (fun _=>rfl) io om) (.s 18 (.op (↑(Mb (getD (af L) (257 + ao T1 (Tn.long (getD l i ji))) ji)):Int) io (.s 1 (.cl 152 false [] (.fn dM (@bE (Mq (getD (af L) (257 + ao T1 (Tn.long (getD l i ji))) ji)) (Mb (getD (af L) (257 + ao T1 (Tn.long (getD l i ji))) ji)) zR (by (exact (okL _).2)))) (.s 16 (.op (↑(Mb (getD (af L) (257 + ao T1 (Tn.long (getD l i ji))) ji)):Int) io (.s 4 (.opt (aw .u32 (↑(Tn.long (getD l i ji) - Sy.least (getD T1 (ao T1 (Tn.long (getD l i ji))) ji)):Int)) (ah (Tn.long (getD l i ji) - Sy.least (getD T1 (ao T1 (Tn.long (getD l i ji))) ji))) (aB io) (.s 18 (.chk (true && L2 (length (aQ T1 T2 (af L) (af F) H l i) * 2) (length (flatMap aS (aQ T1 T2 (af L) (af F) H l i))) && true && true && true && true && L5 ((length (aQ T1 T2 (af L) (af F) H l i) + 2) * 16) 140737488355328) Jb (.s 14 (.cl 143 false [] (.fn sd (@lM (T2) bz om om (Tn.dist (getD l i ji)) io io)) (.s 34 (.chk (true && decide ((↑(ao T2 (Tn.dist (getD l i ji))):Int) < (↑32:Int))) zT (.s 2 (.chk (L5 (0 + ao T2 (Tn.dist (getD l i ji)) * 2 + 2) (length (flatMap ce (af F)))) zU (.lst (take 2 (drop (0 + ao T2 (Tn.dist (getD l i ji)) * 2) (flatMap ce (af F)))) ([ah (Mq (getD (af F) (ao T2 (Tn.dist (getD l i ji))) ji)),dL (Mb (getD (af F) (ao T2 (Tn.dist (getD l i ji))) ji))]) (aE (k:=2) (i:=ao T2 (Tn.dist (getD l i ji))) (fun _=>rfl) io om) (.s 18 (.op (↑(Mb (getD (af F) (ao T2 (Tn.dist (getD l i ji))) ji)):Int) io (.s 1 (.cl 152 false [] (.fn dM (@bE (Mq (getD (af F) (ao T2 (Tn.dist (getD l i ji))) ji)) (Mb (getD (af F) (ao T2 (Tn.dist (getD l i ji))) ji)) EB (by (exact (okF _).2)))) (.s 16 (.op (↑(Mb (getD (af F) (ao T2 (Tn.dist (getD l i ji))) ji)):Int) io (.s 4 (.opt (aw .u32 (↑(Tn.dist (getD l i ji) - Sy.least (getD T2 (ao T2 (Tn.dist (getD l i ji))) ji)):Int)) (ah (Tn.dist (getD l i ji) - Sy.least (getD T2 (ao T2 (Tn.dist (getD l i ji))) ji))) (aB io) (.s 18 (.chk (true && L2 ((length (aQ T1 T2 (af L) (af F) H l i) + 2) * 2) (length (flatMap aS (aQ T1 T2 (af L) (af F) H l i) ++ [ah (eM (Mq (getD (af L) (257 + ao T1 (Tn.long (getD l i ji))) ji)) (Mb (getD (af L) (257 + ao T1 (Tn.long (getD l i ji))) ji))),zN (Mb (getD (af L) (257 + ao T1 (Tn.long (getD l i ji))) ji)),ah (Tn.long (getD l i ji) - Sy.least (getD T1 (ao T1 (Tn.long (getD l i ji))) ji)),zN (Sy.bits (getD T1 (ao T1 (Tn.long (getD l i ji))) ji))])) && true && true && true && true && L5 ((length (aQ T1 T2 (af L) (af F) H l i) + 2 + 2) * 16) 140737488355328) Ja (.s 9 (.ow ((i:Int) + 1) (.s 1 (.val 12 (zI ((i:Int) + 1)) (zN (i + 1)) Jc (.blk 16 16 (Blk.mk [D.ref (1840+sh d) (1840+sh d) 0 (length (aQ T1 T2 (af L) (af F) H l i) + 2 + 2) 2] 123 false) (Blk.mk [D.ref (1840+sh d) (1840+sh d) 0 (length (aQ T1 T2 (af L) (af F) H l (i + 1))) 2] 123 false) (by ( rw [eY om om,L6]; rfl)) (.blk (1840+sh d) (1840+sh d) (Blk.mk (flatMap aS (aQ T1 T2 (af L) (af F) H l i) ++ [ah (eM (Mq (getD (af L) (257 + ao T1 (Tn.long (getD l i ji))) ji)) (Mb (getD (af L) (257 + ao T1 (Tn.long (getD l i ji))) ji))),zN (Mb (getD (af L) (257 + ao T1 (Tn.long (getD l i ji))) ji)),ah (Tn.long (getD l i ji) - Sy.least (getD T1 (ao T1 (Tn.long (getD l i ji))) ji)),zN (Sy.bits (getD T1 (ao T1 (Tn.long (getD l i ji))) ji))] ++ [ah (eM (Mq (getD (af F) (ao T2 (Tn.dist (getD l i ji))) ji)) (Mb (getD (af F) (ao T2 (Tn.dist (getD l i ji))) ji))),zN (Mb (getD (af F) (ao T2 (Tn.dist (getD l i ji))) ji)),ah (Tn.dist (getD l i ji) - Sy.least (getD T2 (ao T2 (Tn.dist (getD l i ji))) ji)),zN (Sy.bits (getD T2 (ao T2 (Tn.dist (getD l i ji))) ji))]) 126 true) (Blk.mk (flatMap aS (aQ T1 T2 (af L) (af F) H l (i + 1))) 126 true) HH (Hn.next next1 ⟨(i + 1),om,⟨⟩⟩ Jd [(16,16),((96+sh d),(96+sh d)),((256+sh d),(256+sh d)),((257+sh d),(257+sh d)),((384+sh d),(384+sh d)),((400+sh d),(400+sh d)),((432+sh d),(432+sh d)),((464+sh d),(464+sh d)),((496+sh d),(496+sh d)),((1840+sh d),(1840+sh d))] CD)))))))))))))))))))))))))))))))))))))))))))))))))) (fun p2=>have p2f:=bb p2; (.val 12 (zN i) (zN k) Fs (.blk 16 16 (Blk.mk [D.ref (616+sh d) (616+sh d) 0 (length (aQ T1 T2 (af L) (af F) H l i)) 2] 123 false) (Blk.mk [D.ref (616+sh d) (616+sh d) 0 (length (aQ T1 T2 (af L) (af F) H l k)) 2] 123 false) Fs (.blk (616+sh d) (616+sh d) (Blk.mk (flatMap aS (aQ T1 T2 (af L) (af F) H l i)) 126 true) (Blk.mk (flatMap aS (aQ T1 T2 (af L) (af F) H l k)) 126 true) Fs (Hn.last last1 0 (():Unit) rfl [(16,16),((96+sh d),(96+sh d)),((256+sh d),(256+sh d)),((257+sh d),(257+sh d)),((384+sh d),(384+sh d)),((400+sh d),(400+sh d)),((432+sh d),(432+sh d)),((464+sh d),(464+sh d)),((496+sh d),(496+sh d)),((616+sh d),(616+sh d))] CD)))))))) (fun | ⟨i,hi,_⟩=>by cases d <;> kernel_rfl) ⟨(1),om,⟨⟩⟩ [(16,16),((96+sh d),(96+sh d)),((256+sh d),(256+sh d)),((257+sh d),(257+sh d)),((384+sh d),(384+sh d)),((400+sh d),(400+sh d)),((432+sh d),(432+sh d)),((464+sh d),(464+sh d)),((496+sh d),(496+sh d)),((1008+sh d),(1008+sh d))] CD (bZ (fun | ()=>(.s 22 (.chk (L5 514 (length (flatMap ce (af L)))) I9 (.lst (take 2 (drop 512 (flatMap ce (af L)))) ([ah (Mq (getD (af L) 256 ji)),dL (Mb (getD (af L) 256 ji))]) (aE (k:=2) (i:=256) (fun _=>rfl) om om) (.s 18 (.op (↑(Mb (getD (af L) 256 ji)):Int) mw (.s 1 (.cl 152 false [] (.fn dM (@bE (Mq (getD (af L) 256 ji)) (Mb (getD (af L) 256 ji)) zR (by (exact (okL _).2)))) (.s 16 (.op (↑(Mb (getD (af L) 256 ji)):Int) mw (.s 23 (.chk (true && L2 (length (aQ T1 T2 (af L) (af F) H l k) * 2) (length (flatMap aS (aQ T1 T2 (af L) (af F) H l k))) && true && true && true && true && L5 ((length (aQ T1 T2 (af L) (af F) H l k) + 2) * 16) 140737488355328) HI (.s 9 (.out [16,(976+sh d)] [16,(976+sh d)] (D.ptr 0 0 0) [Blk.mk [D.ref 1 1 0 (length (aQ T1 T2 (af L) (af F) H l k) + 2) 2] 123 false,Blk.mk (flatMap aS (aQ T1 T2 (af L) (af F) H l k) ++ [ah (eM (Mq (getD (af L) 256 ji)) (Mb (getD (af L) 256 ji))),zN (Mb (getD (af L) 256 ji)),uI 0,zI 0]) 126 true] R (ok _ _ wr (by (rw [L6,b6]; rfl)))))))))))))))))))))))))))))))))))) (fun p1=>have p1f:=av p1; (.s 7 (.cl 142 false [] (.fn sc (@ik (T1) bz om om (Tn.long (getD l 0 ji)) mw mw)) (.s 35 (.chk (true && decide ((↑(257 + ao T1 (Tn.long (getD l 0 ji))):Int) < (↑288:Int))) EA (.s 2 (.chk (L5 (0 + (257 + ao T1 (Tn.long (getD l 0 ji))) * 2 + 2) (length (flatMap ce (af L)))) HJ (.lst (take 2 (drop (0 + (257 + ao T1 (Tn.long (getD l 0 ji))) * 2) (flatMap ce (af L)))) ([ah (Mq (getD (af L) (257 + ao T1 (Tn.long (getD l 0 ji))) ji)),dL (Mb (getD (af L) (257 + ao T1 (Tn.long (getD l 0 ji))) ji))]) (aE (k:=2) (i:=257 + ao T1 (Tn.long (getD l 0 ji))) (fun _=>rfl) mw om) (.s 18 (.op (↑(Mb (getD (af L) (257 + ao T1 (Tn.long (getD l 0 ji))) ji)):Int) mw (.s 1 (.cl 152 false [] (.fn dM (@bE (Mq (getD (af L) (257 + ao T1 (Tn.long (getD l 0 ji))) ji)) (Mb (getD (af L) (257 + ao T1 (Tn.long (getD l 0 ji))) ji)) zR (by (exact (okL _).2)))) (.s 16 (.op (↑(Mb (getD (af L) (257 + ao T1 (Tn.long (getD l 0 ji))) ji)):Int) mw (.s 4 (.opt (aw .u32 (↑(Tn.long (getD l 0 ji) - Sy.least (getD T1 (ao T1 (Tn.long (getD l 0 ji))) ji)):Int)) (ah (Tn.long (getD l 0 ji) - Sy.least (getD T1 (ao T1 (Tn.long (getD l 0 ji))) ji))) (aB mw) (.s 33 (.cl 143 false [] (.fn sd (@lM (T2) bz om om (Tn.dist (getD l 0 ji)) mw mw)) (.s 34 (.chk (true && decide ((↑(ao T2 (Tn.dist (getD l 0 ji))):Int) < (↑32:Int))) EA (.s 2 (.chk (L5 (0 + ao T2 (Tn.dist (getD l 0 ji)) * 2 + 2) (length (flatMap ce (af F)))) HJ (.lst (take 2 (drop (0 + ao T2 (Tn.dist (getD l 0 ji)) * 2) (flatMap ce (af F)))) ([ah (Mq (getD (af F) (ao T2 (Tn.dist (getD l 0 ji))) ji)),dL (Mb (getD (af F) (ao T2 (Tn.dist (getD l 0 ji))) ji))]) (aE (k:=2) (i:=ao T2 (Tn.dist (getD l 0 ji))) (fun _=>rfl) mw om) (.s 18 (.op (↑(Mb (getD (af F) (ao T2 (Tn.dist (getD l 0 ji))) ji)):Int) mw (.s 1 (.cl 152 false [] (.fn dM (@bE (Mq (getD (af F) (ao T2 (Tn.dist (getD l 0 ji))) ji)) (Mb (getD (af F) (ao T2 (Tn.dist (getD l 0 ji))) ji)) EB (by (exact (okF _).2)))) (.s 16 (.op (↑(Mb (getD (af F) (ao T2 (Tn.dist (getD l 0 ji))) ji)):Int) mw (.s 4 (.opt (aw .u32 (↑(Tn.dist (getD l 0 ji) - Sy.least (getD T2 (ao T2 (Tn.dist (getD l 0 ji))) ji)):Int)) (ah (Tn.dist (getD l 0 ji) - Sy.least (getD T2 (ao T2 (Tn.dist (getD l 0 ji))) ji))) (aB mw) (.s 30 (.blk 16 16 (Blk.mk [D.ref (1784+sh d) (1784+sh d) 0 6 2] 123 false) (Blk.mk [D.ref (1784+sh d) (1784+sh d) 0 (length (aQ T1 T2 (af L) (af F) H l 1)) 2] 123 false) (by ( rw [eY (i:=0) om om,gz,hH]; rfl)) (.blk (1784+sh d) (1784+sh d) (Blk.mk [ah e,zI 1,uI 1,zI 2,ah (eM (Mq (getD (af L) (257 + ao T1 (Tn.long (getD l 0 ji))) ji)) (Mb (getD (af L) (257 + ao T1 (Tn.long (getD l 0 ji))) ji))),zN (Mb (getD (af L) (257 + ao T1 (Tn.long (getD l 0 ji))) ji)),ah (Tn.long (getD l 0 ji) - Sy.least (getD T1 (ao T1 (Tn.long (getD l 0 ji))) ji)),zN (Sy.bits (getD T1 (ao T1 (Tn.long (getD l 0 ji))) ji)),ah (eM (Mq (getD (af F) (ao T2 (Tn.dist (getD l 0 ji))) ji)) (Mb (getD (af F) (ao T2 (Tn.dist (getD l 0 ji))) ji))),zN (Mb (getD (af F) (ao T2 (Tn.dist (getD l 0 ji))) ji)),ah (Tn.dist (getD l 0 ji) - Sy.least (getD T2 (ao T2 (Tn.dist (getD l 0 ji))) ji)),zN (Sy.bits (getD T2 (ao T2 (Tn.dist (getD l 0 ji))) ji))] 126 true) (Blk.mk (flatMap aS (aQ T1 T2 (af L) (af F) H l 1)) 126 true) (by ( rw [eY (i:=0) om om,gz,hH]; rfl)) (Hn.inl T_ok ai false 53 (544+sh d) (ay Tryz.prog 106 0) (fun (x:(i:Nat) ×' (hi:1 ≤ i ∧ i ≤ k) ×' Unit)=>match x with | ⟨i,hi,_⟩=>CutS.mk [(1,D.fn (MG 115) [] [D.ptr (384+sh d) (384+sh d) 0,D.ptr (496+sh d) (496+sh d) 0,D.ptr (432+sh d) (432+sh d) 0]),(10,D.sl false k 3 (flatMap aZ l)),(11,zN k),(12,nD i)] [⟨16,16,16,16,.b ⟨[(D.ref (616+sh d) (616+sh d) (0) ((aQ T1 T2 (af L) (af F) H l i).length) 2)],123,false⟩⟩,⟨(96+sh d),(96+sh d),(96+sh d),(96+sh d),.b ⟨[ah e,zI 1,uI 1,zI 2],126,false⟩⟩,⟨(256+sh d),(256+sh d),(256+sh d),(256+sh d),.b ⟨map dB L,5,true⟩⟩,⟨(257+sh d),(257+sh d),(257+sh d),(257+sh d),.b ⟨map dB F,5,true⟩⟩,⟨(384+sh d),(384+sh d),(384+sh d),(384+sh d),.b ⟨[D.ptr 16 16 0],105,false⟩⟩,⟨(400+sh d),(400+sh d),(400+sh d),(400+sh d),.b ⟨flatMap ce (af L),210,true⟩⟩,⟨(432+sh d),(432+sh d),(432+sh d),(432+sh d),.b ⟨[D.ref (400+sh d) (400+sh d) 0 288 2],189,false⟩⟩,⟨(464+sh d),(464+sh d),(464+sh d),(464+sh d),.b ⟨flatMap ce (af F),210,true⟩⟩,⟨(496+sh d),(496+sh d),(496+sh d),(496+sh d),.b ⟨[D.ref (464+sh d) (464+sh d) 0 32 2],189,false⟩⟩,⟨(616+sh d),(616+sh d),(1784+sh d),(1784+sh d),.b ⟨(aQ T1 T2 (af L) (af F) H l i).flatMap aS,126,true⟩⟩] (624+sh d)) (fun (x:(i:Nat) ×' (hi:1 ≤ i ∧ i ≤ k) ×' Unit)=>match x with | ⟨i,hi,_⟩=>k - i) [⟨Unit,.exit 0,fun x=>match x with | ()=>CutS.mk [(1,D.fn (MG 115) [] [D.ptr (384+sh d) (384+sh d) 0,D.ptr (496+sh d) (496+sh d) 0,D.ptr (432+sh d) (432+sh d) 0]),(10,D.sl false k 3 (flatMap aZ l)),(11,zN k),(12,nD k)] [⟨16,16,16,16,.b ⟨[(D.ref (616+sh d) (616+sh d) (0) ((aQ T1 T2 (af L) (af F) H l k).length) 2)],123,false⟩⟩,⟨(96+sh d),(96+sh d),(96+sh d),(96+sh d),.b ⟨[ah e,zI 1,uI 1,zI 2],126,false⟩⟩,⟨(256+sh d),(256+sh d),(256+sh d),(256+sh d),.b ⟨map dB L,5,true⟩⟩,⟨(257+sh d),(257+sh d),(257+sh d),(257+sh d),.b ⟨map dB F,5,true⟩⟩,⟨(384+sh d),(384+sh d),(384+sh d),(384+sh d),.b ⟨[D.ptr 16 16 0],105,false⟩⟩,⟨(400+sh d),(400+sh d),(400+sh d),(400+sh d),.b ⟨flatMap ce (af L),210,true⟩⟩,⟨(432+sh d),(432+sh d),(432+sh d),(432+sh d),.b ⟨[D.ref (400+sh d) (400+sh d) 0 288 2],189,false⟩⟩,⟨(464+sh d),(464+sh d),(464+sh d),(464+sh d),.b ⟨flatMap ce (af F),210,true⟩⟩,⟨(496+sh d),(496+sh d),(496+sh d),(496+sh d),.b ⟨[D.ref (464+sh d) (464+sh d) 0 32 2],189,false⟩⟩,⟨(616+sh d),(616+sh d),(1784+sh d),(1784+sh d),.b ⟨(aQ T1 T2 (af L) (af F) H l k).flatMap aS,126,true⟩⟩] (624+sh d)⟩] 1000 64 (fun | ⟨i,hi,_⟩,Q,next1,last1=>(.s 2 (.br (decide ((i:Int) < (k:Int))) (fun p4=>have p4f:=ba p4; (.s 1 (.chk (true && decide ((i:Int) < (k:Int)) && true) Ja (.s 2 (.chk (L5 (i * 3 + 3) (length (flatMap aZ l))) Ey (.lst (take 3 (drop (i * 3) (flatMap aZ l))) ([dL (L4 (Tn.lit (getD l i ji))),zN (Tn.dist (getD l i ji)),zN (Tn.long (getD l i ji))]) (aE (k:=3) (i:=i) (fun _=>rfl) om om) (.s 13 (.br ((↑(Tn.long (getD l i ji)):Int) == 0) (fun p5=>have p5f:=eq_of_beq p5; (.s 8 (.op (↑(L4 (Tn.lit (getD l i ji))):Int) Ez (.s 18 (.chk (true && decide ((↑(L4 (Tn.lit (getD l i ji))):Int) < (↑288:Int))) HF (.s 2 (.chk (L5 (0 + L4 (Tn.lit (getD l i ji)) * 2 + 2) (length (flatMap ce (af L)))) HG (.lst (take 2 (drop (0 + L4 (Tn.lit (getD l i ji)) * 2) (flatMap ce (af L)))) ([ah (Mq (getD (af L) (L4 (Tn.lit (getD l i ji))) ji)),dL (Mb (getD (af L) (L4 (Tn.lit (getD l i ji))) ji))]) (aE (k:=2) (i:=L4 (Tn.lit (getD l i ji))) (fun _=>rfl) io om) (.s 18 (.op (↑(Mb (getD (af L) (L4 (Tn.lit (getD l i ji))) ji)):Int) io (.s 1 (.cl 152 false [] (.fn dM (@bE (Mq (getD (af L) (L4 (Tn.lit (getD l i ji))) ji)) (Mb (getD (af L) (L4 (Tn.lit (getD l i ji))) ji)) zR (by (exact (okL _).2)))) (.s 16 (.op (↑(Mb (getD (af L) (L4 (Tn.lit (getD l i ji))) ji)):Int) io (.s 23 (.chk (true && L2 (length (aQ T1 T2 (af L) (af F) H l i) * 2) (length (flatMap aS (aQ T1 T2 (af L) (af F) H l i))) && true && true && true && true && L5 ((length (aQ T1 T2 (af L) (af F) H l i) + 2) * 16) 140737488355328) Jb (.s 9 (.ow ((i:Int) + 1) (.s 1 (.val 12 (zI ((i:Int) + 1)) (zN (i + 1)) Jc (.blk 16 16 (Blk.mk [D.ref (1064+sh d) (1064+sh d) 0 (length (aQ T1 T2 (af L) (af F) H l i) + 2) 2] 123 false) (Blk.mk [D.ref (1064+sh d) (1064+sh d) 0 (length (aQ T1 T2 (af L) (af F) H l (i + 1))) 2] 123 false) (by ( rw [dN om om,L6]; rfl)) (.blk (1064+sh d) (1064+sh d) (Blk.mk (flatMap aS (aQ T1 T2 (af L) (af F) H l i) ++ [ah (eM (Mq (getD (af L) (L4 (Tn.lit (getD l i ji))) ji)) (Mb (getD (af L) (L4 (Tn.lit (getD l i ji))) ji))),zN (Mb (getD (af L) (L4 (Tn.lit (getD l i ji))) ji)),uI 0,zI 0]) 126 true) (Blk.mk (flatMap aS (aQ T1 T2 (af L) (af F) H l (i + 1))) 126 true) (by ( refine aC ?_; rw [dN om om,b6]; rfl)) (Hn.next next1 ⟨(i + 1),om,⟨⟩⟩ Jd [(16,16),((96+sh d),(96+sh d)),((256+sh d),(256+sh d)),((257+sh d),(257+sh d)),((384+sh d),(384+sh d)),((400+sh d),(400+sh d)),((432+sh d),(432+sh d)),((464+sh d),(464+sh d)),((496+sh d),(496+sh d)),((1064+sh d),(1064+sh d))] CD))))))))))))))))))))))) (fun p5=>have p5f:=av p5; (.s 7 (.cl 142 false [] (.fn sc (@ik (T1) bz om om (Tn.long (getD l i ji)) io io)) (.s 35 (.chk (true && decide ((↑(257 + ao T1 (Tn.long (getD l i ji))):Int) < (↑288:Int))) zT (.s 2 (.chk (L5 (0 + (257 + ao T1 (Tn.long (getD l i ji))) * 2 + 2) (length (flatMap ce (af L)))) zU (.lst (take 2 (drop (0 + (257 + ao T1 (Tn.long (getD l i ji))) * 2) (flatMap ce (af L)))) ([ah (Mq (getD (af L) (257 + ao T1 (Tn.long (getD l i ji))) ji)),dL (Mb (getD (af L) (257 + ao T1 (Tn.long (getD l i ji))) ji))]) (aE (k:=2) (i:=257 + ao T1 (Tn.long (getD l i ji))) (fun _=>rfl) io om) (.s 18 (.op (↑(Mb (getD (af L) (257 + ao T1 (Tn.long (getD l i ji))) ji)):Int) io (.s 1 (.cl 152 false [] (.fn dM (@bE (Mq (getD (af L) (257 + ao T1 (Tn.long (getD l i ji))) ji)) (Mb (getD (af L) (257 + ao T1 (Tn.long (getD l i ji))) ji)) zR (by (exact (okL _).2)))) (.s 16 (.op (↑(Mb (getD (af L) (257 + ao T1 (Tn.long (getD l i ji))) ji)):Int) io (.s 4 (.opt (aw .u32 (↑(Tn.long (getD l i ji) - Sy.least (getD T1 (ao T1 (Tn.long (getD l i ji))) ji)):Int)) (ah (Tn.long (getD l i ji) - Sy.least (getD T1 (ao T1 (Tn.long (getD l i ji))) ji))) (aB io) (.s 18 (.chk (true && L2 (length (aQ T1 T2 (af L) (af F) H l i) * 2) (length (flatMap aS (aQ T1 T2 (af L) (af F) H l i))) && true && true && true && true && L5 ((length (aQ T1 T2 (af L) (af F) H l i) + 2) * 16) 140737488355328) Jb (.s 14 (.cl 143 false [] (.fn sd (@lM (T2) bz om om (Tn.dist (getD l i ji)) io io)) (.s 34 (.chk (true && decide ((↑(ao T2 (Tn.dist (getD l i ji))):Int) < (↑32:Int))) zT (.s 2 (.chk (L5 (0 + ao T2 (Tn.dist (getD l i ji)) * 2 + 2) (length (flatMap ce (af F)))) zU (.lst (take 2 (drop (0 + ao T2 (Tn.dist (getD l i ji)) * 2) (flatMap ce (af F)))) ([ah (Mq (getD (af F) (ao T2 (Tn.dist (getD l i ji))) ji)),dL (Mb (getD (af F) (ao T2 (Tn.dist (getD l i ji))) ji))]) (aE (k:=2) (i:=ao T2 (Tn.dist (getD l i ji))) (fun _=>rfl) io om) (.s 18 (.op (↑(Mb (getD (af F) (ao T2 (Tn.dist (getD l i ji))) ji)):Int) io (.s 1 (.cl 152 false [] (.fn dM (@bE (Mq (getD (af F) (ao T2 (Tn.dist (getD l i ji))) ji)) (Mb (getD (af F) (ao T2 (Tn.dist (getD l i ji))) ji)) EB (by (exact (okF _).2)))) (.s 16 (.op (↑(Mb (getD (af F) (ao T2 (Tn.dist (getD l i ji))) ji)):Int) io (.s 4 (.opt (aw .u32 (↑(Tn.dist (getD l i ji) - Sy.least (getD T2 (ao T2 (Tn.dist (getD l i ji))) ji)):Int)) (ah (Tn.dist (getD l i ji) - Sy.least (getD T2 (ao T2 (Tn.dist (getD l i ji))) ji))) (aB io) (.s 18 (.chk (true && L2 ((length (aQ T1 T2 (af L) (af F) H l i) + 2) * 2) (length (flatMap aS (aQ T1 T2 (af L) (af F) H l i) ++ [ah (eM (Mq (getD (af L) (257 + ao T1 (Tn.long (getD l i ji))) ji)) (Mb (getD (af L) (257 + ao T1 (Tn.long (getD l i ji))) ji))),zN (Mb (getD (af L) (257 + ao T1 (Tn.long (getD l i ji))) ji)),ah (Tn.long (getD l i ji) - Sy.least (getD T1 (ao T1 (Tn.long (getD l i ji))) ji)),zN (Sy.bits (getD T1 (ao T1 (Tn.long (getD l i ji))) ji))])) && true && true && true && true && L5 ((length (aQ T1 T2 (af L) (af F) H l i) + 2 + 2) * 16) 140737488355328) Ja (.s 9 (.ow ((i:Int) + 1) (.s 1 (.val 12 (zI ((i:Int) + 1)) (zN (i + 1)) Jc (.blk 16 16 (Blk.mk [D.ref (1840+sh d) (1840+sh d) 0 (length (aQ T1 T2 (af L) (af F) H l i) + 2 + 2) 2] 123 false) (Blk.mk [D.ref (1840+sh d) (1840+sh d) 0 (length (aQ T1 T2 (af L) (af F) H l (i + 1))) 2] 123 false) (by ( rw [eY om om,L6]; rfl)) (.blk (1840+sh d) (1840+sh d) (Blk.mk (flatMap aS (aQ T1 T2 (af L) (af F) H l i) ++ [ah (eM (Mq (getD (af L) (257 + ao T1 (Tn.long (getD l i ji))) ji)) (Mb (getD (af L) (257 + ao T1 (Tn.long (getD l i ji))) ji))),zN (Mb (getD (af L) (257 + ao T1 (Tn.long (getD l i ji))) ji)),ah (Tn.long (getD l i ji) - Sy.least (getD T1 (ao T1 (Tn.long (getD l i ji))) ji)),zN (Sy.bits (getD T1 (ao T1 (Tn.long (getD l i ji))) ji))] ++ [ah (eM (Mq (getD (af F) (ao T2 (Tn.dist (getD l i ji))) ji)) (Mb (getD (af F) (ao T2 (Tn.dist (getD l i ji))) ji))),zN (Mb (getD (af F) (ao T2 (Tn.dist (getD l i ji))) ji)),ah (Tn.dist (getD l i ji) - Sy.least (getD T2 (ao T2 (Tn.dist (getD l i ji))) ji)),zN (Sy.bits (getD T2 (ao T2 (Tn.dist (getD l i ji))) ji))]) 126 true) (Blk.mk (flatMap aS (aQ T1 T2 (af L) (af F) H l (i + 1))) 126 true) HH (Hn.next next1 ⟨(i + 1),om,⟨⟩⟩ Jd [(16,16),((96+sh d),(96+sh d)),((256+sh d),(256+sh d)),((257+sh d),(257+sh d)),((384+sh d),(384+sh d)),((400+sh d),(400+sh d)),((432+sh d),(432+sh d)),((464+sh d),(464+sh d)),((496+sh d),(496+sh d)),((1840+sh d),(1840+sh d))] CD)))))))))))))))))))))))))))))))))))))))))))))))))) (fun p4=>have p4f:=bb p4; (.val 12 (zN i) (zN k) Fs (.blk 16 16 (Blk.mk [D.ref (616+sh d) (616+sh d) 0 (length (aQ T1 T2 (af L) (af F) H l i)) 2] 123 false) (Blk.mk [D.ref (616+sh d) (616+sh d) 0 (length (aQ T1 T2 (af L) (af F) H l k)) 2] 123 false) Fs (.blk (616+sh d) (616+sh d) (Blk.mk (flatMap aS (aQ T1 T2 (af L) (af F) H l i)) 126 true) (Blk.mk (flatMap aS (aQ T1 T2 (af L) (af F) H l k)) 126 true) Fs (Hn.last last1 0 (():Unit) rfl [(16,16),((96+sh d),(96+sh d)),((256+sh d),(256+sh d)),((257+sh d),(257+sh d)),((384+sh d),(384+sh d)),((400+sh d),(400+sh d)),((432+sh d),(432+sh d)),((464+sh d),(464+sh d)),((496+sh d),(496+sh d)),((616+sh d),(616+sh d))] CD)))))))) (fun | ⟨i,hi,_⟩=>by cases d <;> kernel_rfl) ⟨(1),om,⟨⟩⟩ [(16,16),((96+sh d),(96+sh d)),((256+sh d),(256+sh d)),((257+sh d),(257+sh d)),((384+sh d),(384+sh d)),((400+sh d),(400+sh d)),((432+sh d),(432+sh d)),((464+sh d),(464+sh d)),((496+sh d),(496+sh d)),((1784+sh d),(1784+sh d))] CD (bZ (fun | ()=>(.s 22 (.chk (L5 514 (length (flatMap ce (af L)))) I9 (.lst (take 2 (drop 512 (flatMap ce (af L)))) ([ah (Mq (getD (af L) 256 ji)),dL (Mb (getD (af L) 256 ji))]) (aE (k:=2) (i:=256) (fun _=>rfl) om om) (.s 18 (.op (↑(Mb (getD (af L) 256 ji)):Int) mw (.s 1 (.cl 152 false [] (.fn dM (@bE (Mq (getD (af L) 256 ji)) (Mb (getD (af L) 256 ji)) zR (by (exact (okL _).2)))) (.s 16 (.op (↑(Mb (getD (af L) 256 ji)):Int) mw (.s 23 (.chk (true && L2 (length (aQ T1 T2 (af L) (af F) H l k) * 2) (length (flatMap aS (aQ T1 T2 (af L) (af F) H l k))) && true && true && true && true && L5 ((length (aQ T1 T2 (af L) (af F) H l k) + 2) * 16) 140737488355328) HI (.s 9 (.out [16,(976+sh d)] [16,(976+sh d)] (D.ptr 0 0 0) [Blk.mk [D.ref 1 1 0 (length (aQ T1 T2 (af L) (af F) H l k) + 2) 2] 123 false,Blk.mk (flatMap aS (aQ T1 T2 (af L) (af F) H l k) ++ [ah (eM (Mq (getD (af L) 256 ji)) (Mb (getD (af L) 256 ji))),zN (Mb (getD (af L) 256 ji)),uI 0,zI 0]) 126 true] R (ok _ _ wr (by (rw [L6,b6]; rfl))))))))))))))))))))))))))))))))))))))))))))))))))))))))))))) (fun p0=>have p0f:=bb p0; (.s 22 (.chk (L5 514 (length (flatMap ce (af L)))) I9 (.lst (take 2 (drop 512 (flatMap ce (af L)))) ([ah (Mq (getD (af L) 256 ji)),dL (Mb (getD (af L) 256 ji))]) (aE (k:=2) (i:=256) (fun _=>rfl) om om) (.s 18 (.op (↑(Mb (getD (af L) 256 ji)):Int) mw (.s 1 (.cl 152 false [] (.fn dM (@bE (Mq (getD (af L) 256 ji)) (Mb (getD (af L) 256 ji)) zR (by (exact (okL _).2)))) (.s 16 (.op (↑(Mb (getD (af L) 256 ji)):Int) mw (.s 33 (.out [16,(928+sh d)] [16,(928+sh d)] (D.ptr 0 0 0) [Blk.mk [D.ref 1 1 0 4 2] 123 false,Blk.mk [ah e,zI 1,uI 1,zI 2,ah (eM (Mq (getD (af L) 256 ji)) (Mb (getD (af L) 256 ji))),zN (Mb (getD (af L) 256 ji)),uI 0,zI 0] 126 true] R (ok _ _ wr (by ( rw [show k = 0 from by omega,gz,hH]; rfl))))))))))))))))) .nil))))))):Hn Tryz.prog)) (fun t h=>SpecH.run T_ok ai Tryz.func65 rfl rfl rfl ⟨rfl,ef (fun _=>rfl) _,trivial⟩ rfl 1000 64 (fun R ok=>.s 43 (t true 1 H hH hHl R ok)) h) (fun t h=>SpecH.run T_ok ai Tryz.func65 rfl rfl rfl ⟨rfl,ef (fun _=>rfl) _,trivial⟩ rfl 1000 64 (fun R ok=>.s 42 (t false 0 H' hH' hHl' R ok)) h) (by kernel_rfl) (by kernel_rfl)
theorem HK (l:List Tn) (k:Nat) (hk:k = l.length) (hk2:k ≤ 65535) (hl:∀ i,dj (l.getD i ji)) (T1 T2:List Sy) (hT1:T1 = aK) (hT2:T2 = aY) (hl1:T1.length = 29) (hl2:T2.length = 30) (hz1:bY T1) (hz2:bY T2) (L F:List UInt8) (hL:L = cH) (hF:F = fw) (hLl:L.length = 288) (hFl:F.length = 32) (hcL:cG L 15 = 0) (hcF:cG F 15 = 0) (hmL:(af L).length = 288) (hmF:(af F).length = 32) (okL:mc (af L)) (okF:mc (af F)) (H:List Nm) (hH:H = mb 1 1) (hHl:H.length = 2) (a:Nat) (ha:a ≤ 7) (raw:List UInt8) (r:Nat) (hr:r = raw.length) (hr2:r ≤ 65535):SpecH false Tryz.prog 65 [nD a,f8 1,.sl false r 1 (raw.map dB),.sl false k 3 (l.flatMap aZ),.v (.bool true)] [] (.ptr 0 0 0) [⟨[.ref 1 1 0 (aQ T1 T2 (af L) (af F) H l k ++ gy (af L) 256 0 0).length 2], 123, false⟩,⟨(aQ T1 T2 (af L) (af F) H l k ++ gy (af L) 256 0 0).flatMap aS, 126, true⟩]:=(CE l k hk hk2 hl T1 T2 hT1 hT2 hl1 hl2 hz1 hz2 L F hL hF hLl hFl hcL hcF hmL hmF okL okF a ha raw r hr hr2 H hH hHl _ rfl rfl).1
theorem HL (l:List Tn) (k:Nat) (hk:k = l.length) (hk2:k ≤ 65535) (hl:∀ i,dj (l.getD i ji)) (T1 T2:List Sy) (hT1:T1 = aK) (hT2:T2 = aY) (hl1:T1.length = 29) (hl2:T2.length = 30) (hz1:bY T1) (hz2:bY T2) (L F:List UInt8) (hL:L = cH) (hF:F = fw) (hLl:L.length = 288) (hFl:F.length = 32) (hcL:cG L 15 = 0) (hcF:cG F 15 = 0) (hmL:(af L).length = 288) (hmF:(af F).length = 32) (okL:mc (af L)) (okF:mc (af F)) (H:List Nm) (hH:H = mb 0 1) (hHl:H.length = 2) (a:Nat) (ha:a ≤ 7) (raw:List UInt8) (r:Nat) (hr:r = raw.length) (hr2:r ≤ 65535):SpecH false Tryz.prog 65 [nD a,f8 1,.sl false r 1 (raw.map dB),.sl false k 3 (l.flatMap aZ),.v (.bool false)] [] (.ptr 0 0 0) [⟨[.ref 1 1 0 (aQ T1 T2 (af L) (af F) H l k ++ gy (af L) 256 0 0).length 2], 123, false⟩,⟨(aQ T1 T2 (af L) (af F) H l k ++ gy (af L) 256 0 0).flatMap aS, 126, true⟩]:=(CE l k hk hk2 hl T1 T2 hT1 hT2 hl1 hl2 hz1 hz2 L F hL hF hLl hFl hcL hcF hmL hmF okL okF a ha raw r hr hr2 _ rfl rfl H hH hHl).2
end Vp
end Go.Proofs.YtefjnofhgkjpmaaGreat
namespace Go.Proofs.YtefjnofhgkjpmaaGreat
open Go.RowKit Go.Bw Go.Vx
namespace Vp
theorem SpecH.frz {al:Bool} {P:Program} {f:FuncId} {ds:List D} {n sz:Nat} {cells:List D} {t:TypeId} {rw' : Bool} (h:SpecH al P f ds [] (.ref 0 0 0 n sz) [⟨cells,t,rw'⟩]) (hn:cells.length = n * sz) (hs:0 < sz) (hc:ab cells = true):SpecH al P f ds [] (.sl false n sz cells) []:=by
 refine ⟨Mh _,fun O φ w args hO hh hi hl ha=>(h.2 O φ w args hO hh hi hl ha).mono ?_⟩
 rintro e w' ⟨u,rfl,hf,ψ,g1,g2,g3,g4,g5⟩
 refine ⟨u,rfl,hf,φ,fun j hj=>rfl,?_,fun j b hb=>by simp at hb,fun i j x h1=>absurd h1 (Nc i),fun j x h1 h2=>absurd h2 (Nc j)⟩
 have hB:=(g3 0 _ rfl).1
 have own:∀ b,(dR (je al O w) φ 0).own b → b < w.heap.size:=fun b q=>by
  rcases q with q | ⟨j,hj,_⟩
  ·unfold je at q; split at q
   ·exact hO b q
   ·exact q
  ·exact absurd hj (Nc j)
 have hst:Stp (dR (je al O w) ψ 1).cl (dR (je al O w) φ 0).cl w' w' := ⟨fun g hg=>hg.elim,fun g hg=>hg.elim,Mh _,fun b _ hb=>⟨fun q=>hb (by
  rcases q with q | ⟨j,hj,_⟩
  ·exact .inl q
  ·exact absurd hj (Nc j)),rfl⟩,fun _ _=>rfl⟩
 obtain ⟨hnm,hB⟩:=hB
 cases g2 with
 | refn _ _ _ hg hb =>
  have h0:cells = []:=Mt (by rw [hn,Nj])
  subst h0
  exact .sl false 0 sz [] none 0 [] rfl (fun i d u h=>by simp at h) (fun u h=>by cases h) (by simp) hs ⟨Mh _,MP _⟩ (fun _=>⟨rfl,rfl⟩) (.inl rfl)
 | ref _ _ _ _ _ c b off' t' m hg hb hcc ho hsh hm =>
  rw [hb] at hB
  obtain ⟨_,hlt,cur,fr,hheap,hfr,hle,_,hcell⟩:=hB
  have hcell:∀ (i:Nat) d,cells[i]? = some d → ∃ u,cur[i]? = some u ∧ u.oneCell' = true ∧ RD (dR (je al O w) ψ 1) w' d u:=hcell
  have hle:cells.length ≤ cur.size:=hle
  have hul:(cur.toList.take cells.length).length = cells.length:=MR (by rw [OY]; exact hle)
  have hget:∀ (i:Nat) u,(cur.toList.take cells.length)[i]? = some u → i < cells.length ∧ cur[i]? = some u:=fun i u hu=>by
   rw [List.getElem?_take] at hu
   split at hu
   ·next q=>exact ⟨q,by simpa using hu⟩
   ·cases hu
  refine .sl false n sz cells (some ⟨b,off', none⟩) c (cur.toList.take cells.length) hul (fun i d u h1 h2=>?_) (fun u hu=>?_) hn hs hcc (fun q=>by cases q) ?_
  ·obtain ⟨_,h2⟩:=hget i u h2
   obtain ⟨u', q1,_,q3⟩:=hcell i d h1
   rw [h2] at q1; cases q1
   exact (q3.weak (bf hc h1)).step hst
  ·obtain ⟨i,hi⟩:=List.getElem?_of_mem hu
   obtain ⟨q0,q1⟩:=hget i u hi
   obtain ⟨u', y1,y2,_⟩:=hcell i _ (List.getElem?_eq_getElem q0)
   rw [q1] at y1; cases y1; exact y2
  ·rcases ho with ho | ⟨ho,_⟩
   ·refine .inr ⟨b,off', rfl,hlt,fun q=>?_,fun i u hu=>?_⟩
    ·have:=g5 0 b (MP _) N0 hb
     have:=own b q; omega
    ·rw [ho,Mw,cell_of_row w' b i cur t fr hheap]; exact (hget i u hu).2
   ·exact .inl ho
end Vp
end Go.Proofs.YtefjnofhgkjpmaaGreat

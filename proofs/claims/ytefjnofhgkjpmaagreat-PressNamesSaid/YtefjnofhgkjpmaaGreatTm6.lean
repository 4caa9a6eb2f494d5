/- Part 6. -/
import Derived.Test.YtefjnofhgkjpmaaGreatTm5
set_option linter.unusedVariables false
set_option linter.unusedSimpArgs false
set_option maxRecDepth 100000
set_option maxHeartbeats 4000000
open And renaming intro → LW
open Array renaming length_toList → OD
open BitVec renaming ofInt → LS, toNat → Mk
open Bool renaming and_eq_true → LI, and_true → Mc, true_and → L7
open Go.Fn renaming func → Mn
open Go.IntKind renaming i64 → L5, u64 → M5, wrap → LZ
open Go.Value renaming int → My
open Inhabited renaming default → jd
open Int renaming fdiv → Mp, tmod → Nd, toNat → uM
open List renaming append_assoc → Ma, append_nil → MA, drop_append → PB, drop_replicate → OE, drop_zero → M6, eq_nil_of_length_eq_zero → L8, eq_replicate_iff → Ol, flatMap_append → Nj, flatMap_singleton → NR, length_append → LJ, length_cons → Md, length_map → LU, length_nil → Nt, length_range → MQ, length_replicate → Mg, length_take → LO, length_take_of_le → Mx, map → Ni, map_append → Mv, map_replicate → Na, map_take → Ow, range → Mt, replicate → LX, take → Ml, take_append_of_le_length → Nq, take_length → MP, take_replicate → Ph, take_succ_eq_append_getElem → Mi
open Nat renaming add_assoc → MU, add_sub_cancel → Nl, beq → LF, beq_eq → MJ, beq_refl → MM, ble → LH, ble_eq → MF, ble_eq_true_of_le → LK, blt → Nn, eq_of_beq_eq_true → LL, le_refl → LV, le_trans → LM, lt_irrefl → Ou, lt_or_ge → Mh, lt_succ_self → OU, min → MI, min_eq_left → O0, mod_one → PD, mul_comm → M8, mul_one → Me, not_lt_zero → MT, pow_add → Pb, pow_le_pow_right → MB, zero_add → Mb, zero_le → Mw, zero_lt_one → NI, zero_mul → M0
open Prod renaming fst → L6, snd → LP
open UInt8 renaming toNat → LG, toNat_lt → Mz
namespace Go.Proofs.YtefjnofhgkjpmaaGreat
open Go.RowKit Go.Bw Go.Vx
open List (length getD map take drop flatMap replicate)
namespace Vp
theorem DX {p:Prop} (h:p:=by ( have h8:=zo (l:=l) (k:=k) hc15 om (0 + (l.getD (k * 1) jd).toNat * 1) om om; omega)):p:=h
theorem GP {p:Prop} (h:p:=by (refine decide_eq_true ?_;  have h8:=zo (l:=l) (k:=k) hc15 om (0 + (l.getD (k * 1) jd).toNat * 1) om om; omega)):p:=h
theorem IH {p:Prop} (h:p:=by (refine aO ?_; (omega))):p:=h
theorem II {p:Prop} (h:p:=by show n - (k + 1) < n - k; clear next1 last1; omega):p:=h
theorem Ll {p:Prop} (h:p:=by ((refine aK ?_ ?_) <;> (repeat' (first | (refine aK ?_ ?_) | (with_reducible rfl) | (refine decide_eq_true ?_) | (refine LK ?_) | (refine eT ?_))) <;> (omega))):p:=h
theorem Lm {p:Prop} (h:p:=by ((refine aK ?_ ?_) <;> (repeat' (first | (refine aK ?_ ?_) | (with_reducible rfl) | (refine decide_eq_true ?_) | (refine LK ?_) | (refine eT ?_))) <;> ( have h8:=zo (l:=l) (k:=k) hc15 om (0 + (l.getD (k * 1) jd).toNat * 1) om om; omega))):p:=h
theorem Ln {p:Prop} (h:p:=by ( have h7:=B6 (l:=l) (a:=a) hc15 om (0 + a * 1) om; omega)):p:=h
theorem Lo {p:Prop} (h:p:=by ( have h7:=B6 (l:=l) (a:=a) hc15 om (0 + a * 1) om; refine aO ?_; omega)):p:=h
def gU (f:Nat → Nat):List D:=[cP (f 0),cP (f 1),cP (f 2),cP (f 3),cP (f 4),cP (f 5),cP (f 6),cP (f 7),cP (f 8),cP (f 9),cP (f 10),cP (f 11),cP (f 12),cP (f 13),cP (f 14),cP (f 15),cP (f 16)]
theorem tC (f:Nat → Nat) (n:Nat) (h:n < 17):(gU f)[n]? = some (cP (f n)):=by
 match n,h with
 | 0,_=>rfl | 1,_=>rfl | 2,_=>rfl | 3,_=>rfl | 4,_=>rfl | 5,_=>rfl | 6,_=>rfl | 7,_=>rfl | 8,_=>rfl | 9,_=>rfl | 10,_=>rfl | 11,_=>rfl | 12,_=>rfl | 13,_=>rfl | 14,_=>rfl | 15,_=>rfl | 16,_=>rfl
 | n + 17,h=>exact absurd h (by omega)
theorem wV (f:Nat → Nat) (n:Nat) (h:n < 17) (x:Nat):aj (gU f) n [cP x] = gU (fun m=>if m = n then x else f m):=by
 match n,h with
 | 0,_=>rfl | 1,_=>rfl | 2,_=>rfl | 3,_=>rfl | 4,_=>rfl | 5,_=>rfl | 6,_=>rfl | 7,_=>rfl | 8,_=>rfl | 9,_=>rfl | 10,_=>rfl | 11,_=>rfl | 12,_=>rfl | 13,_=>rfl | 14,_=>rfl | 15,_=>rfl | 16,_=>rfl
 | n + 17,h=>exact absurd h (by omega)
theorem cz {f g:Nat → Nat} (h:∀ n,n < 17 → f n = g n):gU f = gU g:=by
 unfold gU
 rw [h 0 (by decide),h 1 (by decide),h 2 (by decide),h 3 (by decide),h 4 (by decide),h 5 (by decide),h 6 (by decide),h 7 (by decide),h 8 (by decide),h 9 (by decide),h 10 (by decide),h 11 (by decide),h 12 (by decide),h 13 (by decide),h 14 (by decide),h 15 (by decide),h 16 (by decide)]
def bg (l:List UInt8) (k m:Nat):Nat:=lk l (if m = 0 then 0 else (ef l m k).length)
theorem gv (l:List UInt8) (k m:Nat):bg l k m = if m = 0 then 0 else (ef l m k).length:=aF _ _
theorem B1 (l:List UInt8) (m:Nat):bg l 0 m = 0:=by rw [gv]; split <;> rfl
theorem B2 (l:List UInt8) (m:Nat):bg l l.length m = aJ l m:=by rw [gv,ll]; rfl
theorem wW (l:List UInt8) (k m:Nat):bg l k m ≤ k:=by
 rw [gv]; split
 ·exact Mw _
 ·exact zf _ _ _
theorem qm {l:List UInt8} {k:Nat} (m:Nat):bg l (k + 1) m = bg l k m + (if m ≠ 0 ∧ (l.getD k jd).toNat = m then 1 else 0):=by
 rw [gv,gv]
 by_cases h0:m = 0
 ·rw [if_pos h0,if_pos h0,if_neg (fun q=>q.1 h0)]
 ·rw [if_neg h0,if_neg h0,gQ]
  by_cases h:(l.getD k jd).toNat = m
  ·rw [if_pos h,if_pos ⟨h0,h⟩,LJ]; rfl
  ·rw [if_neg h,if_neg (fun q=>h q.2),MA]; rfl
def bS (l:List UInt8) (a m:Nat):Nat:=lk l (if m < a then jP l m else aJ l m)
theorem lw (l:List UInt8) (a m:Nat):bS l a m = if m < a then jP l m else aJ l m:=aF _ _
def bu (l:List UInt8) (k m:Nat):Nat:=lk l (jP l m + bg l k m)
theorem eV (l:List UInt8) (k m:Nat):bu l k m = jP l m + bg l k m:=aF _ _
def qn (l:List UInt8) (a:Nat):Nat:=lk l (jP l a)
theorem oh (l:List UInt8) (a:Nat):qn l a = jP l a:=aF _ _
def DY (l:List UInt8) (k j:Nat):Nat × Nat:=if j < k ∧ (l.getD j jd).toNat ≠ 0 then (qg l j,(l.getD j jd).toNat) else (0,0)
def kq (l:List UInt8) (k:Nat):List (Nat × Nat):=lk l ((Mt l.length).map (DY l k))
theorem lx (l:List UInt8) (k:Nat):kq l k = (Mt l.length).map (DY l k):=aF _ _
theorem oi (l:List UInt8) (k:Nat):(kq l k).length = l.length:=by rw [lx,LU,MQ]
theorem GQ (l:List UInt8):kq l 0 = LX l.length (0,0):=by
 rw [lx]
 apply List.ext_getElem?
 intro i
 rw [List.getElem?_map,List.getElem?_replicate]
 rcases Mh i l.length with hi | hi
 ·rw [List.getElem?_range hi,if_pos hi]; rfl
 ·rw [List.getElem?_eq_none (by simpa using hi),if_neg (by omega)]; rfl
theorem B3 {l:List UInt8} {k:Nat} (hk:k < l.length):kq l (k + 1) = if (l.getD k jd).toNat = 0 then kq l k else (kq l k).set k (qg l k,(l.getD k jd).toNat):=by
 apply List.ext_getElem?
 intro i
 have e:∀ j,(kq l j)[i]? = if i < l.length then some (DY l j i) else none:=fun j=>by
  rw [lx,List.getElem?_map]
  rcases Mh i l.length with hi | hi
  ·rw [List.getElem?_range hi,if_pos hi]; rfl
  ·rw [List.getElem?_eq_none (by simpa using hi),if_neg (by omega)]; rfl
 by_cases h:(l.getD k jd).toNat = 0
 ·rw [if_pos h,e,e]
  split
  ·congr 1; unfold DY
   by_cases hi:i = k
   ·subst hi; rw [if_neg (fun q=>q.2 h),if_neg (fun q=>q.2 h)]
   ·by_cases q:i < k ∧ (l.getD i jd).toNat ≠ 0
    ·rw [if_pos q,if_pos ⟨by omega,q.2⟩]
    ·rw [if_neg q,if_neg (fun z=>q ⟨by omega,z.2⟩)]
  ·rfl
 ·rw [if_neg h,List.getElem?_set,oi,e,e]
  by_cases hi:k = i
  ·subst hi
   rw [if_pos hk,if_pos rfl,if_pos hk]
   unfold DY; rw [if_pos ⟨OU k,h⟩]
  ·rw [if_neg hi]
   split
   ·congr 1; unfold DY
    by_cases q:i < k ∧ (l.getD i jd).toNat ≠ 0
    ·rw [if_pos q,if_pos ⟨by omega,q.2⟩]
    ·rw [if_neg q,if_neg (fun z=>q ⟨by omega,z.2⟩)]
   ·rfl
theorem B4 {l:List UInt8} (ho:dm l 15 = false):kq l l.length = ae l:=by
 rw [lx,wT,BZ]
 apply List.map_congr_left
 intro j hj
 have hj:=List.mem_range.1 hj
 have h:=eG ho hj
 unfold DY JX
 by_cases q:(l.getD j jd).toNat = 0
 ·rw [if_neg (fun z=>z.2 q),if_neg (fun z=>z.1 q)]
 ·rw [if_pos ⟨hj,q⟩,if_pos ⟨q,.inl (by omega)⟩]
theorem B5 {l:List UInt8} (hc:cG l 15 = 0) {a:Nat} (h:a ≤ 15):jP l a + aJ l a ≤ 2 ^ a:=by
 have ho:=(eU hc).2.1
 have hk:=(eU hc).2.2
 have h1:=rZ l a h
 have h2:=qj l (a + 1) (16 - (a + 1))
 rw [show a + 1 + (16 - (a + 1)) = 16 from by omega,GO l ho,h1] at h2
 have h3:(jP l a + aJ l a) * dn 32768 a ≤ 2 ^ a * dn 32768 a:=by
  rw [dV h,← Pb,show a + (15 - a) = 15 from by omega]
  rw [dV h] at h2
  omega
 exact Nat.le_of_mul_le_mul_right h3 (qh h)
theorem DZ {l:List UInt8} (ho:dm l 15 = false) {a:Nat} (h:16 ≤ a):aJ l a = 0:=by
 rw [ll]; unfold wF
 rw [if_neg (by omega)]
 have:ef l a l.length = []:=by
  rw [List.eq_nil_iff_forall_not_mem]
  intro i hi
  have:=wG.1 hi
  have:=eG ho this.1
  omega
 rw [this]; rfl
theorem wX {l:List UInt8} (hc:cG l 15 = 0) {a:Nat} (h:a ≤ 17):jP l a ≤ 131072 ∧ (a ≤ 16 → jP l a + aJ l a ≤ 65536):=by
 have ho:=(eU hc).2.1
 have p:∀ b,b ≤ 15 → jP l b + aJ l b ≤ 32768:=fun b hb=>LM (B5 hc hb) (MB (n:=2) (by decide) hb)
 have q16:jP l 16 = 2 * (jP l 15 + aJ l 15):=rfl
 have q17:jP l 17 = 2 * (jP l 16 + aJ l 16):=rfl
 have Lf:=DZ ho (a:=16) (by decide)
 have p15:=p 15 (by decide)
 rcases Mh a 16 with z | z
 ·have:=p a (by omega); exact ⟨by omega,fun _=>by omega⟩
 ·rcases Mh a 17 with y | y
  ·have e:a = 16:=by omega
   subst e; exact ⟨by omega,fun _=>by omega⟩
  ·have e:a = 17:=by omega
   subst e; exact ⟨by omega,fun q=>by omega⟩
theorem GR (l:List UInt8):gU (fun _=>0) = gU (bg l 0):=cz fun m _=>(B1 l m).symm
theorem D0 {l:List UInt8} {k:Nat} (h:(l.getD (k * 1) jd).toNat = 0):gU (bg l k) = gU (bg l (k + 1)):=cz fun m _=>by
 rw [Me] at h
 rw [qm,if_neg (fun q=>by omega)]; rfl
theorem GS {l:List UInt8} {k:Nat} (h:k = l.length):gU (bg l k) = gU (aJ l):=cz fun m _=>by rw [h,B2]
theorem GU (l:List UInt8):gU (aJ l) = gU (bS l 0):=cz fun m _=>by rw [lw,if_neg (MT m)]
theorem GV {l:List UInt8} {a:Nat} (h:17 ≤ a):gU (bS l a) = gU (bu l 0):=cz fun m hm=>by rw [lw,if_pos (by omega),eV,B1]; rfl
theorem D1 {l:List UInt8} {k:Nat} (h:(l.getD (k * 1) jd).toNat = 0):gU (bu l k) = gU (bu l (k + 1)):=cz fun m _=>by
 rw [Me] at h
 rw [eV,eV,qm,if_neg (fun q=>by omega)]; rfl
theorem JY (l:List UInt8) (k:Nat) {o:Nat} (h:(l.getD (k * 1) jd).toNat = o) (h0:0 < o) (h1:o < 17):aj (gU (bg l k)) o [D.v (.int .u32 (((bg l k o:Nat):Int) + 1))] = gU (bg l (k + 1)):=by
 rw [Me] at h
 refine (wV (bg l k) o h1 (bg l k o + 1)).trans (cz fun m _=>?_)
 rw [qm]
 by_cases e:m = o
 ·rw [if_pos e,e,if_pos ⟨by omega,h⟩]
 ·rw [if_neg e,if_neg (fun q=>e (by omega))]; rfl
theorem GW (l:List UInt8) (a:Nat) {o:Nat} {z:Int} (ho:o = a) (h1:a < 17) (hz:z = ((qn l a:Nat):Int)):aj (gU (bS l a)) o [D.v (.int .u32 z)] = gU (bS l (a + 1)):=by
 subst ho hz
 refine (wV (bS l o) o h1 (qn l o)).trans (cz fun m _=>?_)
 rw [lw,lw,oh]
 by_cases e:m = o
 ·rw [if_pos e,e,if_pos (OU o)]
 ·rw [if_neg e]
  by_cases q:m < o
  ·rw [if_pos q,if_pos (by omega)]
  ·rw [if_neg q,if_neg (by omega)]
theorem GX (l:List UInt8) (k:Nat) {o:Nat} (h:(l.getD (k * 1) jd).toNat = o) (h0:0 < o) (h1:o < 17):aj (gU (bu l k)) o [D.v (.int .u32 (((bu l k o:Nat):Int) + 1))] = gU (bu l (k + 1)):=by
 rw [Me] at h
 refine (wV (bu l k) o h1 (bu l k o + 1)).trans (cz fun m _=>?_)
 rw [eV,eV,eV,qm]
 by_cases e:m = o
 ·rw [if_pos e,e,if_pos ⟨by omega,h⟩]; rfl
 ·rw [if_neg e,if_neg (fun q=>e (by omega))]; rfl
theorem zo {l:List UInt8} {k:Nat} (hc:cG l 15 = 0) (hk:k < l.length) (o:Nat) (h:(l.getD (k * 1) jd).toNat = o) (h0:0 < o):o ≤ 15 ∧ bu l k o = qg l k ∧ bu l (k + 1) o = qg l k + 1 ∧ qg l k ≤ 65536 ∧ bg l k o ≤ k:=by
 rw [Me] at h
 have ho:=eG (eU hc).2.1 hk
 have h1:o ≤ 15:=by omega
 have e:=B0 h (by omega) h1
 have h2:bu l k o = qg l k:=by rw [eV,gv,if_neg (by omega),e]
 have h3:=(wX hc (a:=o) (by omega)).2 (by omega)
 have h4:bg l (k + 1) o = bg l k o + 1:=by rw [qm,if_pos ⟨by omega,h⟩]
 have h5:bu l (k + 1) o = qg l k + 1:=by
  rw [eV,h4,← h2,eV,MU]
 have h6:bg l (k + 1) o ≤ aJ l o:=by
  rw [← B2,gv,gv,if_neg (by omega),if_neg (by omega)]
  obtain ⟨r,hr⟩:=lv l o (k + 1) (l.length - (k + 1))
  rw [show k + 1 + (l.length - (k + 1)) = l.length from by omega] at hr
  rw [hr,LJ]; omega
 refine ⟨h1,h2,h5,?_,wW l k o⟩
 rw [← h2,eV]; omega
theorem B6 {l:List UInt8} {a:Nat} (hc:cG l 15 = 0) (h:a < 17) (o:Nat) (ho:o = a):qn l a + bS l a o ≤ 65536 ∧ (qn l a + bS l a o) * 2 = qn l (a + 1) ∧ qn l (a + 1) ≤ 131072:=by
 subst ho
 have h1:=(wX hc (a:=o) (by omega)).2 (by omega)
 have h2:=(wX hc (a:=o + 1) (by omega)).1
 rw [oh,oh,lw,if_neg (Ou o)]
 refine ⟨h1,?_,h2⟩
 rw [jP,M8]
theorem GY {l:List UInt8} {k:Nat} (hk:k < l.length) (h:(l.getD (k * 1) jd).toNat = 0):kq l (k + 1) = kq l k:=by
 rw [Me] at h; rw [B3 hk,if_pos h]
theorem GZ {l:List UInt8} {k:Nat} (hk:k < l.length) (h:0 < (l.getD (k * 1) jd).toNat):kq l (k + 1) = (kq l k).set k (qg l k,(l.getD k jd).toNat):=by
 rw [Me] at h; rw [B3 hk,if_neg (by omega)]
theorem LC {l:List UInt8} {k:Nat} (hc:cG l 15 = 0) (hk:k < l.length) (h:0 < (l.getD (k * 1) jd).toNat):aj ((kq l k).flatMap jI) (k * 2) [D.v (.int .u32 (((bu l (k + 1) (l.getD k jd).toNat:Nat):Int) - 1)),D.v (.int .u8 (((l.getD k jd).toNat:Nat):Int))] = (kq l (k + 1)).flatMap jI:=by
 have h2:=zo hc hk (l.getD k jd).toNat (by rw [Me]) (by rwa [Me] at h)
 rw [GZ hk h,h2.2.2.1,show (((qg l k + 1:Nat):Int) - 1) = ((qg l k:Nat):Int) from by omega]
 exact zm (c:=(qg l k,(l.getD k jd).toNat)) (by rw [oi]; exact hk) (M8 k 2)
theorem zp (l:List UInt8) (n:Nat) (hn:n = l.length) (m:Nat) (hm:1 ≤ m ∧ m ≤ 15) (hc:cG l m = 0):SpecH false Tryz.prog 112 [.sl false n 1 (l.map dB),nD m] [] (.tup [.ref 0 0 0 n 2,iD 0]) [⟨(ae l).flatMap jI, 210, true⟩]:=by
 have hL:=(eU hc).1
 have hc15:=(og hm.2 hc).1
 have ho:=(eU hc15).2.1
 refine SpecH.run T_ok ai Tryz.func112 rfl rfl rfl ⟨ee (fun _=>rfl) _,trivial⟩ rfl 1000 64 (fun R ok=>(.s 5 (.cl 148 false [] (.fn Jy (@DJ (l) (n) om om (m) om)) (.s 4 (.f ((↑(cG l m):Int) != 0) (by (simp <;> (omega))) (.s 8 (.blk 80 80 (Blk.mk [uI 0,uI 0,uI 0,uI 0,uI 0,uI 0,uI 0,uI 0,uI 0,uI 0,uI 0,uI 0,uI 0,uI 0,uI 0,uI 0,uI 0] 234 false) (Blk.mk [ag (bg l 0 0),ag (bg l 0 1),ag (bg l 0 2),ag (bg l 0 3),ag (bg l 0 4),ag (bg l 0 5),ag (bg l 0 6),ag (bg l 0 7),ag (bg l 0 8),ag (bg l 0 9),ag (bg l 0 10),ag (bg l 0 11),ag (bg l 0 12),ag (bg l 0 13),ag (bg l 0 14),ag (bg l 0 15),ag (bg l 0 16)] 234 false) (by (exact aC (GR l))) (Hn.inl T_ok ai false 20 80 (ay Tryz.prog 149 0) (fun (x:(k:Nat) ×' (hk:k ≤ n) ×' Unit)=>match x with | ⟨k,hk,_⟩=>CutS.mk [(2,D.ptr 80 80 0),(5,D.sl false n 1 (map dB l)),(6,zN n),(7,nD k)] [⟨80,80,80,80,.c ⟨gU (bg l k),234,false⟩⟩] 88) (fun (x:(k:Nat) ×' (hk:k ≤ n) ×' Unit)=>match x with | ⟨k,hk,_⟩=>n - k) [⟨Unit,.exit 0,fun x=>match x with | ()=>CutS.mk [(2,D.ptr 80 80 0),(5,D.sl false n 1 (map dB l)),(6,zN n)] [⟨80,80,80,80,.c ⟨gU (aJ l),234,false⟩⟩] 88⟩] 1000 64 (fun | ⟨k,hk,_⟩,Q,next1,last1=>(.s 2 (.br (decide ((k:Int) < (n:Int))) (fun p0=>have p0f:=aU p0; (.s 1 (.chk (true && decide ((k:Int) < (n:Int)) && true) Ll (.s 2 (.opt ((map dB l)[k * 1]?) (dB (getD l (k * 1) jd)) (au _ _ om) (.s 4 (.br (decide (0 < (↑(LG (getD l (k * 1) jd)):Int))) (fun p1=>have p1f:=aU p1; (.s 2 (.chk (true && decide ((↑(LG (getD l (k * 1) jd)):Int) < (↑17:Int))) GP (.s 3 (.opt ((gU (bg l k))[0 + LG (getD l (k * 1) jd) * 1]?) (cP (bg l k (0 + LG (getD l (k * 1) jd) * 1))) (@tC (bg l k) (0 + LG (getD l (k * 1) jd) * 1) DX) (.s 2 (.opt (aw .u32 ((↑(bg l k (0 + LG (getD l (k * 1) jd) * 1)):Int) + 1)) (uI ((↑(bg l k (0 + LG (getD l (k * 1) jd) * 1)):Int) + 1)) (aB (by ( have h9:=wW l k (0 + (l.getD (k * 1) jd).toNat * 1); omega))) (.s 1 (.chk (true && decide ((↑(LG (getD l (k * 1) jd)):Int) < (↑17:Int))) GP (.s 2 (.chk (true && LH (0 + LG (getD l (k * 1) jd) * 1 + 1) 17) Lm (.lst (aj [ag (bg l k 0),ag (bg l k 1),ag (bg l k 2),ag (bg l k 3),ag (bg l k 4),ag (bg l k 5),ag (bg l k 6),ag (bg l k 7),ag (bg l k 8),ag (bg l k 9),ag (bg l k 10),ag (bg l k 11),ag (bg l k 12),ag (bg l k 13),ag (bg l k 14),ag (bg l k 15),ag (bg l k 16)] (0 + LG (getD l (k * 1) jd) * 1) [uI ((↑(bg l k (0 + LG (getD l (k * 1) jd) * 1)):Int) + 1)]) ([ag (bg l (k + 1) 0),ag (bg l (k + 1) 1),ag (bg l (k + 1) 2),ag (bg l (k + 1) 3),ag (bg l (k + 1) 4),ag (bg l (k + 1) 5),ag (bg l (k + 1) 6),ag (bg l (k + 1) 7),ag (bg l (k + 1) 8),ag (bg l (k + 1) 9),ag (bg l (k + 1) 10),ag (bg l (k + 1) 11),ag (bg l (k + 1) 12),ag (bg l (k + 1) 13),ag (bg l (k + 1) 14),ag (bg l (k + 1) 15),ag (bg l (k + 1) 16)]) (@JY l k (0 + LG (getD l (k * 1) jd) * 1) om om DX) (.s 2 (.ow ((k:Int) + 1) (.s 1 (.val 7 (zI ((k:Int) + 1)) (zN (k + 1)) IH (Hn.next next1 ⟨(k + 1),om,⟨⟩⟩ II [(80,80)] ro))))))))))))))))) (fun p1=>have p1f:=aV p1; (.s 2 (.ow ((k:Int) + 1) (.s 1 (.val 7 (zI ((k:Int) + 1)) (zN (k + 1)) IH (.blk 80 80 (Blk.mk [ag (bg l k 0),ag (bg l k 1),ag (bg l k 2),ag (bg l k 3),ag (bg l k 4),ag (bg l k 5),ag (bg l k 6),ag (bg l k 7),ag (bg l k 8),ag (bg l k 9),ag (bg l k 10),ag (bg l k 11),ag (bg l k 12),ag (bg l k 13),ag (bg l k 14),ag (bg l k 15),ag (bg l k 16)] 234 false) (Blk.mk [ag (bg l (k + 1) 0),ag (bg l (k + 1) 1),ag (bg l (k + 1) 2),ag (bg l (k + 1) 3),ag (bg l (k + 1) 4),ag (bg l (k + 1) 5),ag (bg l (k + 1) 6),ag (bg l (k + 1) 7),ag (bg l (k + 1) 8),ag (bg l (k + 1) 9),ag (bg l (k + 1) 10),ag (bg l (k + 1) 11),ag (bg l (k + 1) 12),ag (bg l (k + 1) 13),ag (bg l (k + 1) 14),ag (bg l (k + 1) 15),ag (bg l (k + 1) 16)] 234 false) (by (exact aC (D0 (by (omega))))) (Hn.next next1 ⟨(k + 1),om,⟨⟩⟩ II [(80,80)] ro)))))))))))))) (fun p0=>have p0f:=aV p0; (.blk 80 80 (Blk.mk [ag (bg l k 0),ag (bg l k 1),ag (bg l k 2),ag (bg l k 3),ag (bg l k 4),ag (bg l k 5),ag (bg l k 6),ag (bg l k 7),ag (bg l k 8),ag (bg l k 9),ag (bg l k 10),ag (bg l k 11),ag (bg l k 12),ag (bg l k 13),ag (bg l k 14),ag (bg l k 15),ag (bg l k 16)] 234 false) (Blk.mk [ag (aJ l 0),ag (aJ l 1),ag (aJ l 2),ag (aJ l 3),ag (aJ l 4),ag (aJ l 5),ag (aJ l 6),ag (aJ l 7),ag (aJ l 8),ag (aJ l 9),ag (aJ l 10),ag (aJ l 11),ag (aJ l 12),ag (aJ l 13),ag (aJ l 14),ag (aJ l 15),ag (aJ l 16)] 234 false) (by (exact aC (GS (by (omega))))) (Hn.last last1 0 (():Unit) rfl [(80,80)] ro)))))) (fun | ⟨k,hk,_⟩=>by kernel_rfl) ⟨(0),om,⟨⟩⟩ [(80,80)] ro (b5 (fun | ()=>(.s 19 (.val 2 (uI 0) (ag (qn l 0)) (by (rw [oh]; rfl)) (.blk 120 120 (Blk.mk [ag (aJ l 0),ag (aJ l 1),ag (aJ l 2),ag (aJ l 3),ag (aJ l 4),ag (aJ l 5),ag (aJ l 6),ag (aJ l 7),ag (aJ l 8),ag (aJ l 9),ag (aJ l 10),ag (aJ l 11),ag (aJ l 12),ag (aJ l 13),ag (aJ l 14),ag (aJ l 15),ag (aJ l 16)] 234 false) (Blk.mk [ag (bS l 0 0),ag (bS l 0 1),ag (bS l 0 2),ag (bS l 0 3),ag (bS l 0 4),ag (bS l 0 5),ag (bS l 0 6),ag (bS l 0 7),ag (bS l 0 8),ag (bS l 0 9),ag (bS l 0 10),ag (bS l 0 11),ag (bS l 0 12),ag (bS l 0 13),ag (bS l 0 14),ag (bS l 0 15),ag (bS l 0 16)] 234 false) (by (exact aC (GU l))) (Hn.inl T_ok ai false 21 144 (ay Tryz.prog 150 0) (fun (x:(a:Nat) ×' (ha:a ≤ 17) ×' Unit)=>match x with | ⟨a,ha,_⟩=>CutS.mk [(0,D.ptr 120 120 0),(2,cP (qn l a)),(4,nD a)] [⟨80,80,80,80,.b ⟨[ag (aJ l 0),ag (aJ l 1),ag (aJ l 2),ag (aJ l 3),ag (aJ l 4),ag (aJ l 5),ag (aJ l 6),ag (aJ l 7),ag (aJ l 8),ag (aJ l 9),ag (aJ l 10),ag (aJ l 11),ag (aJ l 12),ag (aJ l 13),ag (aJ l 14),ag (aJ l 15),ag (aJ l 16)],234,false⟩⟩,⟨120,120,120,120,.c ⟨gU (bS l a),234,false⟩⟩] 160) (fun (x:(a:Nat) ×' (ha:a ≤ 17) ×' Unit)=>match x with | ⟨a,ha,_⟩=>17 - a) [⟨Unit,.exit 0,fun x=>match x with | ()=>CutS.mk [(0,D.ptr 120 120 0)] [⟨80,80,80,80,.b ⟨[ag (aJ l 0),ag (aJ l 1),ag (aJ l 2),ag (aJ l 3),ag (aJ l 4),ag (aJ l 5),ag (aJ l 6),ag (aJ l 7),ag (aJ l 8),ag (aJ l 9),ag (aJ l 10),ag (aJ l 11),ag (aJ l 12),ag (aJ l 13),ag (aJ l 14),ag (aJ l 15),ag (aJ l 16)],234,false⟩⟩,⟨120,120,120,120,.c ⟨gU (bu l 0),234,false⟩⟩] 160⟩] 1000 64 (fun | ⟨a,ha,_⟩,Q,next1,last1=>(.s 2 (.br (decide ((a:Int) < 17)) (fun p2=>have p2f:=aU p2; (.s 10 (.chk (true && decide ((a:Int) < (↑17:Int))) bx (.s 3 (.opt ((gU (bS l a))[0 + a * 1]?) (cP (bS l a (0 + a * 1))) (@tC (bS l a) (0 + a * 1) om) (.s 2 (.opt (aw .u32 ((↑(qn l a):Int) + (↑(bS l a (0 + a * 1)):Int))) (uI ((↑(qn l a):Int) + (↑(bS l a (0 + a * 1)):Int))) (aB Ln) (.s 2 (.opt (aw .u32 (((↑(qn l a):Int) + (↑(bS l a (0 + a * 1)):Int)) * 2)) (uI (((↑(qn l a):Int) + (↑(bS l a (0 + a * 1)):Int)) * 2)) (aB Ln) (.s 4 (.chk (true && decide ((a:Int) < (↑17:Int))) bx (.s 2 (.chk (true && LH (0 + a * 1 + 1) 17) (by (refine LK ?_; (omega))) (.lst (aj [ag (bS l a 0),ag (bS l a 1),ag (bS l a 2),ag (bS l a 3),ag (bS l a 4),ag (bS l a 5),ag (bS l a 6),ag (bS l a 7),ag (bS l a 8),ag (bS l a 9),ag (bS l a 10),ag (bS l a 11),ag (bS l a 12),ag (bS l a 13),ag (bS l a 14),ag (bS l a 15),ag (bS l a 16)] (0 + a * 1) [ag (qn l a)]) ([ag (bS l (a + 1) 0),ag (bS l (a + 1) 1),ag (bS l (a + 1) 2),ag (bS l (a + 1) 3),ag (bS l (a + 1) 4),ag (bS l (a + 1) 5),ag (bS l (a + 1) 6),ag (bS l (a + 1) 7),ag (bS l (a + 1) 8),ag (bS l (a + 1) 9),ag (bS l (a + 1) 10),ag (bS l (a + 1) 11),ag (bS l (a + 1) 12),ag (bS l (a + 1) 13),ag (bS l (a + 1) 14),ag (bS l (a + 1) 15),ag (bS l (a + 1) 16)]) (@GW l a (0 + a * 1) ((↑(qn l a):Int)) om om om) (.s 2 (.ow ((a:Int) + 1) (.s 1 (.val 2 (uI (((↑(qn l a):Int) + (↑(bS l a (0 + a * 1)):Int)) * 2)) (ag (qn l (a + 1))) Lo (.val 4 (zI ((a:Int) + 1)) (zN (a + 1)) Lo (Hn.next next1 ⟨(a + 1),om,⟨⟩⟩ (by show 17 - (a + 1) < 17 - a; clear next1 last1; omega) [(80,80),(120,120)] ro)))))))))))))))))))) (fun p2=>have p2f:=aV p2; (.blk 120 120 (Blk.mk [ag (bS l a 0),ag (bS l a 1),ag (bS l a 2),ag (bS l a 3),ag (bS l a 4),ag (bS l a 5),ag (bS l a 6),ag (bS l a 7),ag (bS l a 8),ag (bS l a 9),ag (bS l a 10),ag (bS l a 11),ag (bS l a 12),ag (bS l a 13),ag (bS l a 14),ag (bS l a 15),ag (bS l a 16)] 234 false) (Blk.mk [ag (bu l 0 0),ag (bu l 0 1),ag (bu l 0 2),ag (bu l 0 3),ag (bu l 0 4),ag (bu l 0 5),ag (bu l 0 6),ag (bu l 0 7),ag (bu l 0 8),ag (bu l 0 9),ag (bu l 0 10),ag (bu l 0 11),ag (bu l 0 12),ag (bu l 0 13),ag (bu l 0 14),ag (bu l 0 15),ag (bu l 0 16)] 234 false) (by (exact aC (GV (by (omega))))) (Hn.last last1 0 (():Unit) rfl [(80,80),(120,120)] ro)))))) (fun | ⟨a,ha,_⟩=>by kernel_rfl) ⟨(0),om,⟨⟩⟩ [(80,80),(120,120)] ro (b5 (fun | ()=>(.s 3 (.chk (true && decide ((n:Int) ≤ (n:Int)) && true && true && true && true && decide ((↑(TI.bytes tu):Int) * (n:Int) ≤ 140737488355328)) (by (have h9:((tu.bytes:Nat):Int) = 8:=rfl; rw [h9]; simp; omega)) (.s 4 (.blk 184 184 (Blk.mk (cu [uI 0,bI 0] (n * 2)) 210 true) (Blk.mk (flatMap jI (kq l 0)) 210 true) (by (refine aC ?_; rw [DU,GQ,hn])) (Hn.inl T_ok ai false 39 0 (ay Tryz.prog 112 0) (fun (x:(k:Nat) ×' (hk:k ≤ n) ×' Unit)=>match x with | ⟨k,hk,_⟩=>CutS.mk [(7,D.ptr 0 0 0),(8,D.ref 8 8 0 n 2),(23,D.sl false n 1 (map dB l)),(24,zN n),(25,nD k)] [⟨0,0,120,120,.c ⟨gU (bu l k),234,false⟩⟩,⟨8,8,184,184,.b ⟨(kq l k).flatMap jI,210,true⟩⟩] 16) (fun (x:(k:Nat) ×' (hk:k ≤ n) ×' Unit)=>match x with | ⟨k,hk,_⟩=>n - k) [⟨Unit,.exit 0,fun x=>match x with | ()=>CutS.mk [(7,D.ptr 0 0 0),(8,D.ref 8 8 0 n 2),(23,D.sl false n 1 (map dB l)),(24,zN n)] [⟨8,8,184,184,.b ⟨(ae l).flatMap jI,210,true⟩⟩] 16⟩] 1000 64 (fun | ⟨k,hk,_⟩,Q,next1,last1=>(.s 2 (.br (decide ((k:Int) < (n:Int))) (fun p3=>have p3f:=aU p3; (.s 2 (.chk (true && decide ((k:Int) < (n:Int)) && true) Ll (.s 2 (.opt ((map dB l)[k * 1]?) (dB (getD l (k * 1) jd)) (au _ _ om) (.s 5 (.br (decide (0 < (↑(LG (getD l (k * 1) jd)):Int))) (fun p4=>have p4f:=aU p4; (.s 12 (.chk (true && decide ((↑(LG (getD l (k * 1) jd)):Int) < (↑17:Int))) GP (.s 3 (.opt ((gU (bu l k))[0 + LG (getD l (k * 1) jd) * 1]?) (cP (bu l k (0 + LG (getD l (k * 1) jd) * 1))) (@tC (bu l k) (0 + LG (getD l (k * 1) jd) * 1) DX) (.s 2 (.opt (aw .u32 ((↑(bu l k (0 + LG (getD l (k * 1) jd) * 1)):Int) + 1)) (uI ((↑(bu l k (0 + LG (getD l (k * 1) jd) * 1)):Int) + 1)) (aB DX) (.s 2 (.chk (true && decide ((↑(LG (getD l (k * 1) jd)):Int) < (↑17:Int))) GP (.s 2 (.chk (true && LH (0 + LG (getD l (k * 1) jd) * 1 + 1) 17) Lm (.lst (aj [ag (bu l k 0),ag (bu l k 1),ag (bu l k 2),ag (bu l k 3),ag (bu l k 4),ag (bu l k 5),ag (bu l k 6),ag (bu l k 7),ag (bu l k 8),ag (bu l k 9),ag (bu l k 10),ag (bu l k 11),ag (bu l k 12),ag (bu l k 13),ag (bu l k 14),ag (bu l k 15),ag (bu l k 16)] (0 + LG (getD l (k * 1) jd) * 1) [uI ((↑(bu l k (0 + LG (getD l (k * 1) jd) * 1)):Int) + 1)]) ([ag (bu l (k + 1) 0),ag (bu l (k + 1) 1),ag (bu l (k + 1) 2),ag (bu l (k + 1) 3),ag (bu l (k + 1) 4),ag (bu l (k + 1) 5),ag (bu l (k + 1) 6),ag (bu l (k + 1) 7),ag (bu l (k + 1) 8),ag (bu l (k + 1) 9),ag (bu l (k + 1) 10),ag (bu l (k + 1) 11),ag (bu l (k + 1) 12),ag (bu l (k + 1) 13),ag (bu l (k + 1) 14),ag (bu l (k + 1) 15),ag (bu l (k + 1) 16)]) (@GX l k (0 + LG (getD l (k * 1) jd) * 1) om om DX) (.s 4 (.chk (true && decide ((↑(LG (getD l (k * 1) jd)):Int) < (↑17:Int))) GP (.s 3 (.opt ((gU (bu l (k + 1)))[0 + LG (getD l (k * 1) jd) * 1]?) (cP (bu l (k + 1) (0 + LG (getD l (k * 1) jd) * 1))) (@tC (bu l (k + 1)) (0 + LG (getD l (k * 1) jd) * 1) DX) (.s 2 (.opt (aw .u32 ((↑(bu l (k + 1) (0 + LG (getD l (k * 1) jd) * 1)):Int) - 1)) (uI ((↑(bu l (k + 1) (0 + LG (getD l (k * 1) jd) * 1)):Int) - 1)) (aB DX) (.s 10 (.chk (true && decide ((k:Int) < (n:Int))) bx (.s 1 (.chk (true && LH (0 + k * 2 + 2) (length (flatMap jI (kq l k)))) (by (rw [bl (k:=2) (fun _=>rfl),oi]; simp only [L7]; refine LK ?_; (omega))) (.lst (aj (flatMap jI (kq l k)) (0 + k * 2) [uI ((↑(bu l (k + 1) (0 + LG (getD l (k * 1) jd) * 1)):Int) - 1),dM (LG (getD l (k * 1) jd))]) (aj (flatMap jI (kq l k)) (k * 2) [uI ((↑(bu l (k + 1) (LG (getD l k jd))):Int) - 1),dM (LG (getD l k jd))]) (by (simp; done)) (.s 2 (.ow ((k:Int) + 1) (.s 1 (.val 25 (zI ((k:Int) + 1)) (zN (k + 1)) IH (.blk 8 8 (Blk.mk (aj (flatMap jI (kq l k)) (k * 2) [uI ((↑(bu l (k + 1) (LG (getD l k jd))):Int) - 1),dM (LG (getD l k jd))]) 210 true) (Blk.mk (flatMap jI (kq l (k + 1))) 210 true) (by (exact aC (LC hc15 (by (omega)) (by (omega))))) (Hn.next next1 ⟨(k + 1),om,⟨⟩⟩ II [(0,0),(8,8)] ro))))))))))))))))))))))))))))) (fun p4=>have p4f:=aV p4; (.s 2 (.ow ((k:Int) + 1) (.s 1 (.val 25 (zI ((k:Int) + 1)) (zN (k + 1)) IH (.blk 0 0 (Blk.mk [ag (bu l k 0),ag (bu l k 1),ag (bu l k 2),ag (bu l k 3),ag (bu l k 4),ag (bu l k 5),ag (bu l k 6),ag (bu l k 7),ag (bu l k 8),ag (bu l k 9),ag (bu l k 10),ag (bu l k 11),ag (bu l k 12),ag (bu l k 13),ag (bu l k 14),ag (bu l k 15),ag (bu l k 16)] 234 false) (Blk.mk [ag (bu l (k + 1) 0),ag (bu l (k + 1) 1),ag (bu l (k + 1) 2),ag (bu l (k + 1) 3),ag (bu l (k + 1) 4),ag (bu l (k + 1) 5),ag (bu l (k + 1) 6),ag (bu l (k + 1) 7),ag (bu l (k + 1) 8),ag (bu l (k + 1) 9),ag (bu l (k + 1) 10),ag (bu l (k + 1) 11),ag (bu l (k + 1) 12),ag (bu l (k + 1) 13),ag (bu l (k + 1) 14),ag (bu l (k + 1) 15),ag (bu l (k + 1) 16)] 234 false) (by (exact aC (D1 (by (omega))))) (.blk 8 8 (Blk.mk (flatMap jI (kq l k)) 210 true) (Blk.mk (flatMap jI (kq l (k + 1))) 210 true) (by (rw [GY (by (omega)) (by (omega))])) (Hn.next next1 ⟨(k + 1),om,⟨⟩⟩ II [(0,0),(8,8)] ro))))))))))))))) (fun p3=>have p3f:=aV p3; (.blk 8 8 (Blk.mk (flatMap jI (kq l k)) 210 true) (Blk.mk (flatMap jI (ae l)) 210 true) (by (rw [show k = l.length from by (omega),B4 ho])) (Hn.last last1 0 (():Unit) rfl [(8,8)] ro)))))) (fun | ⟨k,hk,_⟩=>by kernel_rfl) ⟨(0),om,⟨⟩⟩ [(120,120),(184,184)] ro (b5 (fun | ()=>(.s 3 (.out [8] [8] (D.tup [D.ref 0 0 0 n 2,zI 0]) [Blk.mk (flatMap jI (ae l)) 210 true] R (ok _ _ wr wr)))))))))))))))))))))))))) (by kernel_rfl)
def tD (l:List UInt8) (m:Nat):Nat → Nat
 | 0=>0
 | n + 1=>if m < n + 1 ∧ l.getD n jd = 0 then tD l m n else n + 1
def gw (l:List UInt8) (m:Nat):Nat:=lk l (tD l m l.length)
theorem ly (l:List UInt8) (m:Nat):gw l m = tD l m l.length:=aF _ _
theorem JZ {l:List UInt8} {m n T u:Nat} (hR:tD l m n = T) (h:m < n) (hu:u = n - 1) (h2:(((l.getD u jd).toNat:Nat):Int) = 0):tD l m (n - 1) = T:=by
 subst hu
 obtain ⟨g,rfl⟩:∃ g,n = g + 1:=⟨n - 1,by omega⟩
 rw [← hR,tD,if_pos ⟨by omega,BQ h2⟩]; rfl
theorem G0 {l:List UInt8} {m n T:Nat} (hR:tD l m n = T) (h:¬ (m < n ∧ (l.getD (n - 1) jd).toNat = 0)):n = T:=by
 rw [← hR]
 cases n with
 | zero=>rfl
 | succ n=>exact (if_neg (fun q=>h ⟨by omega,by rw [Nl,q.2]; rfl⟩)).symm
theorem wY {l:List UInt8} {m:Nat}:∀ n,tD l m n ≤ n ∧ (m ≤ n → m ≤ tD l m n)
 | 0=>⟨LV _,id⟩
 | n + 1=>by
  rw [tD]; split
  ·have:=wY (l:=l) (m:=m) n; omega
  ·omega
theorem jl (l:List UInt8) (m:Nat):gw l m ≤ l.length ∧ (m ≤ l.length → m ≤ gw l m):=by rw [ly]; exact wY _
structure Nm where
 v:Nat
 n:Nat
 deriving Inhabited
abbrev aR (x:Nm):List D:=[cP x.v,nD x.n]
theorem bZ (l:List Nm):(l.flatMap aR).length = l.length * 2:=bl (k:=2) (fun _=>rfl) l
theorem b4 (l m:List Nm):(l ++ m).flatMap aR = l.flatMap aR ++ m.flatMap aR:=Nj
theorem D2 (l:List UInt8) (L:Nat) (hL:L = l.length) (hL2:L ≤ 320) (m:Nat) (hm:m ≤ 1000) (T:Nat) (hT:gw l m = T):SpecH false Tryz.prog 109 [.sl false L 1 (l.map dB),nD m] [] (nD T) []:=by
 refine SpecH.run T_ok ai Tryz.func109 rfl rfl rfl trivial rfl 1000 64 (fun R ok=>(.s 4 (Hn.inl T_ok ai false 22 0 (ay Tryz.prog 109 0) (fun (x:(n:Nat) ×' (hn:n ≤ L) ×' (hR:tD l m n = T) ×' Unit)=>match x with | ⟨n,hn,hR,_⟩=>CutS.mk [(0,D.sl false L 1 (map dB l)),(1,zN m),(5,nD n)] [] 0) (fun (x:(n:Nat) ×' (hn:n ≤ L) ×' (hR:tD l m n = T) ×' Unit)=>match x with | ⟨n,hn,hR,_⟩=>n) [⟨Unit,.exit 0,fun x=>match x with | ()=>CutS.mk [(0,D.sl false L 1 (map dB l)),(1,zN m),(5,nD T)] [] 0⟩] 1000 64 (fun | ⟨n,hn,hR,_⟩,Q,next1,last1=>(.s 6 (.br (decide ((m:Int) < (n:Int))) (fun p0=>have p0f:=aU p0; (.s 5 (.ow ((n:Int) - 1) (.s 2 (.chk (decide (0 ≤ (n:Int) - 1) && decide ((n:Int) - 1 < (L:Int)) && true) (by ((refine aK ?_ ?_) <;> (repeat' (first | (refine aK ?_ ?_) | (with_reducible rfl) | (refine decide_eq_true ?_) | (refine LK ?_) | (refine eT ?_))) <;> (omega))) (.s 3 (.opt ((map dB l)[uM ((n:Int) - 1) * 1]?) (dB (getD l (uM ((n:Int) - 1) * 1) jd)) (au _ _ om) (.s 4 (.br ((↑(LG (getD l (uM ((n:Int) - 1) * 1) jd)):Int) == 0) (fun p1=>have p1f:=eq_of_beq p1; (.s 3 (.ow ((n:Int) - 1) (.s 1 (.val 5 (zI ((n:Int) - 1)) (zN (n - 1)) (by ( refine aO ?_; omega)) (Hn.next next1 ⟨(n - 1),om,(by (simp only [Me] at *;  exact JZ hR om (u:=((n:Int) - 1).toNat) om om)),⟨⟩⟩ (by show n - 1 < n; clear next1 last1; omega) [] ro)))))) (fun p1=>have p1f:=ar p1; (.val 5 (zN n) (zN T) (by (simp only [Me] at *;  rw [G0 hR (by rw [show ((n:Int) - 1).toNat = n - 1 from by omega] at *; omega)])) (Hn.last last1 0 (():Unit) rfl [] ro)))))))))))) (fun p0=>have p0f:=aV p0; (.s 12 (.val 5 (zN n) (zN T) (by ( rw [G0 hR om])) (Hn.last last1 0 (():Unit) rfl [] ro))))))) (fun | ⟨n,hn,hR,_⟩=>by kernel_rfl) ⟨(L),om,(by (rw [hL]; exact (ly l m).symm.trans hT)),⟨⟩⟩ [] ro (b5 (fun | ()=>(.s 2 (.out [] [] (zN T) [] R (ok _ _ wr wr)))))))) (by kernel_rfl)
def ng (X:List Nm):Nat → Nat
 | 0=>0
 | i + 1=>ng X i + (X.getD i jd).n
def wZ (X:List Nm):Nat:=lk X (ng X X.length)
theorem r6 (X:List Nm):wZ X = ng X X.length:=aF _ _
theorem B7 {X:List Nm} (h:∀ i,(X.getD i jd).n ≤ 32):∀ i,ng X i ≤ 32 * i
 | 0=>LV _
 | i + 1=>by have:=B7 h i; have:=h i; rw [ng]; omega
theorem G1 {p:Prop} (h:p:=by (simp;  have h9:=fl (v:=v) (c:=c) (m:=m) om; have h8:=mn m (c - m); omega)):p:=h
theorem G2 {p:Prop} (h:p:=by ( have h9:=fl (v:=v) (c:=c) (m:=m) om; have h8:=mn m (c - m); omega)):p:=h
theorem G3 (c:Nat) (hc:c ≤ 100000):SpecH false Tryz.prog 141 [.v (.int .u64 1),.v (.int .u64 c)] [] (.tup [.v (.int .u64 0),.v (.int .u64 c)]) []:=by
 refine SpecH.run T_ok ai Tryz.func141 rfl rfl rfl trivial rfl 1000 64 (fun R ok=>(.s 22 (.opt (bh M5 (LZ M5 (↑(Mk (LS 64 (c:Int) &&& LS 64 4294967295)):Int))) (D.v (My .u64 ((c:Int) % 4294967296))) (az (@jH 32 (4294967296:Int) ((c:Int)) (4294967295) om om om om)) (.s 4 (.opt (bh M5 (Mp (c:Int) 4294967296)) (D.v (My .u64 ((c:Int) / 4294967296))) (az (@fN  ((c:Int)) (4294967296) om)) (.s 5 (.opt (aw .u64 (1 * ((c:Int) % 4294967296))) (D.v (My .u64 (1 * ((c:Int) % 4294967296)))) (bk om) (.s 5 (.opt (aw .u64 (0 * ((c:Int) % 4294967296))) (D.v (My .u64 (0 * ((c:Int) % 4294967296)))) (bk om) (.s 3 (.opt (bh M5 (Mp (1 * ((c:Int) % 4294967296)) 4294967296)) (D.v (My .u64 (1 * ((c:Int) % 4294967296) / 4294967296))) (az (@fN  (1 * ((c:Int) % 4294967296)) (4294967296) om)) (.s 2 (.opt (aw .u64 (0 * ((c:Int) % 4294967296) + 1 * ((c:Int) % 4294967296) / 4294967296)) (D.v (My .u64 (0 * ((c:Int) % 4294967296) + 1 * ((c:Int) % 4294967296) / 4294967296))) (bk om) (.s 4 (.opt (bh M5 (LZ M5 (↑(Mk (LS 64 (0 * ((c:Int) % 4294967296) + 1 * ((c:Int) % 4294967296) / 4294967296) &&& LS 64 4294967295)):Int))) (D.v (My .u64 ((0 * ((c:Int) % 4294967296) + 1 * ((c:Int) % 4294967296) / 4294967296) % 4294967296))) (az (@jH 32 (4294967296:Int) (0 * ((c:Int) % 4294967296) + 1 * ((c:Int) % 4294967296) / 4294967296) (4294967295) om om om om)) (.s 4 (.opt (bh M5 (Mp (0 * ((c:Int) % 4294967296) + 1 * ((c:Int) % 4294967296) / 4294967296) 4294967296)) (D.v (My .u64 ((0 * ((c:Int) % 4294967296) + 1 * ((c:Int) % 4294967296) / 4294967296) / 4294967296))) (az (@fN  (0 * ((c:Int) % 4294967296) + 1 * ((c:Int) % 4294967296) / 4294967296) (4294967296) om)) (.s 6 (.opt (aw .u64 (1 * ((c:Int) / 4294967296))) (D.v (My .u64 (1 * ((c:Int) / 4294967296)))) (bk om) (.s 2 (.opt (aw .u64 ((0 * ((c:Int) % 4294967296) + 1 * ((c:Int) % 4294967296) / 4294967296) % 4294967296 + 1 * ((c:Int) / 4294967296))) (D.v (My .u64 ((0 * ((c:Int) % 4294967296) + 1 * ((c:Int) % 4294967296) / 4294967296) % 4294967296 + 1 * ((c:Int) / 4294967296)))) (bk om) (.s 5 (.opt (aw .u64 (0 * ((c:Int) / 4294967296))) (D.v (My .u64 (0 * ((c:Int) / 4294967296)))) (bk om) (.s 3 (.opt (aw .u64 (0 * ((c:Int) / 4294967296) + (0 * ((c:Int) % 4294967296) + 1 * ((c:Int) % 4294967296) / 4294967296) / 4294967296)) (D.v (My .u64 (0 * ((c:Int) / 4294967296) + (0 * ((c:Int) % 4294967296) + 1 * ((c:Int) % 4294967296) / 4294967296) / 4294967296))) (bk om) (.s 3 (.opt (bh M5 (Mp ((0 * ((c:Int) % 4294967296) + 1 * ((c:Int) % 4294967296) / 4294967296) % 4294967296 + 1 * ((c:Int) / 4294967296)) 4294967296)) (D.v (My .u64 (((0 * ((c:Int) % 4294967296) + 1 * ((c:Int) % 4294967296) / 4294967296) % 4294967296 + 1 * ((c:Int) / 4294967296)) / 4294967296))) (az (@fN  ((0 * ((c:Int) % 4294967296) + 1 * ((c:Int) % 4294967296) / 4294967296) % 4294967296 + 1 * ((c:Int) / 4294967296)) (4294967296) om)) (.s 2 (.opt (aw .u64 (0 * ((c:Int) / 4294967296) + (0 * ((c:Int) % 4294967296) + 1 * ((c:Int) % 4294967296) / 4294967296) / 4294967296 + ((0 * ((c:Int) % 4294967296) + 1 * ((c:Int) % 4294967296) / 4294967296) % 4294967296 + 1 * ((c:Int) / 4294967296)) / 4294967296)) (D.v (My .u64 (0 * ((c:Int) / 4294967296) + (0 * ((c:Int) % 4294967296) + 1 * ((c:Int) % 4294967296) / 4294967296) / 4294967296 + ((0 * ((c:Int) % 4294967296) + 1 * ((c:Int) % 4294967296) / 4294967296) % 4294967296 + 1 * ((c:Int) / 4294967296)) / 4294967296))) (bk om) (.s 5 (.opt (aw .u64 (1 * (c:Int))) (D.v (My .u64 (1 * (c:Int)))) (bk om) (.s 12 (.out [] [] (D.tup [D.v (My .u64 (0 * ((c:Int) / 4294967296) + (0 * ((c:Int) % 4294967296) + 1 * ((c:Int) % 4294967296) / 4294967296) / 4294967296 + ((0 * ((c:Int) % 4294967296) + 1 * ((c:Int) % 4294967296) / 4294967296) % 4294967296 + 1 * ((c:Int) / 4294967296)) / 4294967296)),D.v (My .u64 (1 * (c:Int)))]) [] R (ok _ _ (by (simp <;> (omega))) wr)))))))))))))))))))))))))))))))))) (by kernel_rfl)
def b7 (v:UInt8) (c m:Nat):List UInt8:=LX m v ++ LX (c - m) 0
theorem fl {v:UInt8} {c m:Nat} (h:m ≤ c):(b7 v c m).length = c:=by unfold b7; simp; omega
theorem mn (a b:Nat):MI a b ≤ a ∧ MI a b ≤ b ∧ (1 ≤ a → 1 ≤ b → 1 ≤ MI a b):=by
 show min a b ≤ a ∧ min a b ≤ b ∧ (1 ≤ a → 1 ≤ b → 1 ≤ min a b)
 omega
theorem J0 {L:List D} {m:Nat}:(bif true && LF (m * 1) L.length then L else (L.drop 0).take (m * 1)) = L.take m:=by
 rw [Me,M6]
 cases h:(true && LF m L.length) with
 | false=>rfl
 | true =>
  have:=LL ((L7 _).symm.trans h)
  rw [cond_true,this,MP]
theorem D3 {v:UInt8} {c:Nat} (h:1 ≤ c):aj (cu [D.v (.int .u8 0)] c) 0 (Ml (MI 1 c) [D.v (.int .u8 ((v.toNat:Nat):Int))]) = (b7 v c 1).map dB:=by
 have e:MI 1 c = 1:=by show min 1 c = 1; omega
 have r:cu [D.v (.int .u8 0)] c = LX c (dB 0):=by
  rw [Ol]
  refine ⟨by simp [cu],fun d hd=>?_⟩
  unfold cu at hd
  obtain ⟨j,_,rfl⟩:=List.mem_map.1 hd
  show [D.v (.int .u8 0)].getD (j % 1) jd = dB 0
  rw [PD]; rfl
 rw [e,r]
 unfold b7 aj
 rw [Mv,Na,Na,OE]
 rfl
theorem D4 {v:UInt8} {c m k:Nat} (h:k ≤ m) (h2:m + k ≤ c):aj ((b7 v c m).map dB) m (Ni dB (Ml k (Ml m (b7 v c m)))) = (b7 v c (m + k)).map dB:=by
 have e1:(b7 v c m).take m = LX m v:=by
  unfold b7
  rw [Nq (by simp),Ph,Nat.min_self]
 unfold aj
 rw [← Ow,e1,Ph,O0 h,LU,Mg,← List.map_drop,← Mv,← Mv]
 congr 1
 unfold b7
 rw [PB,OE,OE,Mg,show m - (m + k) = 0 from by omega,show c - m - (m + k - m) = c - (m + k) from by omega]
 simp [List.replicate_append_replicate]
theorem qo (nn:Bool) (v:UInt8) (c:Nat) (hc:1 ≤ c ∧ c ≤ 100000):SpecH false Tryz.prog 105 [.sl nn 1 1 [dB v],nD c] [] (.ref 0 0 0 c 1) [⟨(LX c v).map dB, 5, true⟩]:=by
 refine SpecH.run T_ok ai Tryz.func105 rfl rfl rfl ⟨ba _,trivial⟩ rfl 1000 64 (fun R ok=>(.s 11 (.opt (aw .u64 (c:Int)) (D.v (My .u64 (c:Int))) (bk om) (.s 1 (.cl 141 false [] (.fn Jw (@G3 (c) om)) (.s 17 (.f (decide (9223372036854775807 < (c:Int))) (by (refine decide_eq_false ?_; (omega))) (.s 2 (.ow (c:Int) (.s 1 (.chk (true && decide ((c:Int) ≤ (c:Int)) && true && true && true && true && decide ((↑(TI.bytes ze):Int) * (c:Int) ≤ 140737488355328)) (by (have h9:((ze.bytes:Nat):Int) = 1:=rfl; rw [h9]; simp; omega)) (.s 4 (.chk (true && Nn 0 (MI 1 c) && LH (0 + c) (length (cu [bI 0] (c * 1)))) (by (simp_all; done)) (.lst (aj (cu [bI 0] (c * 1)) 0 (take (MI 1 c) [dM (LG v)])) (aj (cu [bI 0] c) 0 (take (MI 1 c) [dM (LG v)])) (by (simp; done)) (.s 1 (.val 8 (zN (MI 1 c)) (zI 1) (by (simp_all; done)) (.blk 176 176 (Blk.mk (aj (cu [bI 0] c) 0 (take (MI 1 c) [dM (LG v)])) 5 true) (Blk.mk (map dB (b7 v c 1)) 5 true) (by (refine aC (D3 om))) (Hn.inl T_ok ai false 48 0 (ay Tryz.prog 105 0) (fun (x:(m:Nat) ×' (hm:1 ≤ m ∧ m ≤ c) ×' Unit)=>match x with | ⟨m,hm,_⟩=>CutS.mk [(7,D.ref 0 0 0 c 1),(8,nD m)] [⟨0,0,176,176,.b ⟨(b7 v c m).map dB,5,true⟩⟩] 8) (fun (x:(m:Nat) ×' (hm:1 ≤ m ∧ m ≤ c) ×' Unit)=>match x with | ⟨m,hm,_⟩=>c - m) [⟨Unit,.exit 0,fun x=>match x with | ()=>CutS.mk [(7,D.ref 0 0 0 c 1)] [⟨0,0,176,176,.b ⟨(replicate c v).map dB,5,true⟩⟩] 8⟩] 1000 64 (fun | ⟨m,hm,_⟩,Q,next1,last1=>(.s 5 (.br (decide ((m:Int) < (c:Int))) (fun p0=>have p0f:=aU p0; (.s 5 (.chk (aM (some (m:Int)) none none c && true) G1 (.s 3 (.chk (aM none (some (m:Int)) none c && true) G1 (.s 1 (.chk (true && LH (0 + m * 1) (length (map dB (b7 v c m))) && true && true && true && Nn 0 (MI m (c - m)) && LH (0 + m * 1 + (c - m)) (length (map dB (b7 v c m)))) (by (simp only [L7,Mc,LU];  have h9:=fl (v:=v) (c:=c) (m:=m) om; have h8:=mn m (c - m); simp only [LI]; refine ⟨⟨LK om,LK om⟩,LK om⟩)) (.lst (aj (map dB (b7 v c m)) (0 + m * 1) (take (MI m (c - m)) (bif true && LF (m * 1) (length (map dB (b7 v c m))) then map dB (b7 v c m) else take (m * 1) (drop 0 (map dB (b7 v c m)))))) (aj (map dB (b7 v c m)) m (map dB (take (MI m (c - m)) (take m (b7 v c m))))) (by (rw [J0,Me,Mb,Ow,Ow])) (.s 2 (.op ((m:Int) + (↑(MI m (c - m)):Int)) G2 (.s 1 (.val 8 (zI ((m:Int) + (↑(MI m (c - m)):Int))) (zN (m + MI m (c - m))) (by (refine aO ?_; (omega))) (.blk 0 0 (Blk.mk (aj (map dB (b7 v c m)) m (map dB (take (MI m (c - m)) (take m (b7 v c m))))) 5 true) (Blk.mk (map dB (b7 v c (m + MI m (c - m)))) 5 true) (by ( have h9:=fl (v:=v) (c:=c) (m:=m) om; have h8:=mn m (c - m); refine aC (D4 om om))) (Hn.next next1 ⟨(m + MI m (c - m)),G2,⟨⟩⟩ (by show c - (m + MI m (c - m)) < c - m; clear next1 last1; ( have h9:=fl (v:=v) (c:=c) (m:=m) om; have h8:=mn m (c - m); omega)) [(0,0)] ro)))))))))))))) (fun p0=>have p0f:=aV p0; (.blk 0 0 (Blk.mk (map dB (b7 v c m)) 5 true) (Blk.mk (map dB (replicate c v)) 5 true) (by (rw [show m = c from by (omega)]; unfold b7; simp; done)) (Hn.last last1 0 (():Unit) rfl [(0,0)] ro)))))) (fun | ⟨m,hm,_⟩=>by kernel_rfl) ⟨(1),om,⟨⟩⟩ [(176,176)] ro (b5 (fun | ()=>(.s 2 (.out [0] [0] (D.ref 0 0 0 c 1) [Blk.mk (map dB (replicate c v)) 5 true] R (ok _ _ wr wr))))))))))))))))))))))) (by kernel_rfl)
def cH:List UInt8:=LX 144 8 ++ LX 112 9 ++ LX 24 7 ++ LX 8 8
def fm:List UInt8:=LX 32 5
theorem G4 (R:List UInt8) (hR:R = LX 144 8):SpecH false Tryz.prog 105 [.sl true 1 1 [.v (.int .u8 8)],iD 144] [] (.ref 0 0 0 144 1) [⟨R.map dB, 5, true⟩]:=by
 subst hR; exact qo true 8 144 (by decide)
theorem G5 (R:List UInt8) (hR:R = LX 112 9):SpecH false Tryz.prog 105 [.sl true 1 1 [.v (.int .u8 9)],iD 112] [] (.ref 0 0 0 112 1) [⟨R.map dB, 5, true⟩]:=by
 subst hR; exact qo true 9 112 (by decide)
theorem G6 (R:List UInt8) (hR:R = LX 24 7):SpecH false Tryz.prog 105 [.sl true 1 1 [.v (.int .u8 7)],iD 24] [] (.ref 0 0 0 24 1) [⟨R.map dB, 5, true⟩]:=by
 subst hR; exact qo true 7 24 (by decide)
theorem G7 (R:List UInt8) (hR:R = LX 8 8):SpecH false Tryz.prog 105 [.sl true 1 1 [.v (.int .u8 8)],iD 8] [] (.ref 0 0 0 8 1) [⟨R.map dB, 5, true⟩]:=by
 subst hR; exact qo true 8 8 (by decide)
theorem G8 (R:List UInt8) (hR:R = LX 32 5):SpecH false Tryz.prog 105 [.sl true 1 1 [.v (.int .u8 5)],iD 32] [] (.ref 0 0 0 32 1) [⟨R.map dB, 5, true⟩]:=by
 subst hR; exact qo true 5 32 (by decide)
theorem zq (R1 R2 R3 R4 R5:List UInt8) (h1:R1 = LX 144 8) (h2:R2 = LX 112 9) (h3:R3 = LX 24 7) (h4:R4 = LX 8 8) (h5:R5 = LX 32 5):SpecH false Tryz.prog 86 [] [] (.tup [.ref 0 0 0 288 1,.ref 1 1 0 32 1]) [⟨(R1 ++ R2 ++ R3 ++ R4).map dB, 5, true⟩,⟨R5.map dB, 5, true⟩]:=by
 have l1:R1.length = 144:=by rw [h1,Mg]
 have l2:R2.length = 112:=by rw [h2,Mg]
 have l3:R3.length = 24:=by rw [h3,Mg]
 have l4:R4.length = 8:=by rw [h4,Mg]
 have l5:R5.length = 32:=by rw [h5,Mg]
 refine SpecH.run T_ok ai Tryz.func86 rfl rfl rfl ⟨ba _,ba _,trivial⟩ rfl 1000 64 (fun R ok=>(.s 5 (.cl 105 false [] (.fn wB (@G4 (R1) bx)) (.s 3 (.cl 105 false [] (.fn wB (@G5 (R2) bx)) (.s 3 (.cl 105 false [] (.fn wB (@G6 (R3) bx)) (.s 3 (.cl 105 false [] (.fn wB (@G7 (R4) bx)) (.s 165 (.chk (true && (true && LH 144 (length (map dB R1))) && true && true && true) (by (simp <;> (omega))) (.s 17 (.chk (true && LF 144 (length (bif true && LF 144 (length (map dB R1)) then map dB R1 else take 144 (drop 0 (map dB R1)))) && true && (true && LH 112 (length (map dB R2))) && true && true && true) (by (simp_all; done)) (.s 17 (.chk (true && LF 256 (length ((bif true && LF 144 (length (map dB R1)) then map dB R1 else take 144 (drop 0 (map dB R1))) ++ bif true && LF 112 (length (map dB R2)) then map dB R2 else take 112 (drop 0 (map dB R2)))) && true && (true && LH 24 (length (map dB R3))) && true && true && true) (by (simp_all; done)) (.s 17 (.chk (true && LF 280 (length (((bif true && LF 144 (length (map dB R1)) then map dB R1 else take 144 (drop 0 (map dB R1))) ++ bif true && LF 112 (length (map dB R2)) then map dB R2 else take 112 (drop 0 (map dB R2))) ++ bif true && LF 24 (length (map dB R3)) then map dB R3 else take 24 (drop 0 (map dB R3)))) && true && (true && LH 8 (length (map dB R4))) && true && true && true) (by (simp_all; done)) (.s 15 (.cl 105 false [] (.fn wB (@G8 (R5) bx)) (.s 2 (.out [1112,1272] [1112,1272] (D.tup [D.ref 0 0 0 288 1,D.ref 1 1 0 32 1]) [Blk.mk ((((bif true && LF 144 (length (map dB R1)) then map dB R1 else take 144 (drop 0 (map dB R1))) ++ bif true && LF 112 (length (map dB R2)) then map dB R2 else take 112 (drop 0 (map dB R2))) ++ bif true && LF 24 (length (map dB R3)) then map dB R3 else take 24 (drop 0 (map dB R3))) ++ bif true && LF 8 (length (map dB R4)) then map dB R4 else take 8 (drop 0 (map dB R4))) 5 true,Blk.mk (map dB R5) 5 true] R (ok _ _ wr (by (simp_all; done)))))))))))))))))))))))) (by kernel_rfl)
theorem kr (L F:List UInt8) (hL:L = cH) (hF:F = fm):SpecH false Tryz.prog 86 [] [] (.tup [.ref 0 0 0 288 1,.ref 1 1 0 32 1]) [⟨L.map dB, 5, true⟩,⟨F.map dB, 5, true⟩]:=by
 subst hL hF; exact zq _ _ _ _ _ rfl rfl rfl rfl rfl
theorem zr  : SpecH false Tryz.prog 111 [] [] (.agg ([16,17,18,0,8,7,9,6,10,5,11,4,12,3,13,2,14,1,15].map nD)) []:=by
 refine SpecH.run T_ok ai Tryz.func111 rfl rfl rfl trivial rfl 1000 64 (fun R ok=>(.s 10 (.out [] [] (D.agg [zI 16,zI 17,zI 18,zI 0,zI 8,zI 7,zI 9,zI 6,zI 10,zI 5,zI 11,zI 4,zI 12,zI 3,zI 13,zI 2,zI 14,zI 1,zI 15]) [] R (ok _ _ (by (simp; done)) wr)))) (by kernel_rfl)
theorem IJ {p:Prop} (h:p:=by (refine aO ?_; (omega))):p:=h
theorem Lp {p:Prop} (h:p:=by ((refine aK ?_ ?_) <;> (repeat' (first | (refine aK ?_ ?_) | (with_reducible rfl) | (refine decide_eq_true ?_) | (refine LK ?_) | (refine eT ?_))) <;> (omega))):p:=h
def qp (at' : Nat):Nat:=lk [()] ((8 - (at' + 3) % 8) % 8)
theorem kt (at' : Nat):qp at' = (8 - (at' + 3) % 8) % 8:=aF _ _
def G9 (x:UInt8):Nm:=⟨x.toNat,8⟩
def lY (e k:Nat):List Nm:=[⟨e,1⟩,⟨k,2⟩]
def IK (e a r:Nat):List Nm:=[⟨e,1⟩,⟨0,2⟩,⟨0,qp a⟩,⟨r,16⟩,⟨65535 - r,16⟩]
def mf (e a:Nat) (raw:List UInt8) (i:Nat):List Nm:=lk raw (IK e a raw.length ++ (raw.take i).map G9)
theorem fQ (e a:Nat) (raw:List UInt8) (i:Nat):mf e a raw i = IK e a raw.length ++ (raw.take i).map G9:=aF _ _
def oj (e a:Nat) (raw:List UInt8):List Nm:=mf e a raw raw.length
theorem iL {e a:Nat} {raw:List UInt8} {i:Nat} (h:i ≤ raw.length):(mf e a raw i).length = 5 + i:=by
 rw [fQ,LJ,LU,LO,O0 h]; rfl
theorem Ha {e a:Nat} {raw:List UInt8} {i:Nat} (h:i < raw.length):(mf e a raw (i + 1)).flatMap aR = (mf e a raw i).flatMap aR ++ aR ⟨(raw.getD i jd).toNat,8⟩:=by
 have e1:raw.take (i + 1) = raw.take i ++ [raw.getD i jd]:=by
  rw [Mi h,List.getD_eq_getElem?_getD,List.getElem?_eq_getElem h]; rfl
 rw [fQ,fQ,e1,Mv,← Ma,b4]; rfl
theorem Hb {e a:Nat} {raw:List UInt8}:(mf e a raw 0).flatMap aR = [cP e,nD 1,cP 0,nD 2,cP 0,nD (qp a),cP raw.length,nD 16,cP (65535 - raw.length),nD 16]:=by
 rw [fQ]; rfl
theorem B8 {e a:Nat} {raw:List UInt8} {r:Nat} {x y:Int} (hr:r = raw.length) (hx:x = (qp a:Int)) (hy:y = ((65535 - r:Nat):Int)):[D.v (.int .u32 (e:Int)),D.v (.int .i64 1),D.v (.int .u32 0),D.v (.int .i64 2),D.v (.int .u32 0),D.v (.int .i64 x),D.v (.int .u32 (r:Int)),D.v (.int .i64 16),D.v (.int .u32 y),D.v (.int .i64 16)] = (mf e a raw 0).flatMap aR:=by
 subst hr hx hy; exact Hb.symm
theorem B9 {e a:Nat} {raw:List UInt8} {i u:Nat} (hu:u = i) (h:i < raw.length):(mf e a raw i).flatMap aR ++ [D.v (.int .u32 (((raw.getD u jd).toNat:Nat):Int)),D.v (.int .i64 8)] = (mf e a raw (i + 1)).flatMap aR:=by
 subst hu; exact (Ha h).symm
theorem Hc (k:Nat) (cs:List D) (hcs:cs.length = k * 3) (a:Nat) (ha:a ≤ 7) (raw:List UInt8) (r:Nat) (hr:r = raw.length) (hr2:r ≤ 65535) (L F:List UInt8) (hL:L = cH) (hF:F = fm):SpecH false Tryz.prog 65 [nD a,ga 0,.sl false r 1 (raw.map dB),.sl false k 3 cs,.v (.bool true)] [] (.ptr 0 0 0) [⟨[.ref 1 1 0 (5 + r) 2], 123, false⟩,⟨(oj 1 a raw).flatMap aR, 126, true⟩]:=by
 refine SpecH.run T_ok ai Tryz.func65 rfl rfl rfl ⟨rfl,ee (fun _=>rfl) _,trivial⟩ rfl 1000 64 (fun R ok=>(.s 43 (.cl 86 false [] (.fn IE (@kr (L) (F) bx bx)) (.s 21 (.ow ((a:Int) + 3) (.s 2 (.opt (bh L5 (Nd ((a:Int) + 3) 8)) (zI (((a:Int) + 3) % 8)) (az (@bP  ((a:Int) + 3) (8) om)) (.s 2 (.ow (8 - ((a:Int) + 3) % 8) (.s 2 (.opt (bh L5 (Nd (8 - ((a:Int) + 3) % 8) 8)) (zI ((8 - ((a:Int) + 3) % 8) % 8)) (az (@bP  (8 - ((a:Int) + 3) % 8) (8) om)) (.s 5 (.opt (aw .u32 (r:Int)) (ag r) (aB om) (.s 6 (.ow (65535 - (r:Int)) (.s 1 (.opt (aw .u32 (65535 - (r:Int))) (uI (65535 - (r:Int))) (aB om) (.s 28 (.blk 560 560 (Blk.mk [uI 1,zI 1,uI 0,zI 2,uI 0,zI ((8 - ((a:Int) + 3) % 8) % 8),ag r,zI 16,uI (65535 - (r:Int)),zI 16] 126 true) (Blk.mk (flatMap aR (mf 1 a raw 0)) 126 true) (by ( refine aC (B8 (e:=1) hr ?_ ?_) <;> (try rw [kt]) <;> omega)) (Hn.inl T_ok ai false 39 368 (ay Tryz.prog 87 0) (fun (x:(i:Nat) ×' (hi:i ≤ r) ×' Unit)=>match x with | ⟨i,hi,_⟩=>CutS.mk [(0,D.ptr 16 16 0),(26,D.sl false r 1 (map dB raw)),(27,zN r),(28,nD i)] [⟨16,16,16,16,.b ⟨[(D.ref 400 400 (0) (5 + i) 2)],123,false⟩⟩,⟨104,104,104,104,.b ⟨[uI 1,zI 1,uI 0,zI 2],126,false⟩⟩,⟨264,264,264,264,.b ⟨map dB L,5,true⟩⟩,⟨265,265,265,265,.b ⟨map dB F,5,true⟩⟩,⟨400,400,560,560,.b ⟨(mf 1 a raw i).flatMap aR,126,true⟩⟩] 408) (fun (x:(i:Nat) ×' (hi:i ≤ r) ×' Unit)=>match x with | ⟨i,hi,_⟩=>r - i) [⟨Unit,.exit 0,fun x=>match x with | ()=>CutS.mk [(0,D.ptr 16 16 0),(26,D.sl false r 1 (map dB raw)),(27,zN r),(28,nD r)] [⟨16,16,16,16,.b ⟨[(D.ref 400 400 (0) (5 + r) 2)],123,false⟩⟩,⟨104,104,104,104,.b ⟨[uI 1,zI 1,uI 0,zI 2],126,false⟩⟩,⟨264,264,264,264,.b ⟨map dB L,5,true⟩⟩,⟨265,265,265,265,.b ⟨map dB F,5,true⟩⟩,⟨400,400,560,560,.b ⟨(oj 1 a raw).flatMap aR,126,true⟩⟩] 408⟩] 1000 64 (fun | ⟨i,hi,_⟩,Q,next1,last1=>(.s 2 (.br (decide ((i:Int) < (r:Int))) (fun p0=>have p0f:=aU p0; (.s 1 (.chk (true && decide ((i:Int) < (r:Int)) && true) Lp (.s 2 (.opt ((map dB raw)[i * 1]?) (dB (getD raw (i * 1) jd)) (au _ _ om) (.s 4 (.opt (aw .u32 (↑(LG (getD raw (i * 1) jd)):Int)) (ag (LG (getD raw (i * 1) jd))) (aB (by (exact fO _ (by decide) (by decide)))) (.s 17 (.chk (true && LF ((5 + i) * 2) (length (flatMap aR (mf 1 a raw i))) && true && true && true && true && LH ((5 + i + 1) * 16) 140737488355328) (by ( simp only [bZ,iL (raw:=raw) (e:=1) (a:=a) (i:=i) om,MM,L7,Mc]; refine LK ?_; omega)) (.s 9 (.ow ((i:Int) + 1) (.s 1 (.val 28 (zI ((i:Int) + 1)) (zN (i + 1)) IJ (.blk 16 16 (Blk.mk [D.ref 536 536 0 (5 + i + 1) 2] 123 false) (Blk.mk [D.ref 536 536 0 (5 + (i + 1)) 2] 123 false) (by (simp <;> (omega))) (.blk 536 536 (Blk.mk (flatMap aR (mf 1 a raw i) ++ [ag (LG (getD raw (i * 1) jd)),zI 8]) 126 true) (Blk.mk (flatMap aR (mf 1 a raw (i + 1))) 126 true) (by ( refine aC (B9 om om))) (Hn.next next1 ⟨(i + 1),om,⟨⟩⟩ (by show r - (i + 1) < r - i; clear next1 last1; omega) [(16,16),(104,104),(264,264),(265,265),(536,536)] ro)))))))))))))))) (fun p0=>have p0f:=aV p0; (.val 28 (zN i) (zN r) IJ (.blk 16 16 (Blk.mk [D.ref 400 400 0 (5 + i) 2] 123 false) (Blk.mk [D.ref 400 400 0 (5 + r) 2] 123 false) (by (simp <;> (omega))) (.blk 400 400 (Blk.mk (flatMap aR (mf 1 a raw i)) 126 true) (Blk.mk (flatMap aR (oj 1 a raw)) 126 true) (by ( rw [show i = raw.length from by omega]; rfl)) (Hn.last last1 0 (():Unit) rfl [(16,16),(104,104),(264,264),(265,265),(400,400)] ro)))))))) (fun | ⟨i,hi,_⟩=>by kernel_rfl) ⟨(0),om,⟨⟩⟩ [(16,16),(104,104),(264,264),(265,265),(560,560)] ro (b5 (fun | ()=>(.s 2 (.out [16,400] [16,400] (D.ptr 0 0 0) [Blk.mk [D.ref 1 1 0 (5 + r) 2] 123 false,Blk.mk (flatMap aR (oj 1 a raw)) 126 true] R (ok _ _ wr wr))))))))))))))))))))))))) (by kernel_rfl)
theorem Hd (k:Nat) (cs:List D) (hcs:cs.length = k * 3) (a:Nat) (ha:a ≤ 7) (raw:List UInt8) (r:Nat) (hr:r = raw.length) (hr2:r ≤ 65535) (L F:List UInt8) (hL:L = cH) (hF:F = fm):SpecH false Tryz.prog 65 [nD a,ga 0,.sl false r 1 (raw.map dB),.sl false k 3 cs,.v (.bool false)] [] (.ptr 0 0 0) [⟨[.ref 1 1 0 (5 + r) 2], 123, false⟩,⟨(oj 0 a raw).flatMap aR, 126, true⟩]:=by
 refine SpecH.run T_ok ai Tryz.func65 rfl rfl rfl ⟨rfl,ee (fun _=>rfl) _,trivial⟩ rfl 1000 64 (fun R ok=>(.s 42 (.cl 86 false [] (.fn IE (@kr (L) (F) bx bx)) (.s 21 (.ow ((a:Int) + 3) (.s 2 (.opt (bh L5 (Nd ((a:Int) + 3) 8)) (zI (((a:Int) + 3) % 8)) (az (@bP  ((a:Int) + 3) (8) om)) (.s 2 (.ow (8 - ((a:Int) + 3) % 8) (.s 2 (.opt (bh L5 (Nd (8 - ((a:Int) + 3) % 8) 8)) (zI ((8 - ((a:Int) + 3) % 8) % 8)) (az (@bP  (8 - ((a:Int) + 3) % 8) (8) om)) (.s 5 (.opt (aw .u32 (r:Int)) (ag r) (aB om) (.s 6 (.ow (65535 - (r:Int)) (.s 1 (.opt (aw .u32 (65535 - (r:Int))) (uI (65535 - (r:Int))) (aB om) (.s 28 (.blk 552 552 (Blk.mk [uI 0,zI 1,uI 0,zI 2,uI 0,zI ((8 - ((a:Int) + 3) % 8) % 8),ag r,zI 16,uI (65535 - (r:Int)),zI 16] 126 true) (Blk.mk (flatMap aR (mf 0 a raw 0)) 126 true) (by ( refine aC (B8 (e:=0) hr ?_ ?_) <;> (try rw [kt]) <;> omega)) (Hn.inl T_ok ai false 39 360 (ay Tryz.prog 87 0) (fun (x:(i:Nat) ×' (hi:i ≤ r) ×' Unit)=>match x with | ⟨i,hi,_⟩=>CutS.mk [(0,D.ptr 16 16 0),(26,D.sl false r 1 (map dB raw)),(27,zN r),(28,nD i)] [⟨16,16,16,16,.b ⟨[(D.ref 392 392 (0) (5 + i) 2)],123,false⟩⟩,⟨96,96,96,96,.b ⟨[uI 0,zI 1,uI 0,zI 2],126,false⟩⟩,⟨256,256,256,256,.b ⟨map dB L,5,true⟩⟩,⟨257,257,257,257,.b ⟨map dB F,5,true⟩⟩,⟨392,392,552,552,.b ⟨(mf 0 a raw i).flatMap aR,126,true⟩⟩] 400) (fun (x:(i:Nat) ×' (hi:i ≤ r) ×' Unit)=>match x with | ⟨i,hi,_⟩=>r - i) [⟨Unit,.exit 0,fun x=>match x with | ()=>CutS.mk [(0,D.ptr 16 16 0),(26,D.sl false r 1 (map dB raw)),(27,zN r),(28,nD r)] [⟨16,16,16,16,.b ⟨[(D.ref 392 392 (0) (5 + r) 2)],123,false⟩⟩,⟨96,96,96,96,.b ⟨[uI 0,zI 1,uI 0,zI 2],126,false⟩⟩,⟨256,256,256,256,.b ⟨map dB L,5,true⟩⟩,⟨257,257,257,257,.b ⟨map dB F,5,true⟩⟩,⟨392,392,552,552,.b ⟨(oj 0 a raw).flatMap aR,126,true⟩⟩] 400⟩] 1000 64 (fun | ⟨i,hi,_⟩,Q,next1,last1=>(.s 2 (.br (decide ((i:Int) < (r:Int))) (fun p0=>have p0f:=aU p0; (.s 1 (.chk (true && decide ((i:Int) < (r:Int)) && true) Lp (.s 2 (.opt ((map dB raw)[i * 1]?) (dB (getD raw (i * 1) jd)) (au _ _ om) (.s 4 (.opt (aw .u32 (↑(LG (getD raw (i * 1) jd)):Int)) (ag (LG (getD raw (i * 1) jd))) (aB (by (exact fO _ (by decide) (by decide)))) (.s 17 (.chk (true && LF ((5 + i) * 2) (length (flatMap aR (mf 0 a raw i))) && true && true && true && true && LH ((5 + i + 1) * 16) 140737488355328) (by ( simp only [bZ,iL (raw:=raw) (e:=0) (a:=a) (i:=i) om,MM,L7,Mc]; refine LK ?_; omega)) (.s 9 (.ow ((i:Int) + 1) (.s 1 (.val 28 (zI ((i:Int) + 1)) (zN (i + 1)) IJ (.blk 16 16 (Blk.mk [D.ref 528 528 0 (5 + i + 1) 2] 123 false) (Blk.mk [D.ref 528 528 0 (5 + (i + 1)) 2] 123 false) (by (simp <;> (omega))) (.blk 528 528 (Blk.mk (flatMap aR (mf 0 a raw i) ++ [ag (LG (getD raw (i * 1) jd)),zI 8]) 126 true) (Blk.mk (flatMap aR (mf 0 a raw (i + 1))) 126 true) (by ( refine aC (B9 om om))) (Hn.next next1 ⟨(i + 1),om,⟨⟩⟩ (by show r - (i + 1) < r - i; clear next1 last1; omega) [(16,16),(96,96),(256,256),(257,257),(528,528)] ro)))))))))))))))) (fun p0=>have p0f:=aV p0; (.val 28 (zN i) (zN r) IJ (.blk 16 16 (Blk.mk [D.ref 392 392 0 (5 + i) 2] 123 false) (Blk.mk [D.ref 392 392 0 (5 + r) 2] 123 false) (by (simp <;> (omega))) (.blk 392 392 (Blk.mk (flatMap aR (mf 0 a raw i)) 126 true) (Blk.mk (flatMap aR (oj 0 a raw)) 126 true) (by ( rw [show i = raw.length from by omega]; rfl)) (Hn.last last1 0 (():Unit) rfl [(16,16),(96,96),(256,256),(257,257),(392,392)] ro)))))))) (fun | ⟨i,hi,_⟩=>by kernel_rfl) ⟨(0),om,⟨⟩⟩ [(16,16),(96,96),(256,256),(257,257),(552,552)] ro (b5 (fun | ()=>(.s 2 (.out [16,392] [16,392] (D.ptr 0 0 0) [Blk.mk [D.ref 1 1 0 (5 + r) 2] 123 false,Blk.mk (flatMap aR (oj 0 a raw)) 126 true] R (ok _ _ wr wr))))))))))))))))))))))))) (by kernel_rfl)
end Vp
end Go.Proofs.YtefjnofhgkjpmaaGreat
namespace Go.Proofs.YtefjnofhgkjpmaaGreat
open Go.RowKit Go.Bw Go.Vx
open List (length getD map take drop flatMap replicate)
namespace Vp
theorem io {p:Prop} (h:p:=by ( have h9:=hl i; have h5:=Mz (l.getD i jd).lit; have h2:=bC hT1 hT2 (hl i); have h8:=okL (l.getD i jd).lit.toNat; have h4:=okL (257 + am T1 (l.getD i jd).long); have h3:=okF (am T2 (l.getD i jd).dist); have g1:=hz1 (am T1 (l.getD i jd).long); have g2:=hz2 (am T2 (l.getD i jd).dist); have g3:=okL 256; have h7:=bR (T1:=T1) (T2:=T2) (A:=ae L) (B:=ae F) (H:=H) (l:=l) i om; unfold dl at h9; omega)):p:=h
theorem mg {p:Prop} (h:p:=by ( have h9:=hl 0; have h5:=Mz (l.getD 0 jd).lit; have h2:=bC hT1 hT2 (hl 0); have h8:=okL (l.getD 0 jd).lit.toNat; have h4:=okL (257 + am T1 (l.getD 0 jd).long); have h3:=okF (am T2 (l.getD 0 jd).dist); have g1:=hz1 (am T1 (l.getD 0 jd).long); have g2:=hz2 (am T2 (l.getD 0 jd).dist); have g3:=okL 256; have h7:=bR (T1:=T1) (T2:=T2) (A:=ae L) (B:=ae F) (H:=H) (l:=l) 0 om; unfold dl at h9; omega)):p:=h
theorem zt {p:Prop} (h:p:=by (exact LM (okL _).1 (by decide))):p:=h
theorem Ca {p:Prop} (h:p:=by cases d <;> repeat' first | exact trivial | exact rfl | exact (fun _=>aS _) | exact (fun _=>by assumption) | exact (fun _=>bN _ (fun _=>rfl) _) | exact (fun _=>di (fun _=>rfl) _) | (intro h; cases h; done) | (intro _; rfl) | (intro _; exact cy _ (bN _ (fun _=>rfl) _)) | exact je _ (bN _ (fun _=>rfl) _) | refine LW ?_ ?_ | refine fK ?_ ?_ | (intro _; refine cS ?_ ?_) | refine cS ?_ ?_ | (intro _; refine gn ?_ ?_) | exact cy _ (bN _ (fun _=>rfl) _) | exact bN _ (fun _=>rfl) _):p:=h
theorem EU {p:Prop} (h:p:=by ( rw [show i = k from by omega])):p:=h
theorem IL {p:Prop} (h:p:=by (rw [eI]; have h5:=Mz (l.getD 0 jd).lit;  refine LK ?_; omega)):p:=h
theorem IM {p:Prop} (h:p:=by ( have h7:=bR (T1:=T1) (T2:=T2) (A:=ae L) (B:=ae F) (H:=H) (l:=l) i om; simp only [LJ,bZ,Md,Nt,L7,Mc,LI,MJ,MF]; omega)):p:=h
theorem IN {p:Prop} (h:p:=by ( have h7:=bR (T1:=T1) (T2:=T2) (A:=ae L) (B:=ae F) (H:=H) (l:=l) i om; simp only [bZ,MM,L7,Mc]; refine LK ?_; omega)):p:=h
theorem IP {p:Prop} (h:p:=by (refine aO ?_; (omega))):p:=h
theorem IQ {p:Prop} (h:p:=by show k - (i + 1) < k - i; clear next1 last1; omega):p:=h
theorem zu {p:Prop} (h:p:=by (refine decide_eq_true ?_;  have h9:=hl i; have h5:=Mz (l.getD i jd).lit; have h2:=bC hT1 hT2 (hl i); have h8:=okL (l.getD i jd).lit.toNat; have h4:=okL (257 + am T1 (l.getD i jd).long); have h3:=okF (am T2 (l.getD i jd).dist); have g1:=hz1 (am T1 (l.getD i jd).long); have g2:=hz2 (am T2 (l.getD i jd).dist); have g3:=okL 256; have h7:=bR (T1:=T1) (T2:=T2) (A:=ae L) (B:=ae F) (H:=H) (l:=l) i om; unfold dl at h9; omega)):p:=h
theorem zv {p:Prop} (h:p:=by (rw [eI]; have h2:=bC hT1 hT2 (hl i);  refine LK ?_; omega)):p:=h
theorem D5 {p:Prop} (h:p:=by (rw [cI]; refine LK ?_; (omega))):p:=h
theorem D6 {p:Prop} (h:p:=by (exact fO _ (by decide) (by decide))):p:=h
theorem D7 {p:Prop} (h:p:=by (refine decide_eq_true ?_;  have h9:=hl 0; have h5:=Mz (l.getD 0 jd).lit; have h2:=bC hT1 hT2 (hl 0); have h8:=okL (l.getD 0 jd).lit.toNat; have h4:=okL (257 + am T1 (l.getD 0 jd).long); have h3:=okF (am T2 (l.getD 0 jd).dist); have g1:=hz1 (am T1 (l.getD 0 jd).long); have g2:=hz2 (am T2 (l.getD 0 jd).dist); have g3:=okL 256; have h7:=bR (T1:=T1) (T2:=T2) (A:=ae L) (B:=ae F) (H:=H) (l:=l) 0 om; unfold dl at h9; omega)):p:=h
theorem D8 {p:Prop} (h:p:=by (exact LM (okF _).1 (by decide))):p:=h
theorem He {p:Prop} (h:p:=by (simp;  have h9:=hl 0; have h5:=Mz (l.getD 0 jd).lit; have h2:=bC hT1 hT2 (hl 0); have h8:=okL (l.getD 0 jd).lit.toNat; have h4:=okL (257 + am T1 (l.getD 0 jd).long); have h3:=okF (am T2 (l.getD 0 jd).dist); have g1:=hz1 (am T1 (l.getD 0 jd).long); have g2:=hz2 (am T2 (l.getD 0 jd).dist); have g3:=okL 256; have h7:=bR (T1:=T1) (T2:=T2) (A:=ae L) (B:=ae F) (H:=H) (l:=l) 0 om; unfold dl at h9; omega)):p:=h
theorem Hf {p:Prop} (h:p:=by exact (LW (D.sim.slw rfl (bt (by (simp;  have h9:=hl 0; have h5:=Mz (l.getD 0 jd).lit; have h2:=bC hT1 hT2 (hl 0); have h8:=okL (l.getD 0 jd).lit.toNat; have h4:=okL (257 + am T1 (l.getD 0 jd).long); have h3:=okF (am T2 (l.getD 0 jd).dist); have g1:=hz1 (am T1 (l.getD 0 jd).long); have g2:=hz2 (am T2 (l.getD 0 jd).dist); have g3:=okL 256; have h7:=bR (T1:=T1) (T2:=T2) (A:=ae L) (B:=ae F) (H:=H) (l:=l) 0 om; unfold dl at h9; omega)) |>.trans rfl)) (LW (D.sim.refl _) trivial))):p:=h
theorem Hg {p:Prop} (h:p:=by (rw [L7]; refine decide_eq_true ?_; have h5:=Mz (l.getD i jd).lit; omega)):p:=h
theorem Hh {p:Prop} (h:p:=by (rw [eI]; refine LK ?_; have h5:=Mz (l.getD i jd).lit; (omega))):p:=h
theorem Hi {p:Prop} (h:p:=by ( refine aC ?_; rw [eW om om,b4,b4,Ma]; rfl)):p:=h
theorem Hj {p:Prop} (h:p:=by (have h7:=bR (T1:=T1) (T2:=T2) (A:=ae L) (B:=ae F) (H:=H) (l:=l) k om; simp only [bZ,MM,L7,Mc]; refine LK ?_; omega)):p:=h
theorem Hk {p:Prop} (h:p:=by (rw [eI]; have h2:=bC hT1 hT2 (hl 0);  refine LK ?_; omega)):p:=h
structure Tn where
 lit:UInt8
 dist:Nat
 long:Nat
 deriving Inhabited
abbrev bf (t:Tn):List D:=[dB t.lit,nD t.dist,nD t.long]
def dl (t:Tn):Prop:=t.long = 0 ∨ 3 ≤ t.long ∧ t.long ≤ 258 ∧ 1 ≤ t.dist ∧ t.dist ≤ 32768
theorem cI (l:List Tn):(l.flatMap bf).length = l.length * 3:=bl (k:=3) (fun _=>rfl) l
def gx (C:List (Nat × Nat)) (s n x:Nat):List Nm:=[⟨eH (C.getD s jd).1 (C.getD s jd).2,(C.getD s jd).2⟩,⟨x,n⟩]
def vi (T1 T2:List Sy) (A B:List (Nat × Nat)) (t:Tn):List Nm :=
 if t.long = 0 then gx A t.lit.toNat 0 0
 else gx A (257 + am T1 t.long) (T1.getD (am T1 t.long) jd).bits (t.long - (T1.getD (am T1 t.long) jd).least) ++ gx B (am T2 t.dist) (T2.getD (am T2 t.dist) jd).bits (t.dist - (T2.getD (am T2 t.dist) jd).least)
def aQ (T1 T2:List Sy) (A B:List (Nat × Nat)) (H:List Nm) (l:List Tn) (i:Nat):List Nm:=lk l (H ++ (l.take i).flatMap (vi T1 T2 A B))
section
variable {T1 T2:List Sy} {A B:List (Nat × Nat)} {H:List Nm} {l:List Tn} {i:Nat}
theorem fR:aQ T1 T2 A B H l i = H ++ (l.take i).flatMap (vi T1 T2 A B):=aF _ _
theorem gy:aQ T1 T2 A B H l 0 = H:=by rw [fR]; exact MA _
theorem w4 (h:i < l.length):aQ T1 T2 A B H l (i + 1) = aQ T1 T2 A B H l i ++ vi T1 T2 A B (l.getD i jd):=by
 have e1:l.take (i + 1) = l.take i ++ [l.getD i jd]:=by
  rw [Mi h,List.getD_eq_getElem?_getD,List.getElem?_eq_getElem h]; rfl
 rw [fR,fR,e1,Nj,← Ma,NR]
theorem zw (t:Tn):(vi T1 T2 A B t).length ≤ 4:=by 
 unfold vi; split
 ·show 2 ≤ 4; decide
 ·show 4 ≤ 4; decide
theorem bR:∀ i,i ≤ l.length → (aQ T1 T2 A B H l i).length ≤ H.length + 4 * i
 | 0,_=>by rw [gy]; omega
 | i + 1,h=>by
  rw [w4 (by omega),LJ]
  have:=bR i (by omega)
  have:=zw (T1:=T1) (T2:=T2) (A:=A) (B:=B) (l.getD i jd)
  omega
theorem dO (h:i < l.length) (h0:(l.getD i jd).long = 0):aQ T1 T2 A B H l (i + 1) = aQ T1 T2 A B H l i ++ gx A (l.getD i jd).lit.toNat 0 0:=by
 rw [w4 h,vi,if_pos h0]
theorem eW (h:i < l.length) (h0:(l.getD i jd).long ≠ 0):aQ T1 T2 A B H l (i + 1) = aQ T1 T2 A B H l i ++ (gx A (257 + am T1 (l.getD i jd).long) (T1.getD (am T1 (l.getD i jd).long) jd).bits ((l.getD i jd).long - (T1.getD (am T1 (l.getD i jd).long) jd).least) ++ gx B (am T2 (l.getD i jd).dist) (T2.getD (am T2 (l.getD i jd).dist) jd).bits ((l.getD i jd).dist - (T2.getD (am T2 (l.getD i jd).dist) jd).least)):=by
 rw [w4 h,vi,if_neg h0]
end
theorem w5 {T:List Sy} (hT:T = aI) {n:Nat} (h:3 ≤ n ∧ n ≤ 258):am T n < 29:=by
 subst hT
 rw [lq]
 exact wJ (n:=n) (b:=259) aI 29 0 3 rfl (by decide) h.1 (by omega)
theorem zx {T:List Sy} (hT:T = aY) {n:Nat} (h:1 ≤ n ∧ n ≤ 32768):am T n < 30:=by
 subst hT
 rw [lq]
 exact wJ (n:=n) (b:=32769) aY 30 0 1 rfl (by decide) h.1 (by omega)
abbrev cd (c:Nat × Nat):List D:=[cP c.1,ga c.2]
theorem eI (l:List (Nat × Nat)):(l.flatMap cd).length = l.length * 2:=bl (k:=2) (fun _=>rfl) l
theorem iM (l:List UInt8) (n:Nat) (hn:n = l.length) (m:Nat) (hm:1 ≤ m ∧ m ≤ 15) (hc:cG l m = 0):SpecH false Tryz.prog 112 [.sl false n 1 (l.map dB),nD m] [] (.tup [.ref 0 0 0 n 2,iD 0]) [⟨(ae l).flatMap cd, 210, true⟩]:=zp l n hn m hm hc
theorem bC {T1 T2:List Sy} (hT1:T1 = aI) (hT2:T2 = aY) {t:Tn} (h:dl t):t.long ≠ 0 → am T1 t.long < 29 ∧ am T2 t.dist < 30:=fun h0=>by
 unfold dl at h
 exact ⟨w5 hT1 (by omega),zx hT2 (by omega)⟩
def lZ (C:List (Nat × Nat)):Prop:=∀ s,(C.getD s jd).2 ≤ 15 ∧ (C.getD s jd).1 < 2 ^ (C.getD s jd).2
theorem ij (T:List Sy) (hT:T = aI) (hl:T.length = 29) (hz:bX T) (n:Nat) (hn:n ≤ 40000) (hIk:am T n < 29):SpecH false Tryz.prog 142 [nD n] [] (.tup [nD (257 + am T n),nD (T.getD (am T n) jd).bits,nD (n - (T.getD (am T n) jd).least),iD 0]) []:=DI T hT hl hz n hn _ rfl hIk
theorem lD (T:List Sy) (hT:T = aY) (hl:T.length = 30) (hz:bX T) (n:Nat) (hn:n ≤ 40000) (hIk:am T n < 30):SpecH false Tryz.prog 143 [nD n] [] (.tup [nD (am T n),nD (T.getD (am T n) jd).bits,nD (n - (T.getD (am T n) jd).least),iD 0]) []:=by
 have q:=GD T hT hl hz n hn _ rfl hIk
 rwa [Mb] at q
def sh (b:Bool):Nat:=bif b then 8 else 0
theorem SpecH.run2 {τ:Sort _} (t:τ) {S0 S1:Prop} {C0 C1:τ → Prop} (f0:∀ t,C0 t → S0) (f1:∀ t,C1 t → S1) (h0:C0 t) (h1:C1 t):S0 ∧ S1:=⟨f0 t h0,f1 t h1⟩
theorem Cb (l:List Tn) (k:Nat) (hk:k = l.length) (hk2:k ≤ 65535) (hl:∀ i,dl (l.getD i jd)) (T1 T2:List Sy) (hT1:T1 = aI) (hT2:T2 = aY) (hl1:T1.length = 29) (hl2:T2.length = 30) (hz1:bX T1) (hz2:bX T2) (L F:List UInt8) (hL:L = cH) (hF:F = fm) (hLl:L.length = 288) (hFl:F.length = 32) (hcL:cG L 15 = 0) (hcF:cG F 15 = 0) (hmL:(ae L).length = 288) (hmF:(ae F).length = 32) (okL:lZ (ae L)) (okF:lZ (ae F)) (a:Nat) (ha:a ≤ 7) (raw:List UInt8) (r:Nat) (hr:r = raw.length) (hr2:r ≤ 65535) (H:List Nm) (hH:H = lY 1 1) (hHl:H.length = 2) (H' : List Nm) (hH' : H' = lY 0 1) (hHl' : H'.length = 2):(SpecH false Tryz.prog 65 [nD a,ga 1,.sl false r 1 (raw.map dB),.sl false k 3 (l.flatMap bf),.v (.bool true)] [] (.ptr 0 0 0) [⟨[.ref 1 1 0 (aQ T1 T2 (ae L) (ae F) H l k ++ gx (ae L) 256 0 0).length 2], 123, false⟩,⟨(aQ T1 T2 (ae L) (ae F) H l k ++ gx (ae L) 256 0 0).flatMap aR, 126, true⟩]) ∧ (SpecH false Tryz.prog 65 [nD a,ga 1,.sl false r 1 (raw.map dB),.sl false k 3 (l.flatMap bf),.v (.bool false)] [] (.ptr 0 0 0) [⟨[.ref 1 1 0 (aQ T1 T2 (ae L) (ae F) H' l k ++ gx (ae L) 256 0 0).length 2], 123, false⟩,⟨(aQ T1 T2 (ae L) (ae F) H' l k ++ gx (ae L) 256 0 0).flatMap aR, 126, true⟩]):=by
 refine SpecH.run2 (fun (d:Bool) (e:Nat) (H:List Nm) (hH:H = lY e 1) (hHl:H.length = 2) (R:D → List Blk → Prop) (ok:∀ r' bs', r' = (.ptr 0 0 0) → bs' = [⟨[.ref 1 1 0 (aQ T1 T2 (ae L) (ae F) H l k ++ gx (ae L) 256 0 0).length 2], 123, false⟩,⟨(aQ T1 T2 (ae L) (ae F) H l k ++ gx (ae L) 256 0 0).flatMap aR, 126, true⟩] → R r' bs') =>  ((.cl 86 false [] (.fn IE (@kr (L) (F) bx bx)) (.s 26 (.call 112 false [] (true && (true && LH 288 (length (map dB L)) && true && ab (bif true && LF 288 (length (map dB L)) then map dB L else take 288 (drop 0 (map dB L)))) && true) He ([D.sl true 288 1 (bif true && LF 288 (length (map dB L)) then map dB L else take 288 (drop 0 (map dB L))),zI 15]) _ Hf (true) wr _ _ _ (CallOk.fn (aA.of Tryz.func112 rfl rfl) (@iM (L) (288) om (15) (by (simp; done)) om)) (.s 13 (.call 112 false [] (true && (true && LH 32 (length (map dB F)) && true && ab (bif true && LF 32 (length (map dB F)) then map dB F else take 32 (drop 0 (map dB F)))) && true) He ([D.sl true 32 1 (bif true && LF 32 (length (map dB F)) then map dB F else take 32 (drop 0 (map dB F))),zI 15]) _ Hf (true) wr _ _ _ (CallOk.fn (aA.of Tryz.func112 rfl rfl) (@iM (F) (32) om (15) (by (simp; done)) om)) (.s 18 (.two (.s 2 (.br (decide (0 < (k:Int))) (fun p0=>have p0f:=aU p0; (.s 1 (.chk (true && decide (0 < (k:Int)) && true) (by ((refine aK ?_ ?_) <;> (repeat' (first | (refine aK ?_ ?_) | (with_reducible rfl) | (refine decide_eq_true ?_) | (refine LK ?_) | (refine eT ?_))) <;> (omega))) (.s 2 (.chk (LH 3 (length (flatMap bf l))) D5 (.lst (take 3 (drop 0 (flatMap bf l))) ([dM (LG (Tn.lit (getD l 0 jd))),zN (Tn.dist (getD l 0 jd)),zN (Tn.long (getD l 0 jd))]) (aD (k:=3) (i:=0) (fun _=>rfl) om om) (.s 13 (.br ((↑(Tn.long (getD l 0 jd)):Int) == 0) (fun p1=>have p1f:=eq_of_beq p1; (.s 8 (.op (↑(LG (Tn.lit (getD l 0 jd))):Int) D6 (.s 18 (.chk (true && decide ((↑(LG (Tn.lit (getD l 0 jd))):Int) < (↑288:Int))) D7 (.s 2 (.chk (LH (0 + LG (Tn.lit (getD l 0 jd)) * 2 + 2) (length (flatMap cd (ae L)))) IL (.lst (take 2 (drop (0 + LG (Tn.lit (getD l 0 jd)) * 2) (flatMap cd (ae L)))) ([ag (L6 (getD (ae L) (LG (Tn.lit (getD l 0 jd))) jd)),dM (LP (getD (ae L) (LG (Tn.lit (getD l 0 jd))) jd))]) (aD (k:=2) (i:=LG (Tn.lit (getD l 0 jd))) (fun _=>rfl) mg om) (.s 18 (.op (↑(LP (getD (ae L) (LG (Tn.lit (getD l 0 jd))) jd)):Int) mg (.s 1 (.cl 152 false [] (.fn dN (@bE (L6 (getD (ae L) (LG (Tn.lit (getD l 0 jd))) jd)) (LP (getD (ae L) (LG (Tn.lit (getD l 0 jd))) jd)) zt (by (exact (okL _).2)))) (.s 16 (.op (↑(LP (getD (ae L) (LG (Tn.lit (getD l 0 jd))) jd)):Int) mg (.s 35 (.blk 16 16 (Blk.mk [D.ref (1008+sh d) (1008+sh d) 0 4 2] 123 false) (Blk.mk [D.ref (1008+sh d) (1008+sh d) 0 (length (aQ T1 T2 (ae L) (ae F) H l 1)) 2] 123 false) (by ( rw [dO (i:=0) om om,gy,hH]; rfl)) (.blk (1008+sh d) (1008+sh d) (Blk.mk [ag e,zI 1,uI 1,zI 2,ag (eH (L6 (getD (ae L) (LG (Tn.lit (getD l 0 jd))) jd)) (LP (getD (ae L) (LG (Tn.lit (getD l 0 jd))) jd))),zN (LP (getD (ae L) (LG (Tn.lit (getD l 0 jd))) jd)),uI 0,zI 0] 126 true) (Blk.mk (flatMap aR (aQ T1 T2 (ae L) (ae F) H l 1)) 126 true) (by ( rw [dO (i:=0) om om,gy,hH]; rfl)) (Hn.inl T_ok ai false 53 (544+sh d) (ay Tryz.prog 106 0) (fun (x:(i:Nat) ×' (hi:1 ≤ i ∧ i ≤ k) ×' Unit)=>match x with | ⟨i,hi,_⟩=>CutS.mk [(1,D.fn (Mn 115) [] [D.ptr (384+sh d) (384+sh d) 0,D.ptr (496+sh d) (496+sh d) 0,D.ptr (432+sh d) (432+sh d) 0]),(10,D.sl false k 3 (flatMap bf l)),(11,zN k),(12,nD i)] [⟨16,16,16,16,.b ⟨[(D.ref (616+sh d) (616+sh d) (0) ((aQ T1 T2 (ae L) (ae F) H l i).length) 2)],123,false⟩⟩,⟨(96+sh d),(96+sh d),(96+sh d),(96+sh d),.b ⟨[ag e,zI 1,uI 1,zI 2],126,false⟩⟩,⟨(256+sh d),(256+sh d),(256+sh d),(256+sh d),.b ⟨map dB L,5,true⟩⟩,⟨(257+sh d),(257+sh d),(257+sh d),(257+sh d),.b ⟨map dB F,5,true⟩⟩,⟨(384+sh d),(384+sh d),(384+sh d),(384+sh d),.b ⟨[D.ptr 16 16 0],105,false⟩⟩,⟨(400+sh d),(400+sh d),(400+sh d),(400+sh d),.b ⟨flatMap cd (ae L),210,true⟩⟩,⟨(432+sh d),(432+sh d),(432+sh d),(432+sh d),.b ⟨[D.ref (400+sh d) (400+sh d) 0 288 2],189,false⟩⟩,⟨(464+sh d),(464+sh d),(464+sh d),(464+sh d),.b ⟨flatMap cd (ae F),210,true⟩⟩,⟨(496+sh d),(496+sh d),(496+sh d),(496+sh d),.b ⟨[D.ref (464+sh d) (464+sh d) 0 32 2],189,false⟩⟩,⟨(616+sh d),(616+sh d),(1008+sh d),(1008+sh d),.b ⟨(aQ T1 T2 (ae L) (ae F) H l i).flatMap aR,126,true⟩⟩] (624+sh d)) (fun (x:(i:Nat) ×' (hi:1 ≤ i ∧ i ≤ k) ×' Unit)=>match x with | ⟨i,hi,_⟩=>k - i) [⟨Unit,.exit 0,fun x=>match x with | ()=>CutS.mk [(1,D.fn (Mn 115) [] [D.ptr (384+sh d) (384+sh d) 0,D.ptr (496+sh d) (496+sh d) 0,D.ptr (432+sh d) (432+sh d) 0]),(10,D.sl false k 3 (flatMap bf l)),(11,zN k),(12,nD k)] [⟨16,16,16,16,.b ⟨[(D.ref (616+sh d) (616+sh d) (0) ((aQ T1 T2 (ae L) (ae F) H l k).length) 2)],123,false⟩⟩,⟨(96+sh d),(96+sh d),(96+sh d),(96+sh d),.b ⟨[ag e,zI 1,uI 1,zI 2],126,false⟩⟩,⟨(256+sh d),(256+sh d),(256+sh d),(256+sh d),.b ⟨map dB L,5,true⟩⟩,⟨(257+sh d),(257+sh d),(257+sh d),(257+sh d),.b ⟨map dB F,5,true⟩⟩,⟨(384+sh d),(384+sh d),(384+sh d),(384+sh d),.b ⟨[D.ptr 16 16 0],105,false⟩⟩,⟨(400+sh d),(400+sh d),(400+sh d),(400+sh d),.b ⟨flatMap cd (ae L),210,true⟩⟩,⟨(432+sh d),(432+sh d),(432+sh d),(432+sh d),.b ⟨[D.ref (400+sh d) (400+sh d) 0 288 2],189,false⟩⟩,⟨(464+sh d),(464+sh d),(464+sh d),(464+sh d),.b ⟨flatMap cd (ae F),210,true⟩⟩,⟨(496+sh d),(496+sh d),(496+sh d),(496+sh d),.b ⟨[D.ref (464+sh d) (464+sh d) 0 32 2],189,false⟩⟩,⟨(616+sh d),(616+sh d),(1008+sh d),(1008+sh d),.b ⟨(aQ T1 T2 (ae L) (ae F) H l k).flatMap aR,126,true⟩⟩] (624+sh d)⟩] 1000 64 (fun | ⟨i,hi,_⟩,Q,next1,last1=>(.s 2 (.br (decide ((i:Int) < (k:Int))) (fun p2=>have p2f:=aU p2; (.s 1 (.chk (true && decide ((i:Int) < (k:Int)) && true) IM (.s 2 (.chk (LH (i * 3 + 3) (length (flatMap bf l))) D5 (.lst (take 3 (drop (i * 3) (flatMap bf l))) ([dM (LG (Tn.lit (getD l i jd))),zN (Tn.dist (getD l i jd)),zN (Tn.long (getD l i jd))]) (aD (k:=3) (i:=i) (fun _=>rfl) om om) (.s 13 (.br ((↑(Tn.long (getD l i jd)):Int) == 0) (fun p3=>have p3f:=eq_of_beq p3; (.s 8 (.op (↑(LG (Tn.lit (getD l i jd))):Int) D6 (.s 18 (.chk (true && decide ((↑(LG (Tn.lit (getD l i jd))):Int) < (↑288:Int))) Hg (.s 2 (.chk (LH (0 + LG (Tn.lit (getD l i jd)) * 2 + 2) (length (flatMap cd (ae L)))) Hh (.lst (take 2 (drop (0 + LG (Tn.lit (getD l i jd)) * 2) (flatMap cd (ae L)))) ([ag (L6 (getD (ae L) (LG (Tn.lit (getD l i jd))) jd)),dM (LP (getD (ae L) (LG (Tn.lit (getD l i jd))) jd))]) (aD (k:=2) (i:=LG (Tn.lit (getD l i jd))) (fun _=>rfl) io om) (.s 18 (.op (↑(LP (getD (ae L) (LG (Tn.lit (getD l i jd))) jd)):Int) io (.s 1 (.cl 152 false [] (.fn dN (@bE (L6 (getD (ae L) (LG (Tn.lit (getD l i jd))) jd)) (LP (getD (ae L) (LG (Tn.lit (getD l i jd))) jd)) zt (by (exact (okL _).2)))) (.s 16 (.op (↑(LP (getD (ae L) (LG (Tn.lit (getD l i jd))) jd)):Int) io (.s 23 (.chk (true && LF (length (aQ T1 T2 (ae L) (ae F) H l i) * 2) (length (flatMap aR (aQ T1 T2 (ae L) (ae F) H l i))) && true && true && true && true && LH ((length (aQ T1 T2 (ae L) (ae F) H l i) + 2) * 16) 140737488355328) IN (.s 9 (.ow ((i:Int) + 1) (.s 1 (.val 12 (zI ((i:Int) + 1)) (zN (i + 1)) IP (.blk 16 16 (Blk.mk [D.ref (1064+sh d) (1064+sh d) 0 (length (aQ T1 T2 (ae L) (ae F) H l i) + 2) 2] 123 false) (Blk.mk [D.ref (1064+sh d) (1064+sh d) 0 (length (aQ T1 T2 (ae L) (ae F) H l (i + 1))) 2] 123 false) (by ( rw [dO om om,LJ]; rfl)) (.blk (1064+sh d) (1064+sh d) (Blk.mk (flatMap aR (aQ T1 T2 (ae L) (ae F) H l i) ++ [ag (eH (L6 (getD (ae L) (LG (Tn.lit (getD l i jd))) jd)) (LP (getD (ae L) (LG (Tn.lit (getD l i jd))) jd))),zN (LP (getD (ae L) (LG (Tn.lit (getD l i jd))) jd)),uI 0,zI 0]) 126 true) (Blk.mk (flatMap aR (aQ T1 T2 (ae L) (ae F) H l (i + 1))) 126 true) (by ( refine aC ?_; rw [dO om om,b4]; rfl)) (Hn.next next1 ⟨(i + 1),om,⟨⟩⟩ IQ [(16,16),((96+sh d),(96+sh d)),((256+sh d),(256+sh d)),((257+sh d),(257+sh d)),((384+sh d),(384+sh d)),((400+sh d),(400+sh d)),((432+sh d),(432+sh d)),((464+sh d),(464+sh d)),((496+sh d),(496+sh d)),((1064+sh d),(1064+sh d))] Ca))))))))))))))))))))))) (fun p3=>have p3f:=ar p3; (.s 7 (.cl 142 false [] (.fn rS (@ij (T1) bx om om (Tn.long (getD l i jd)) io io)) (.s 35 (.chk (true && decide ((↑(257 + am T1 (Tn.long (getD l i jd))):Int) < (↑288:Int))) zu (.s 2 (.chk (LH (0 + (257 + am T1 (Tn.long (getD l i jd))) * 2 + 2) (length (flatMap cd (ae L)))) zv (.lst (take 2 (drop (0 + (257 + am T1 (Tn.long (getD l i jd))) * 2) (flatMap cd (ae L)))) ([ag (L6 (getD (ae L) (257 + am T1 (Tn.long (getD l i jd))) jd)),dM (LP (getD (ae L) (257 + am T1 (Tn.long (getD l i jd))) jd))]) (aD (k:=2) (i:=257 + am T1 (Tn.long (getD l i jd))) (fun _=>rfl) io om) (.s 18 (.op (↑(LP (getD (ae L) (257 + am T1 (Tn.long (getD l i jd))) jd)):Int) io (.s 1 (.cl 152 false [] (.fn dN (@bE (L6 (getD (ae L) (257 + am T1 (Tn.long (getD l i jd))) jd)) (LP (getD (ae L) (257 + am T1 (Tn.long (getD l i jd))) jd)) zt (by (exact (okL _).2)))) (.s 16 (.op (↑(LP (getD (ae L) (257 + am T1 (Tn.long (getD l i jd))) jd)):Int) io (.s 4 (.opt (aw .u32 (↑(Tn.long (getD l i jd) - Sy.least (getD T1 (am T1 (Tn.long (getD l i jd))) jd)):Int)) (ag (Tn.long (getD l i jd) - Sy.least (getD T1 (am T1 (Tn.long (getD l i jd))) jd))) (aB io) (.s 18 (.chk (true && LF (length (aQ T1 T2 (ae L) (ae F) H l i) * 2) (length (flatMap aR (aQ T1 T2 (ae L) (ae F) H l i))) && true && true && true && true && LH ((length (aQ T1 T2 (ae L) (ae F) H l i) + 2) * 16) 140737488355328) IN (.s 14 (.cl 143 false [] (.fn rT (@lD (T2) bx om om (Tn.dist (getD l i jd)) io io)) (.s 34 (.chk (true && decide ((↑(am T2 (Tn.dist (getD l i jd))):Int) < (↑32:Int))) zu (.s 2 (.chk (LH (0 + am T2 (Tn.dist (getD l i jd)) * 2 + 2) (length (flatMap cd (ae F)))) zv (.lst (take 2 (drop (0 + am T2 (Tn.dist (getD l i jd)) * 2) (flatMap cd (ae F)))) ([ag (L6 (getD (ae F) (am T2 (Tn.dist (getD l i jd))) jd)),dM (LP (getD (ae F) (am T2 (Tn.dist (getD l i jd))) jd))]) (aD (k:=2) (i:=am T2 (Tn.dist (getD l i jd))) (fun _=>rfl) io om) (.s 18 (.op (↑(LP (getD (ae F) (am T2 (Tn.dist (getD l i jd))) jd)):Int) io (.s 1 (.cl 152 false [] (.fn dN (@bE (L6 (getD (ae F) (am T2 (Tn.dist (getD l i jd))) jd)) (LP (getD (ae F) (am T2 (Tn.dist (getD l i jd))) jd)) D8 (by (exact (okF _).2)))) (.s 16 (.op (↑(LP (getD (ae F) (am T2 (Tn.dist (getD l i jd))) jd)):Int) io (.s 4 (.opt (aw .u32 (↑(Tn.dist (getD l i jd) - Sy.least (getD T2 (am T2 (Tn.dist (getD l i jd))) jd)):Int)) (ag (Tn.dist (getD l i jd) - Sy.least (getD T2 (am T2 (Tn.dist (getD l i jd))) jd))) (aB io) (.s 18 (.chk (true && LF ((length (aQ T1 T2 (ae L) (ae F) H l i) + 2) * 2) (length (flatMap aR (aQ T1 T2 (ae L) (ae F) H l i) ++ [ag (eH (L6 (getD (ae L) (257 + am T1 (Tn.long (getD l i jd))) jd)) (LP (getD (ae L) (257 + am T1 (Tn.long (getD l i jd))) jd))),zN (LP (getD (ae L) (257 + am T1 (Tn.long (getD l i jd))) jd)),ag (Tn.long (getD l i jd) - Sy.least (getD T1 (am T1 (Tn.long (getD l i jd))) jd)),zN (Sy.bits (getD T1 (am T1 (Tn.long (getD l i jd))) jd))])) && true && true && true && true && LH ((length (aQ T1 T2 (ae L) (ae F) H l i) + 2 + 2) * 16) 140737488355328) IM (.s 9 (.ow ((i:Int) + 1) (.s 1 (.val 12 (zI ((i:Int) + 1)) (zN (i + 1)) IP (.blk 16 16 (Blk.mk [D.ref (1840+sh d) (1840+sh d) 0 (length (aQ T1 T2 (ae L) (ae F) H l i) + 2 + 2) 2] 123 false) (Blk.mk [D.ref (1840+sh d) (1840+sh d) 0 (length (aQ T1 T2 (ae L) (ae F) H l (i + 1))) 2] 123 false) (by ( rw [eW om om,LJ]; rfl)) (.blk (1840+sh d) (1840+sh d) (Blk.mk (flatMap aR (aQ T1 T2 (ae L) (ae F) H l i) ++ [ag (eH (L6 (getD (ae L) (257 + am T1 (Tn.long (getD l i jd))) jd)) (LP (getD (ae L) (257 + am T1 (Tn.long (getD l i jd))) jd))),zN (LP (getD (ae L) (257 + am T1 (Tn.long (getD l i jd))) jd)),ag (Tn.long (getD l i jd) - Sy.least (getD T1 (am T1 (Tn.long (getD l i jd))) jd)),zN (Sy.bits (getD T1 (am T1 (Tn.long (getD l i jd))) jd))] ++ [ag (eH (L6 (getD (ae F) (am T2 (Tn.dist (getD l i jd))) jd)) (LP (getD (ae F) (am T2 (Tn.dist (getD l i jd))) jd))),zN (LP (getD (ae F) (am T2 (Tn.dist (getD l i jd))) jd)),ag (Tn.dist (getD l i jd) - Sy.least (getD T2 (am T2 (Tn.dist (getD l i jd))) jd)),zN (Sy.bits (getD T2 (am T2 (Tn.dist (getD l i jd))) jd))]) 126 true) (Blk.mk (flatMap aR (aQ T1 T2 (ae L) (ae F) H l (i + 1))) 126 true) Hi (Hn.next next1 ⟨(i + 1),om,⟨⟩⟩ IQ [(16,16),((96+sh d),(96+sh d)),((256+sh d),(256+sh d)),((257+sh d),(257+sh d)),((384+sh d),(384+sh d)),((400+sh d),(400+sh d)),((432+sh d),(432+sh d)),((464+sh d),(464+sh d)),((496+sh d),(496+sh d)),((1840+sh d),(1840+sh d))] Ca)))))))))))))))))))))))))))))))))))))))))))))))))) (fun p2=>have p2f:=aV p2; (.val 12 (zN i) (zN k) EU (.blk 16 16 (Blk.mk [D.ref (616+sh d) (616+sh d) 0 (length (aQ T1 T2 (ae L) (ae F) H l i)) 2] 123 false) (Blk.mk [D.ref (616+sh d) (616+sh d) 0 (length (aQ T1 T2 (ae L) (ae F) H l k)) 2] 123 false) EU (.blk (616+sh d) (616+sh d) (Blk.mk (flatMap aR (aQ T1 T2 (ae L) (ae F) H l i)) 126 true) (Blk.mk (flatMap aR (aQ T1 T2 (ae L) (ae F) H l k)) 126 true) EU (Hn.last last1 0 (():Unit) rfl [(16,16),((96+sh d),(96+sh d)),((256+sh d),(256+sh d)),((257+sh d),(257+sh d)),((384+sh d),(384+sh d)),((400+sh d),(400+sh d)),((432+sh d),(432+sh d)),((464+sh d),(464+sh d)),((496+sh d),(496+sh d)),((616+sh d),(616+sh d))] Ca)))))))) (fun | ⟨i,hi,_⟩=>by cases d <;> kernel_rfl) ⟨(1),om,⟨⟩⟩ [(16,16),((96+sh d),(96+sh d)),((256+sh d),(256+sh d)),((257+sh d),(257+sh d)),((384+sh d),(384+sh d)),((400+sh d),(400+sh d)),((432+sh d),(432+sh d)),((464+sh d),(464+sh d)),((496+sh d),(496+sh d)),((1008+sh d),(1008+sh d))] Ca (b5 (fun | ()=>(.s 22 (.chk (LH 514 (length (flatMap cd (ae L)))) IL (.lst (take 2 (drop 512 (flatMap cd (ae L)))) ([ag (L6 (getD (ae L) 256 jd)),dM (LP (getD (ae L) 256 jd))]) (aD (k:=2) (i:=256) (fun _=>rfl) om om) (.s 18 (.op (↑(LP (getD (ae L) 256 jd)):Int) mg (.s 1 (.cl 152 false [] (.fn dN (@bE (L6 (getD (ae L) 256 jd)) (LP (getD (ae L) 256 jd)) zt (by (exact (okL _).2)))) (.s 16 (.op (↑(LP (getD (ae L) 256 jd)):Int) mg (.s 23 (.chk (true && LF (length (aQ T1 T2 (ae L) (ae F) H l k) * 2) (length (flatMap aR (aQ T1 T2 (ae L) (ae F) H l k))) && true && true && true && true && LH ((length (aQ T1 T2 (ae L) (ae F) H l k) + 2) * 16) 140737488355328) Hj (.s 9 (.out [16,(976+sh d)] [16,(976+sh d)] (D.ptr 0 0 0) [Blk.mk [D.ref 1 1 0 (length (aQ T1 T2 (ae L) (ae F) H l k) + 2) 2] 123 false,Blk.mk (flatMap aR (aQ T1 T2 (ae L) (ae F) H l k) ++ [ag (eH (L6 (getD (ae L) 256 jd)) (LP (getD (ae L) 256 jd))),zN (LP (getD (ae L) 256 jd)),uI 0,zI 0]) 126 true] R (ok _ _ wr (by (rw [LJ,b4]; rfl)))))))))))))))))))))))))))))))))))) (fun p1=>have p1f:=ar p1; (.s 7 (.cl 142 false [] (.fn rS (@ij (T1) bx om om (Tn.long (getD l 0 jd)) mg mg)) (.s 35 (.chk (true && decide ((↑(257 + am T1 (Tn.long (getD l 0 jd))):Int) < (↑288:Int))) D7 (.s 2 (.chk (LH (0 + (257 + am T1 (Tn.long (getD l 0 jd))) * 2 + 2) (length (flatMap cd (ae L)))) Hk (.lst (take 2 (drop (0 + (257 + am T1 (Tn.long (getD l 0 jd))) * 2) (flatMap cd (ae L)))) ([ag (L6 (getD (ae L) (257 + am T1 (Tn.long (getD l 0 jd))) jd)),dM (LP (getD (ae L) (257 + am T1 (Tn.long (getD l 0 jd))) jd))]) (aD (k:=2) (i:=257 + am T1 (Tn.long (getD l 0 jd))) (fun _=>rfl) mg om) (.s 18 (.op (↑(LP (getD (ae L) (257 + am T1 (Tn.long (getD l 0 jd))) jd)):Int) mg (.s 1 (.cl 152 false [] (.fn dN (@bE (L6 (getD (ae L) (257 + am T1 (Tn.long (getD l 0 jd))) jd)) (LP (getD (ae L) (257 + am T1 (Tn.long (getD l 0 jd))) jd)) zt (by (exact (okL _).2)))) (.s 16 (.op (↑(LP (getD (ae L) (257 + am T1 (Tn.long (getD l 0 jd))) jd)):Int) mg (.s 4 (.opt (aw .u32 (↑(Tn.long (getD l 0 jd) - Sy.least (getD T1 (am T1 (Tn.long (getD l 0 jd))) jd)):Int)) (ag (Tn.long (getD l 0 jd) - Sy.least (getD T1 (am T1 (Tn.long (getD l 0 jd))) jd))) (aB mg) (.s 33 (.cl 143 false [] (.fn rT (@lD (T2) bx om om (Tn.dist (getD l 0 jd)) mg mg)) (.s 34 (.chk (true && decide ((↑(am T2 (Tn.dist (getD l 0 jd))):Int) < (↑32:Int))) D7 (.s 2 (.chk (LH (0 + am T2 (Tn.dist (getD l 0 jd)) * 2 + 2) (length (flatMap cd (ae F)))) Hk (.lst (take 2 (drop (0 + am T2 (Tn.dist (getD l 0 jd)) * 2) (flatMap cd (ae F)))) ([ag (L6 (getD (ae F) (am T2 (Tn.dist (getD l 0 jd))) jd)),dM (LP (getD (ae F) (am T2 (Tn.dist (getD l 0 jd))) jd))]) (aD (k:=2) (i:=am T2 (Tn.dist (getD l 0 jd))) (fun _=>rfl) mg om) (.s 18 (.op (↑(LP (getD (ae F) (am T2 (Tn.dist (getD l 0 jd))) jd)):Int) mg (.s 1 (.cl 152 false [] (.fn dN (@bE (L6 (getD (ae F) (am T2 (Tn.dist (getD l 0 jd))) jd)) (LP (getD (ae F) (am T2 (Tn.dist (getD l 0 jd))) jd)) D8 (by (exact (okF _).2)))) (.s 16 (.op (↑(LP (getD (ae F) (am T2 (Tn.dist (getD l 0 jd))) jd)):Int) mg (.s 4 (.opt (aw .u32 (↑(Tn.dist (getD l 0 jd) - Sy.least (getD T2 (am T2 (Tn.dist (getD l 0 jd))) jd)):Int)) (ag (Tn.dist (getD l 0 jd) - Sy.least (getD T2 (am T2 (Tn.dist (getD l 0 jd))) jd))) (aB mg) (.s 30 (.blk 16 16 (Blk.mk [D.ref (1784+sh d) (1784+sh d) 0 6 2] 123 false) (Blk.mk [D.ref (1784+sh d) (1784+sh d) 0 (length (aQ T1 T2 (ae L) (ae F) H l 1)) 2] 123 false) (by ( rw [eW (i:=0) om om,gy,hH]; rfl)) (.blk (1784+sh d) (1784+sh d) (Blk.mk [ag e,zI 1,uI 1,zI 2,ag (eH (L6 (getD (ae L) (257 + am T1 (Tn.long (getD l 0 jd))) jd)) (LP (getD (ae L) (257 + am T1 (Tn.long (getD l 0 jd))) jd))),zN (LP (getD (ae L) (257 + am T1 (Tn.long (getD l 0 jd))) jd)),ag (Tn.long (getD l 0 jd) - Sy.least (getD T1 (am T1 (Tn.long (getD l 0 jd))) jd)),zN (Sy.bits (getD T1 (am T1 (Tn.long (getD l 0 jd))) jd)),ag (eH (L6 (getD (ae F) (am T2 (Tn.dist (getD l 0 jd))) jd)) (LP (getD (ae F) (am T2 (Tn.dist (getD l 0 jd))) jd))),zN (LP (getD (ae F) (am T2 (Tn.dist (getD l 0 jd))) jd)),ag (Tn.dist (getD l 0 jd) - Sy.least (getD T2 (am T2 (Tn.dist (getD l 0 jd))) jd)),zN (Sy.bits (getD T2 (am T2 (Tn.dist (getD l 0 jd))) jd))] 126 true) (Blk.mk (flatMap aR (aQ T1 T2 (ae L) (ae F) H l 1)) 126 true) (by ( rw [eW (i:=0) om om,gy,hH]; rfl)) (Hn.inl T_ok ai false 53 (544+sh d) (ay Tryz.prog 106 0) (fun (x:(i:Nat) ×' (hi:1 ≤ i ∧ i ≤ k) ×' Unit)=>match x with | ⟨i,hi,_⟩=>CutS.mk [(1,D.fn (Mn 115) [] [D.ptr (384+sh d) (384+sh d) 0,D.ptr (496+sh d) (496+sh d) 0,D.ptr (432+sh d) (432+sh d) 0]),(10,D.sl false k 3 (flatMap bf l)),(11,zN k),(12,nD i)] [⟨16,16,16,16,.b ⟨[(D.ref (616+sh d) (616+sh d) (0) ((aQ T1 T2 (ae L) (ae F) H l i).length) 2)],123,false⟩⟩,⟨(96+sh d),(96+sh d),(96+sh d),(96+sh d),.b ⟨[ag e,zI 1,uI 1,zI 2],126,false⟩⟩,⟨(256+sh d),(256+sh d),(256+sh d),(256+sh d),.b ⟨map dB L,5,true⟩⟩,⟨(257+sh d),(257+sh d),(257+sh d),(257+sh d),.b ⟨map dB F,5,true⟩⟩,⟨(384+sh d),(384+sh d),(384+sh d),(384+sh d),.b ⟨[D.ptr 16 16 0],105,false⟩⟩,⟨(400+sh d),(400+sh d),(400+sh d),(400+sh d),.b ⟨flatMap cd (ae L),210,true⟩⟩,⟨(432+sh d),(432+sh d),(432+sh d),(432+sh d),.b ⟨[D.ref (400+sh d) (400+sh d) 0 288 2],189,false⟩⟩,⟨(464+sh d),(464+sh d),(464+sh d),(464+sh d),.b ⟨flatMap cd (ae F),210,true⟩⟩,⟨(496+sh d),(496+sh d),(496+sh d),(496+sh d),.b ⟨[D.ref (464+sh d) (464+sh d) 0 32 2],189,false⟩⟩,⟨(616+sh d),(616+sh d),(1784+sh d),(1784+sh d),.b ⟨(aQ T1 T2 (ae L) (ae F) H l i).flatMap aR,126,true⟩⟩] (624+sh d)) (fun (x:(i:Nat) ×' (hi:1 ≤ i ∧ i ≤ k) ×' Unit)=>match x with | ⟨i,hi,_⟩=>k - i) [⟨Unit,.exit 0,fun x=>match x with | ()=>CutS.mk [(1,D.fn (Mn 115) [] [D.ptr (384+sh d) (384+sh d) 0,D.ptr (496+sh d) (496+sh d) 0,D.ptr (432+sh d) (432+sh d) 0]),(10,D.sl false k 3 (flatMap bf l)),(11,zN k),(12,nD k)] [⟨16,16,16,16,.b ⟨[(D.ref (616+sh d) (616+sh d) (0) ((aQ T1 T2 (ae L) (ae F) H l k).length) 2)],123,false⟩⟩,⟨(96+sh d),(96+sh d),(96+sh d),(96+sh d),.b ⟨[ag e,zI 1,uI 1,zI 2],126,false⟩⟩,⟨(256+sh d),(256+sh d),(256+sh d),(256+sh d),.b ⟨map dB L,5,true⟩⟩,⟨(257+sh d),(257+sh d),(257+sh d),(257+sh d),.b ⟨map dB F,5,true⟩⟩,⟨(384+sh d),(384+sh d),(384+sh d),(384+sh d),.b ⟨[D.ptr 16 16 0],105,false⟩⟩,⟨(400+sh d),(400+sh d),(400+sh d),(400+sh d),.b ⟨flatMap cd (ae L),210,true⟩⟩,⟨(432+sh d),(432+sh d),(432+sh d),(432+sh d),.b ⟨[D.ref (400+sh d) (400+sh d) 0 288 2],189,false⟩⟩,⟨(464+sh d),(464+sh d),(464+sh d),(464+sh d),.b ⟨flatMap cd (ae F),210,true⟩⟩,⟨(496+sh d),(496+sh d),(496+sh d),(496+sh d),.b ⟨[D.ref (464+sh d) (464+sh d) 0 32 2],189,false⟩⟩,⟨(616+sh d),(616+sh d),(1784+sh d),(1784+sh d),.b ⟨(aQ T1 T2 (ae L) (ae F) H l k).flatMap aR,126,true⟩⟩] (624+sh d)⟩] 1000 64 (fun | ⟨i,hi,_⟩,Q,next1,last1=>(.s 2 (.br (decide ((i:Int) < (k:Int))) (fun p4=>have p4f:=aU p4; (.s 1 (.chk (true && decide ((i:Int) < (k:Int)) && true) IM (.s 2 (.chk (LH (i * 3 + 3) (length (flatMap bf l))) D5 (.lst (take 3 (drop (i * 3) (flatMap bf l))) ([dM (LG (Tn.lit (getD l i jd))),zN (Tn.dist (getD l i jd)),zN (Tn.long (getD l i jd))]) (aD (k:=3) (i:=i) (fun _=>rfl) om om) (.s 13 (.br ((↑(Tn.long (getD l i jd)):Int) == 0) (fun p5=>have p5f:=eq_of_beq p5; (.s 8 (.op (↑(LG (Tn.lit (getD l i jd))):Int) D6 (.s 18 (.chk (true && decide ((↑(LG (Tn.lit (getD l i jd))):Int) < (↑288:Int))) Hg (.s 2 (.chk (LH (0 + LG (Tn.lit (getD l i jd)) * 2 + 2) (length (flatMap cd (ae L)))) Hh (.lst (take 2 (drop (0 + LG (Tn.lit (getD l i jd)) * 2) (flatMap cd (ae L)))) ([ag (L6 (getD (ae L) (LG (Tn.lit (getD l i jd))) jd)),dM (LP (getD (ae L) (LG (Tn.lit (getD l i jd))) jd))]) (aD (k:=2) (i:=LG (Tn.lit (getD l i jd))) (fun _=>rfl) io om) (.s 18 (.op (↑(LP (getD (ae L) (LG (Tn.lit (getD l i jd))) jd)):Int) io (.s 1 (.cl 152 false [] (.fn dN (@bE (L6 (getD (ae L) (LG (Tn.lit (getD l i jd))) jd)) (LP (getD (ae L) (LG (Tn.lit (getD l i jd))) jd)) zt (by (exact (okL _).2)))) (.s 16 (.op (↑(LP (getD (ae L) (LG (Tn.lit (getD l i jd))) jd)):Int) io (.s 23 (.chk (true && LF (length (aQ T1 T2 (ae L) (ae F) H l i) * 2) (length (flatMap aR (aQ T1 T2 (ae L) (ae F) H l i))) && true && true && true && true && LH ((length (aQ T1 T2 (ae L) (ae F) H l i) + 2) * 16) 140737488355328) IN (.s 9 (.ow ((i:Int) + 1) (.s 1 (.val 12 (zI ((i:Int) + 1)) (zN (i + 1)) IP (.blk 16 16 (Blk.mk [D.ref (1064+sh d) (1064+sh d) 0 (length (aQ T1 T2 (ae L) (ae F) H l i) + 2) 2] 123 false) (Blk.mk [D.ref (1064+sh d) (1064+sh d) 0 (length (aQ T1 T2 (ae L) (ae F) H l (i + 1))) 2] 123 false) (by ( rw [dO om om,LJ]; rfl)) (.blk (1064+sh d) (1064+sh d) (Blk.mk (flatMap aR (aQ T1 T2 (ae L) (ae F) H l i) ++ [ag (eH (L6 (getD (ae L) (LG (Tn.lit (getD l i jd))) jd)) (LP (getD (ae L) (LG (Tn.lit (getD l i jd))) jd))),zN (LP (getD (ae L) (LG (Tn.lit (getD l i jd))) jd)),uI 0,zI 0]) 126 true) (Blk.mk (flatMap aR (aQ T1 T2 (ae L) (ae F) H l (i + 1))) 126 true) (by ( refine aC ?_; rw [dO om om,b4]; rfl)) (Hn.next next1 ⟨(i + 1),om,⟨⟩⟩ IQ [(16,16),((96+sh d),(96+sh d)),((256+sh d),(256+sh d)),((257+sh d),(257+sh d)),((384+sh d),(384+sh d)),((400+sh d),(400+sh d)),((432+sh d),(432+sh d)),((464+sh d),(464+sh d)),((496+sh d),(496+sh d)),((1064+sh d),(1064+sh d))] Ca))))))))))))))))))))))) (fun p5=>have p5f:=ar p5; (.s 7 (.cl 142 false [] (.fn rS (@ij (T1) bx om om (Tn.long (getD l i jd)) io io)) (.s 35 (.chk (true && decide ((↑(257 + am T1 (Tn.long (getD l i jd))):Int) < (↑288:Int))) zu (.s 2 (.chk (LH (0 + (257 + am T1 (Tn.long (getD l i jd))) * 2 + 2) (length (flatMap cd (ae L)))) zv (.lst (take 2 (drop (0 + (257 + am T1 (Tn.long (getD l i jd))) * 2) (flatMap cd (ae L)))) ([ag (L6 (getD (ae L) (257 + am T1 (Tn.long (getD l i jd))) jd)),dM (LP (getD (ae L) (257 + am T1 (Tn.long (getD l i jd))) jd))]) (aD (k:=2) (i:=257 + am T1 (Tn.long (getD l i jd))) (fun _=>rfl) io om) (.s 18 (.op (↑(LP (getD (ae L) (257 + am T1 (Tn.long (getD l i jd))) jd)):Int) io (.s 1 (.cl 152 false [] (.fn dN (@bE (L6 (getD (ae L) (257 + am T1 (Tn.long (getD l i jd))) jd)) (LP (getD (ae L) (257 + am T1 (Tn.long (getD l i jd))) jd)) zt (by (exact (okL _).2)))) (.s 16 (.op (↑(LP (getD (ae L) (257 + am T1 (Tn.long (getD l i jd))) jd)):Int) io (.s 4 (.opt (aw .u32 (↑(Tn.long (getD l i jd) - Sy.least (getD T1 (am T1 (Tn.long (getD l i jd))) jd)):Int)) (ag (Tn.long (getD l i jd) - Sy.least (getD T1 (am T1 (Tn.long (getD l i jd))) jd))) (aB io) (.s 18 (.chk (true && LF (length (aQ T1 T2 (ae L) (ae F) H l i) * 2) (length (flatMap aR (aQ T1 T2 (ae L) (ae F) H l i))) && true && true && true && true && LH ((length (aQ T1 T2 (ae L) (ae F) H l i) + 2) * 16) 140737488355328) IN (.s 14 (.cl 143 false [] (.fn rT (@lD (T2) bx om om (Tn.dist (getD l i jd)) io io)) (.s 34 (.chk (true && decide ((↑(am T2 (Tn.dist (getD l i jd))):Int) < (↑32:Int))) zu (.s 2 (.chk (LH (0 + am T2 (Tn.dist (getD l i jd)) * 2 + 2) (length (flatMap cd (ae F)))) zv (.lst (take 2 (drop (0 + am T2 (Tn.dist (getD l i jd)) * 2) (flatMap cd (ae F)))) ([ag (L6 (getD (ae F) (am T2 (Tn.dist (getD l i jd))) jd)),dM (LP (getD (ae F) (am T2 (Tn.dist (getD l i jd))) jd))]) (aD (k:=2) (i:=am T2 (Tn.dist (getD l i jd))) (fun _=>rfl) io om) (.s 18 (.op (↑(LP (getD (ae F) (am T2 (Tn.dist (getD l i jd))) jd)):Int) io (.s 1 (.cl 152 false [] (.fn dN (@bE (L6 (getD (ae F) (am T2 (Tn.dist (getD l i jd))) jd)) (LP (getD (ae F) (am T2 (Tn.dist (getD l i jd))) jd)) D8 (by (exact (okF _).2)))) (.s 16 (.op (↑(LP (getD (ae F) (am T2 (Tn.dist (getD l i jd))) jd)):Int) io (.s 4 (.opt (aw .u32 (↑(Tn.dist (getD l i jd) - Sy.least (getD T2 (am T2 (Tn.dist (getD l i jd))) jd)):Int)) (ag (Tn.dist (getD l i jd) - Sy.least (getD T2 (am T2 (Tn.dist (getD l i jd))) jd))) (aB io) (.s 18 (.chk (true && LF ((length (aQ T1 T2 (ae L) (ae F) H l i) + 2) * 2) (length (flatMap aR (aQ T1 T2 (ae L) (ae F) H l i) ++ [ag (eH (L6 (getD (ae L) (257 + am T1 (Tn.long (getD l i jd))) jd)) (LP (getD (ae L) (257 + am T1 (Tn.long (getD l i jd))) jd))),zN (LP (getD (ae L) (257 + am T1 (Tn.long (getD l i jd))) jd)),ag (Tn.long (getD l i jd) - Sy.least (getD T1 (am T1 (Tn.long (getD l i jd))) jd)),zN (Sy.bits (getD T1 (am T1 (Tn.long (getD l i jd))) jd))])) && true && true && true && true && LH ((length (aQ T1 T2 (ae L) (ae F) H l i) + 2 + 2) * 16) 140737488355328) IM (.s 9 (.ow ((i:Int) + 1) (.s 1 (.val 12 (zI ((i:Int) + 1)) (zN (i + 1)) IP (.blk 16 16 (Blk.mk [D.ref (1840+sh d) (1840+sh d) 0 (length (aQ T1 T2 (ae L) (ae F) H l i) + 2 + 2) 2] 123 false) (Blk.mk [D.ref (1840+sh d) (1840+sh d) 0 (length (aQ T1 T2 (ae L) (ae F) H l (i + 1))) 2] 123 false) (by ( rw [eW om om,LJ]; rfl)) (.blk (1840+sh d) (1840+sh d) (Blk.mk (flatMap aR (aQ T1 T2 (ae L) (ae F) H l i) ++ [ag (eH (L6 (getD (ae L) (257 + am T1 (Tn.long (getD l i jd))) jd)) (LP (getD (ae L) (257 + am T1 (Tn.long (getD l i jd))) jd))),zN (LP (getD (ae L) (257 + am T1 (Tn.long (getD l i jd))) jd)),ag (Tn.long (getD l i jd) - Sy.least (getD T1 (am T1 (Tn.long (getD l i jd))) jd)),zN (Sy.bits (getD T1 (am T1 (Tn.long (getD l i jd))) jd))] ++ [ag (eH (L6 (getD (ae F) (am T2 (Tn.dist (getD l i jd))) jd)) (LP (getD (ae F) (am T2 (Tn.dist (getD l i jd))) jd))),zN (LP (getD (ae F) (am T2 (Tn.dist (getD l i jd))) jd)),ag (Tn.dist (getD l i jd) - Sy.least (getD T2 (am T2 (Tn.dist (getD l i jd))) jd)),zN (Sy.bits (getD T2 (am T2 (Tn.dist (getD l i jd))) jd))]) 126 true) (Blk.mk (flatMap aR (aQ T1 T2 (ae L) (ae F) H l (i + 1))) 126 true) Hi (Hn.next next1 ⟨(i + 1),om,⟨⟩⟩ IQ [(16,16),((96+sh d),(96+sh d)),((256+sh d),(256+sh d)),((257+sh d),(257+sh d)),((384+sh d),(384+sh d)),((400+sh d),(400+sh d)),((432+sh d),(432+sh d)),((464+sh d),(464+sh d)),((496+sh d),(496+sh d)),((1840+sh d),(1840+sh d))] Ca)))))))))))))))))))))))))))))))))))))))))))))))))) (fun p4=>have p4f:=aV p4; (.val 12 (zN i) (zN k) EU (.blk 16 16 (Blk.mk [D.ref (616+sh d) (616+sh d) 0 (length (aQ T1 T2 (ae L) (ae F) H l i)) 2] 123 false) (Blk.mk [D.ref (616+sh d) (616+sh d) 0 (length (aQ T1 T2 (ae L) (ae F) H l k)) 2] 123 false) EU (.blk (616+sh d) (616+sh d) (Blk.mk (flatMap aR (aQ T1 T2 (ae L) (ae F) H l i)) 126 true) (Blk.mk (flatMap aR (aQ T1 T2 (ae L) (ae F) H l k)) 126 true) EU (Hn.last last1 0 (():Unit) rfl [(16,16),((96+sh d),(96+sh d)),((256+sh d),(256+sh d)),((257+sh d),(257+sh d)),((384+sh d),(384+sh d)),((400+sh d),(400+sh d)),((432+sh d),(432+sh d)),((464+sh d),(464+sh d)),((496+sh d),(496+sh d)),((616+sh d),(616+sh d))] Ca)))))))) (fun | ⟨i,hi,_⟩=>by cases d <;> kernel_rfl) ⟨(1),om,⟨⟩⟩ [(16,16),((96+sh d),(96+sh d)),((256+sh d),(256+sh d)),((257+sh d),(257+sh d)),((384+sh d),(384+sh d)),((400+sh d),(400+sh d)),((432+sh d),(432+sh d)),((464+sh d),(464+sh d)),((496+sh d),(496+sh d)),((1784+sh d),(1784+sh d))] Ca (b5 (fun | ()=>(.s 22 (.chk (LH 514 (length (flatMap cd (ae L)))) IL (.lst (take 2 (drop 512 (flatMap cd (ae L)))) ([ag (L6 (getD (ae L) 256 jd)),dM (LP (getD (ae L) 256 jd))]) (aD (k:=2) (i:=256) (fun _=>rfl) om om) (.s 18 (.op (↑(LP (getD (ae L) 256 jd)):Int) mg (.s 1 (.cl 152 false [] (.fn dN (@bE (L6 (getD (ae L) 256 jd)) (LP (getD (ae L) 256 jd)) zt (by (exact (okL _).2)))) (.s 16 (.op (↑(LP (getD (ae L) 256 jd)):Int) mg (.s 23 (.chk (true && LF (length (aQ T1 T2 (ae L) (ae F) H l k) * 2) (length (flatMap aR (aQ T1 T2 (ae L) (ae F) H l k))) && true && true && true && true && LH ((length (aQ T1 T2 (ae L) (ae F) H l k) + 2) * 16) 140737488355328) Hj (.s 9 (.out [16,(976+sh d)] [16,(976+sh d)] (D.ptr 0 0 0) [Blk.mk [D.ref 1 1 0 (length (aQ T1 T2 (ae L) (ae F) H l k) + 2) 2] 123 false,Blk.mk (flatMap aR (aQ T1 T2 (ae L) (ae F) H l k) ++ [ag (eH (L6 (getD (ae L) 256 jd)) (LP (getD (ae L) 256 jd))),zN (LP (getD (ae L) 256 jd)),uI 0,zI 0]) 126 true] R (ok _ _ wr (by (rw [LJ,b4]; rfl))))))))))))))))))))))))))))))))))))))))))))))))))))))))))))) (fun p0=>have p0f:=aV p0; (.s 22 (.chk (LH 514 (length (flatMap cd (ae L)))) IL (.lst (take 2 (drop 512 (flatMap cd (ae L)))) ([ag (L6 (getD (ae L) 256 jd)),dM (LP (getD (ae L) 256 jd))]) (aD (k:=2) (i:=256) (fun _=>rfl) om om) (.s 18 (.op (↑(LP (getD (ae L) 256 jd)):Int) mg (.s 1 (.cl 152 false [] (.fn dN (@bE (L6 (getD (ae L) 256 jd)) (LP (getD (ae L) 256 jd)) zt (by (exact (okL _).2)))) (.s 16 (.op (↑(LP (getD (ae L) 256 jd)):Int) mg (.s 33 (.out [16,(928+sh d)] [16,(928+sh d)] (D.ptr 0 0 0) [Blk.mk [D.ref 1 1 0 4 2] 123 false,Blk.mk [ag e,zI 1,uI 1,zI 2,ag (eH (L6 (getD (ae L) 256 jd)) (LP (getD (ae L) 256 jd))),zN (LP (getD (ae L) 256 jd)),uI 0,zI 0] 126 true] R (ok _ _ wr (by ( rw [show k = 0 from by omega,gy,hH]; rfl))))))))))))))))) .nil))))))):Hn Tryz.prog)) (fun t h=>SpecH.run T_ok ai Tryz.func65 rfl rfl rfl ⟨rfl,ee (fun _=>rfl) _,trivial⟩ rfl 1000 64 (fun R ok=>.s 43 (t true 1 H hH hHl R ok)) h) (fun t h=>SpecH.run T_ok ai Tryz.func65 rfl rfl rfl ⟨rfl,ee (fun _=>rfl) _,trivial⟩ rfl 1000 64 (fun R ok=>.s 42 (t false 0 H' hH' hHl' R ok)) h) (by kernel_rfl) (by kernel_rfl)
theorem Hl (l:List Tn) (k:Nat) (hk:k = l.length) (hk2:k ≤ 65535) (hl:∀ i,dl (l.getD i jd)) (T1 T2:List Sy) (hT1:T1 = aI) (hT2:T2 = aY) (hl1:T1.length = 29) (hl2:T2.length = 30) (hz1:bX T1) (hz2:bX T2) (L F:List UInt8) (hL:L = cH) (hF:F = fm) (hLl:L.length = 288) (hFl:F.length = 32) (hcL:cG L 15 = 0) (hcF:cG F 15 = 0) (hmL:(ae L).length = 288) (hmF:(ae F).length = 32) (okL:lZ (ae L)) (okF:lZ (ae F)) (H:List Nm) (hH:H = lY 1 1) (hHl:H.length = 2) (a:Nat) (ha:a ≤ 7) (raw:List UInt8) (r:Nat) (hr:r = raw.length) (hr2:r ≤ 65535):SpecH false Tryz.prog 65 [nD a,ga 1,.sl false r 1 (raw.map dB),.sl false k 3 (l.flatMap bf),.v (.bool true)] [] (.ptr 0 0 0) [⟨[.ref 1 1 0 (aQ T1 T2 (ae L) (ae F) H l k ++ gx (ae L) 256 0 0).length 2], 123, false⟩,⟨(aQ T1 T2 (ae L) (ae F) H l k ++ gx (ae L) 256 0 0).flatMap aR, 126, true⟩]:=(Cb l k hk hk2 hl T1 T2 hT1 hT2 hl1 hl2 hz1 hz2 L F hL hF hLl hFl hcL hcF hmL hmF okL okF a ha raw r hr hr2 H hH hHl _ rfl rfl).1
theorem Hm (l:List Tn) (k:Nat) (hk:k = l.length) (hk2:k ≤ 65535) (hl:∀ i,dl (l.getD i jd)) (T1 T2:List Sy) (hT1:T1 = aI) (hT2:T2 = aY) (hl1:T1.length = 29) (hl2:T2.length = 30) (hz1:bX T1) (hz2:bX T2) (L F:List UInt8) (hL:L = cH) (hF:F = fm) (hLl:L.length = 288) (hFl:F.length = 32) (hcL:cG L 15 = 0) (hcF:cG F 15 = 0) (hmL:(ae L).length = 288) (hmF:(ae F).length = 32) (okL:lZ (ae L)) (okF:lZ (ae F)) (H:List Nm) (hH:H = lY 0 1) (hHl:H.length = 2) (a:Nat) (ha:a ≤ 7) (raw:List UInt8) (r:Nat) (hr:r = raw.length) (hr2:r ≤ 65535):SpecH false Tryz.prog 65 [nD a,ga 1,.sl false r 1 (raw.map dB),.sl false k 3 (l.flatMap bf),.v (.bool false)] [] (.ptr 0 0 0) [⟨[.ref 1 1 0 (aQ T1 T2 (ae L) (ae F) H l k ++ gx (ae L) 256 0 0).length 2], 123, false⟩,⟨(aQ T1 T2 (ae L) (ae F) H l k ++ gx (ae L) 256 0 0).flatMap aR, 126, true⟩]:=(Cb l k hk hk2 hl T1 T2 hT1 hT2 hl1 hl2 hz1 hz2 L F hL hF hLl hFl hcL hcF hmL hmF okL okF a ha raw r hr hr2 _ rfl rfl H hH hHl).2
end Vp
end Go.Proofs.YtefjnofhgkjpmaaGreat
namespace Go.Proofs.YtefjnofhgkjpmaaGreat
open Go.RowKit Go.Bw Go.Vx
namespace Vp
theorem SpecH.frz {al:Bool} {P:Program} {f:FuncId} {ds:List D} {n sz:Nat} {cells:List D} {t:TypeId} {rw' : Bool} (h:SpecH al P f ds [] (.ref 0 0 0 n sz) [⟨cells,t,rw'⟩]) (hn:cells.length = n * sz) (hs:0 < sz) (hc:ab cells = true):SpecH al P f ds [] (.sl false n sz cells) []:=by
 refine ⟨LV _,fun O φ w args hO hh hi hl ha=>(h.2 O φ w args hO hh hi hl ha).mono ?_⟩
 rintro e w' ⟨u,rfl,hf,ψ,g1,g2,g3,g4,g5⟩
 refine ⟨u,rfl,hf,φ,fun j hj=>rfl,?_,fun j b hb=>by simp at hb,fun i j x h1=>absurd h1 (MT i),fun j x h1 h2=>absurd h2 (MT j)⟩
 have hB:=(g3 0 _ rfl).1
 have own:∀ b,(dS (i9 al O w) φ 0).own b → b < w.heap.size:=fun b q=>by
  rcases q with q | ⟨j,hj,_⟩
  ·unfold i9 at q; split at q
   ·exact hO b q
   ·exact q
  ·exact absurd hj (MT j)
 have hst:Stp (dS (i9 al O w) ψ 1).cl (dS (i9 al O w) φ 0).cl w' w' := ⟨fun g hg=>hg.elim,fun g hg=>hg.elim,LV _,fun b _ hb=>⟨fun q=>hb (by
  rcases q with q | ⟨j,hj,_⟩
  ·exact .inl q
  ·exact absurd hj (MT j)),rfl⟩,fun _ _=>rfl⟩
 obtain ⟨hnm,hB⟩:=hB
 cases g2 with
 | refn _ _ _ hg hb =>
  have h0:cells = []:=L8 (by rw [hn,M0])
  subst h0
  exact .sl false 0 sz [] none 0 [] rfl (fun i d u h=>by simp at h) (fun u h=>by cases h) (by simp) hs ⟨LV _,Mw _⟩ (fun _=>⟨rfl,rfl⟩) (.inl rfl)
 | ref _ _ _ _ _ c b off' t' m hg hb hcc ho hsh hm =>
  rw [hb] at hB
  obtain ⟨_,hlt,cur,fr,hheap,hfr,hle,_,hcell⟩:=hB
  have hcell:∀ (i:Nat) d,cells[i]? = some d → ∃ u,cur[i]? = some u ∧ u.oneCell' = true ∧ RD (dS (i9 al O w) ψ 1) w' d u:=hcell
  have hle:cells.length ≤ cur.size:=hle
  have hul:(cur.toList.take cells.length).length = cells.length:=Mx (by rw [OD]; exact hle)
  have hget:∀ (i:Nat) u,(cur.toList.take cells.length)[i]? = some u → i < cells.length ∧ cur[i]? = some u:=fun i u hu=>by
   rw [List.getElem?_take] at hu
   split at hu
   ·next q=>exact ⟨q,by simpa using hu⟩
   ·cases hu
  refine .sl false n sz cells (some ⟨b,off', none⟩) c (cur.toList.take cells.length) hul (fun i d u h1 h2=>?_) (fun u hu=>?_) hn hs hcc (fun q=>by cases q) ?_
  ·obtain ⟨_,h2⟩:=hget i u h2
   obtain ⟨u', q1,_,q3⟩:=hcell i d h1
   rw [h2] at q1; cases q1
   exact (q3.weak (bd hc h1)).step hst
  ·obtain ⟨i,hi⟩:=List.getElem?_of_mem hu
   obtain ⟨q0,q1⟩:=hget i u hi
   obtain ⟨u', y1,y2,_⟩:=hcell i _ (List.getElem?_eq_getElem q0)
   rw [q1] at y1; cases y1; exact y2
  ·rcases ho with ho | ⟨ho,_⟩
   ·refine .inr ⟨b,off', rfl,hlt,fun q=>?_,fun i u hu=>?_⟩
    ·have:=g5 0 b (Mw _) NI hb
     have:=own b q; omega
    ·rw [ho,Mb,cell_of_row w' b i cur t fr hheap]; exact (hget i u hu).2
   ·exact .inl ho
end Vp
end Go.Proofs.YtefjnofhgkjpmaaGreat

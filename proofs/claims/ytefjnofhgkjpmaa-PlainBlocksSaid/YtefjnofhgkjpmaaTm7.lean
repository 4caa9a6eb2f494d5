/- Part 7. -/
import Derived.Test.YtefjnofhgkjpmaaTm6
import Derived.Test.YtefjnofhgkjpmaaTm5
set_option linter.unusedVariables false
set_option linter.unusedSimpArgs false
set_option maxRecDepth 100000
set_option maxHeartbeats 4000000
open And renaming intro → Ut
open Array renaming length_toList → W9
open BitVec renaming ofInt → TA, toNat → Uc
open Bool renaming and_eq_true → Tw, and_true → Uh, true_and → Ub
open Eq renaming trans → Xm
open Go.Fn renaming func → Ui
open Go.IntKind renaming i64 → Uf, u64 → Vn, wrap → TM
open Go.Value renaming int → UE
open Go.Vx.Blk renaming mk → Tq
open Go.Vx.CallOk renaming fn → TW
open Go.Vx.CutS renaming mk → TJ
open Go.Vx.D renaming agg → UA, fn → U9, ptr → TF, ref → Tu, sl → TL, tup → Uw
open Go.Vx.TI renaming bytes → X3
open Inhabited renaming default → mb
open Int renaming fdiv → Uk, tmod → We, toNat → zK
open List renaming append_assoc → TG, append_nil → Ue, drop_append → YH, drop_replicate → Xb, drop_zero → U4, eq_nil_iff_forall_not_mem → WV, eq_nil_of_length_eq_zero → Ua, eq_replicate_iff → Wl, ext_getElem? → Uu, flatMap_append → UV, flatMap_singleton → VE, getD_eq_getElem?_getD → To, getElem?_eq_getElem → Ts, getElem?_eq_none → TY, getElem?_map → TN, getElem?_of_mem → Ux, getElem?_range → UO, getElem?_replicate → UT, getElem?_set → U3, getElem?_take → Un, getElem_mem → Uo, length_append → Tt, length_cons → T3, length_map → TH, length_nil → Vj, length_range → U5, length_replicate → T4, length_set → VG, length_singleton → Ud, length_take → TR, length_take_of_le → UD, map → VO, map_append → Uq, map_congr_left → Xa, map_drop → Xt, map_replicate → Vu, map_take → Wg, mem_or_eq_of_mem_set → Xo, range → Uv, replicate → TK, take → UP, take_append_of_le_length → VQ, take_length → Uy, take_replicate → Ya, take_succ_eq_append_getElem → T8
open Nat renaming add_assoc → UF, add_sub_cancel → VK, beq → Tx, beq_eq → Xj, beq_refl → Uz, ble → Tz, ble_eq → Vs, ble_eq_true_of_le → Tv, blt → VL, eq_of_beq_eq_true → TB, le_refl → TD, le_trans → T6, lt_irrefl → V1, lt_or_ge → T5, lt_succ_self → WR, min → UW, min_eq_left → W6, min_self → Yl, mod_one → YK, mul_comm → Ve, mul_one → TZ, not_lt_zero → UR, pow_add → Xq, pow_le_pow_right → TX, sub_self → UJ, zero_add → T0, zero_le → T7, zero_lt_one → VW, zero_mul → Vd
open Prod renaming fst → Ty, snd → Tm
open UInt8 renaming toNat → Tp, toNat_lt → UH
namespace Go.Proofs.Ytefjnofhgkjpmaa
open Go.RowKit Go.Bw Go.Vx
open List (length getD map take drop flatMap replicate)
namespace Vp
theorem KJ {p:Prop}(h:p:=by(have h8:=Fs (l:=l) (k:=k) hc15 om (0+(l.getD (k*1) mb).toNat*1) om om;omega)):p:=h
theorem OE {p:Prop}(h:p:=by(refine decide_eq_true ?_;have h8:=Fs (l:=l) (k:=k) hc15 om (0+(l.getD (k*1) mb).toNat*1) om om;omega)):p:=h
theorem Qi {p:Prop}(h:p:=by(refine aT ?_;(omega))):p:=h
theorem Qj {p:Prop}(h:p:=by show n-(k+1)<n-k;clear next1 last1;omega):p:=h
theorem SX {p:Prop}(h:p:=by((refine aJ ?_ ?_)<;>(repeat' (first|(refine aJ ?_ ?_)|(with_reducible rfl)|(refine decide_eq_true ?_)|(refine Tv ?_)|(refine fx ?_)))<;>(omega))):p:=h
theorem SY {p:Prop}(h:p:=by((refine aJ ?_ ?_)<;>(repeat' (first|(refine aJ ?_ ?_)|(with_reducible rfl)|(refine decide_eq_true ?_)|(refine Tv ?_)|(refine fx ?_)))<;>(have h8:=Fs (l:=l) (k:=k) hc15 om (0+(l.getD (k*1) mb).toNat*1) om om;omega))):p:=h
theorem SZ {p:Prop}(h:p:=by(have h7:=HT (l:=l) (a:=a) hc15 om (0+a*1) om;omega)):p:=h
theorem S4 {p:Prop}(h:p:=by(have h7:=HT (l:=l) (a:=a) hc15 om (0+a*1) om;refine aT ?_;omega)):p:=h
def j7 (f:Nat→Nat):List D:=[ea (f 0),ea (f 1),ea (f 2),ea (f 3),ea (f 4),ea (f 5),ea (f 6),ea (f 7),ea (f 8),ea (f 9),ea (f 10),ea (f 11),ea (f 12),ea (f 13),ea (f 14),ea (f 15),ea (f 16)]
theorem yv (f:Nat→Nat)(n:Nat)(h:n<17):(j7 f)[n]? =some (ea (f n)):=by
 match n,h with
 |0,_=>rfl|1,_=>rfl|2,_=>rfl|3,_=>rfl|4,_=>rfl|5,_=>rfl|6,_=>rfl|7,_=>rfl|8,_=>rfl|9,_=>rfl|10,_=>rfl|11,_=>rfl|12,_=>rfl|13,_=>rfl|14,_=>rfl|15,_=>rfl|16,_=>rfl
 |n+17,h=>exact absurd h (by omega)
theorem CH (f:Nat→Nat)(n:Nat)(h:n<17)(x:Nat):aj (j7 f) n [ea x]=j7 (fun m=>if m=n then x else f m):=by
 match n,h with
 |0,_=>rfl|1,_=>rfl|2,_=>rfl|3,_=>rfl|4,_=>rfl|5,_=>rfl|6,_=>rfl|7,_=>rfl|8,_=>rfl|9,_=>rfl|10,_=>rfl|11,_=>rfl|12,_=>rfl|13,_=>rfl|14,_=>rfl|15,_=>rfl|16,_=>rfl
 |n+17,h=>exact absurd h (by omega)
theorem dQ {f g:Nat→Nat}(h:∀n,n<17→f n=g n):j7 f=j7 g:=by
 unfold j7
 rw[h 0 (by decide),h 1 (by decide),h 2 (by decide),h 3 (by decide),h 4 (by decide),h 5 (by decide),h 6 (by decide),h 7 (by decide),h 8 (by decide),h 9 (by decide),h 10 (by decide),h 11 (by decide),h 12 (by decide),h 13 (by decide),h 14 (by decide),h 15 (by decide),h 16 (by decide)]
def bu (l:List UInt8)(k m:Nat):Nat:=lk l (if m=0 then 0 else(co l m k).length)
theorem jv (l:List UInt8)(k m:Nat):bu l k m=if m=0 then 0 else(co l m k).length:=aw _ _
theorem HO (l:List UInt8)(m:Nat):bu l 0 m=0:=by rw[jv];split<;>rfl
theorem HP (l:List UInt8)(m:Nat):bu l l.length m=aa l m:=by rw[jv,gf];rfl
theorem CI (l:List UInt8)(k m:Nat):bu l k m≤k:=by
 rw[jv];split
 ·exact T7 _
 ·exact jU _ _ _
theorem u4 {l:List UInt8}{k:Nat}(m:Nat):bu l (k+1) m=bu l k m+(if m≠0∧(l.getD k mb).toNat=m then 1 else 0):=by
 rw[jv,jv]
 by_cases h0:m=0
 ·rw[if_pos h0,if_pos h0,if_neg (fun q=>q.1 h0)]
 ·rw[if_neg h0,if_neg h0,dO]
  by_cases h:(l.getD k mb).toNat=m
  ·rw[if_pos h,if_pos ⟨h0,h⟩,Tt];rfl
  ·rw[if_neg h,if_neg (fun q=>h q.2),Ue];rfl
def cG (l:List UInt8)(a m:Nat):Nat:=lk l (if m<a then iZ l m else aa l m)
theorem o9 (l:List UInt8)(a m:Nat):cG l a m=if m<a then iZ l m else aa l m:=aw _ _
def bN (l:List UInt8)(k m:Nat):Nat:=lk l (iZ l m+bu l k m)
theorem gL (l:List UInt8)(k m:Nat):bN l k m=iZ l m+bu l k m:=aw _ _
def u5 (l:List UInt8)(a:Nat):Nat:=lk l (iZ l a)
theorem sx (l:List UInt8)(a:Nat):u5 l a=iZ l a:=aw _ _
def KK (l:List UInt8)(k j:Nat):Nat×Nat:=if j<k∧(l.getD j mb).toNat≠0 then(kC l j,(l.getD j mb).toNat)else(0,0)
def nJ (l:List UInt8)(k:Nat):List (Nat×Nat):=lk l ((Uv l.length).map (KK l k))
theorem pa (l:List UInt8)(k:Nat):nJ l k=(Uv l.length).map (KK l k):=aw _ _
theorem sA (l:List UInt8)(k:Nat):(nJ l k).length=l.length:=by rw[pa,TH,U5]
theorem OF (l:List UInt8):nJ l 0=TK l.length (0,0):=by
 rw[pa]
 apply Uu
 intro i
 rw[TN,UT]
 rcases T5 i l.length with hi|hi
 ·rw[UO hi,if_pos hi];rfl
 ·rw[TY (by simpa using hi),if_neg (by omega)];rfl
theorem HQ {l:List UInt8}{k:Nat}(hk:k<l.length):nJ l (k+1)=if(l.getD k mb).toNat=0 then nJ l k else(nJ l k).set k (kC l k,(l.getD k mb).toNat):=by
 apply Uu
 intro i
 have e:∀j,(nJ l j)[i]? =if i<l.length then some (KK l j i)else none:=fun j=>by
  rw[pa,TN]
  rcases T5 i l.length with hi|hi
  ·rw[UO hi,if_pos hi];rfl
  ·rw[TY (by simpa using hi),if_neg (by omega)];rfl
 by_cases h:(l.getD k mb).toNat=0
 ·rw[if_pos h,e,e]
  split
  ·congr 1;unfold KK
   by_cases hi:i=k
   ·subst hi;rw[if_neg (fun q=>q.2 h),if_neg (fun q=>q.2 h)]
   ·by_cases q:i<k∧(l.getD i mb).toNat≠0
    ·rw[if_pos q,if_pos ⟨by omega,q.2⟩]
    ·rw[if_neg q,if_neg (fun z=>q ⟨by omega,z.2⟩)]
  ·rfl
 ·rw[if_neg h,U3,sA,e,e]
  by_cases hi:k=i
  ·subst hi
   rw[if_pos hk,if_pos rfl,if_pos hk]
   unfold KK;rw[if_pos ⟨WR k,h⟩]
  ·rw[if_neg hi]
   split
   ·congr 1;unfold KK
    by_cases q:i<k∧(l.getD i mb).toNat≠0
    ·rw[if_pos q,if_pos ⟨by omega,q.2⟩]
    ·rw[if_neg q,if_neg (fun z=>q ⟨by omega,z.2⟩)]
   ·rfl
theorem HR {l:List UInt8}(ho:dh l 15=false):nJ l l.length=ae l:=by
 rw[pa,Cv,HM]
 apply Xa
 intro j hj
 have hj:=List.mem_range.1 hj
 have h:=dN ho hj
 unfold KK Rz
 by_cases q:(l.getD j mb).toNat=0
 ·rw[if_neg (fun z=>z.2 q),if_neg (fun z=>z.1 q)]
 ·rw[if_pos ⟨hj,q⟩,if_pos ⟨q,.inl (by omega)⟩]
theorem HS {l:List UInt8}(hc:aC l 15=0){a:Nat}(h:a≤15):iZ l a+aa l a≤2^a:=by
 have ho:=(dw hc).2.1
 have hk:=(dw hc).2.2
 have h1:=wL l a h
 have h2:=uY l (a+1) (16-(a+1))
 rw[show a+1+(16-(a+1))=16 from by omega,OA l ho,h1]at h2
 have h3:(iZ l a+aa l a)*fb 32768 a≤2^a*fb 32768 a:=by
  rw[fV h,←Xq,show a+(15-a)=15 from by omega]
  rw[fV h]at h2
  omega
 exact Nat.le_of_mul_le_mul_right h3 (uS h)
theorem KL {l:List UInt8}(ho:dh l 15=false){a:Nat}(h:16≤a):aa l a=0:=by
 rw[gf];unfold pG
 rw[if_neg (by omega)]
 have:co l a l.length=[]:=by
  rw[WV]
  intro i hi
  have:=fB.1 hi
  have:=dN ho this.1
  omega
 rw[this];rfl
theorem CJ {l:List UInt8}(hc:aC l 15=0){a:Nat}(h:a≤17):iZ l a≤131072∧(a≤16→iZ l a+aa l a≤65536):=by
 have ho:=(dw hc).2.1
 have p:∀b,b≤15→iZ l b+aa l b≤32768:=fun b hb=>T6 (HS hc hb) (TX (n:=2) (by decide) hb)
 have q16:iZ l 16=2*(iZ l 15+aa l 15):=rfl
 have q17:iZ l 17=2*(iZ l 16+aa l 16):=rfl
 have cZ:=KL ho (a:=16) (by decide)
 have p15:=p 15 (by decide)
 rcases T5 a 16 with z|z
 ·have:=p a (by omega);exact⟨by omega,fun _=>by omega⟩
 ·rcases T5 a 17 with y|y
  ·have e:a=16:=by omega
   subst e;exact⟨by omega,fun _=>by omega⟩
  ·have e:a=17:=by omega
   subst e;exact⟨by omega,fun q=>by omega⟩
theorem OG (l:List UInt8):j7 (fun _=>0)=j7 (bu l 0):=dQ fun m _=>(HO l m).symm
theorem KM {l:List UInt8}{k:Nat}(h:(l.getD (k*1) mb).toNat=0):j7 (bu l k)=j7 (bu l (k+1)):=dQ fun m _=>by
 rw[TZ]at h
 rw[u4,if_neg (fun q=>by omega)];rfl
theorem OH {l:List UInt8}{k:Nat}(h:k=l.length):j7 (bu l k)=j7 (aa l):=dQ fun m _=>by rw[h,HP]
theorem OI (l:List UInt8):j7 (aa l)=j7 (cG l 0):=dQ fun m _=>by rw[o9,if_neg (UR m)]
theorem OJ {l:List UInt8}{a:Nat}(h:17≤a):j7 (cG l a)=j7 (bN l 0):=dQ fun m hm=>by rw[o9,if_pos (by omega),gL,HO];rfl
theorem KN {l:List UInt8}{k:Nat}(h:(l.getD (k*1) mb).toNat=0):j7 (bN l k)=j7 (bN l (k+1)):=dQ fun m _=>by
 rw[TZ]at h
 rw[gL,gL,u4,if_neg (fun q=>by omega)];rfl
theorem RE (l:List UInt8)(k:Nat){o:Nat}(h:(l.getD (k*1) mb).toNat=o)(h0:0<o)(h1:o<17):aj (j7 (bu l k)) o [D.v (.int .u32 (((bu l k o:Nat):Int)+1))]=j7 (bu l (k+1)):=by
 rw[TZ]at h
 refine(CH (bu l k) o h1 (bu l k o+1)).trans (dQ fun m _=>?_)
 rw[u4]
 by_cases e:m=o
 ·rw[if_pos e,e,if_pos ⟨by omega,h⟩]
 ·rw[if_neg e,if_neg (fun q=>e (by omega))];rfl
theorem OK (l:List UInt8)(a:Nat){o:Nat}{z:Int}(ho:o=a)(h1:a<17)(hz:z=((u5 l a:Nat):Int)):aj (j7 (cG l a)) o [D.v (.int .u32 z)]=j7 (cG l (a+1)):=by
 subst ho hz
 refine(CH (cG l o) o h1 (u5 l o)).trans (dQ fun m _=>?_)
 rw[o9,o9,sx]
 by_cases e:m=o
 ·rw[if_pos e,e,if_pos (WR o)]
 ·rw[if_neg e]
  by_cases q:m<o
  ·rw[if_pos q,if_pos (by omega)]
  ·rw[if_neg q,if_neg (by omega)]
theorem OL (l:List UInt8)(k:Nat){o:Nat}(h:(l.getD (k*1) mb).toNat=o)(h0:0<o)(h1:o<17):aj (j7 (bN l k)) o [D.v (.int .u32 (((bN l k o:Nat):Int)+1))]=j7 (bN l (k+1)):=by
 rw[TZ]at h
 refine(CH (bN l k) o h1 (bN l k o+1)).trans (dQ fun m _=>?_)
 rw[gL,gL,gL,u4]
 by_cases e:m=o
 ·rw[if_pos e,e,if_pos ⟨by omega,h⟩];rfl
 ·rw[if_neg e,if_neg (fun q=>e (by omega))];rfl
theorem Fs {l:List UInt8}{k:Nat}(hc:aC l 15=0)(hk:k<l.length)(o:Nat)(h:(l.getD (k*1) mb).toNat=o)(h0:0<o):o≤15∧bN l k o=kC l k∧bN l (k+1) o=kC l k+1∧kC l k≤65536∧bu l k o≤k:=by
 rw[TZ]at h
 have ho:=dN (dw hc).2.1 hk
 have h1:o≤15:=by omega
 have e:=yu h (by omega) h1
 have h2:bN l k o=kC l k:=by rw[gL,jv,if_neg (by omega),e]
 have h3:=(CJ hc (a:=o) (by omega)).2 (by omega)
 have h4:bu l (k+1) o=bu l k o+1:=by rw[u4,if_pos ⟨by omega,h⟩]
 have h5:bN l (k+1) o=kC l k+1:=by
  rw[gL,h4,←h2,gL,UF]
 have h6:bu l (k+1) o≤aa l o:=by
  rw[←HP,jv,jv,if_neg (by omega),if_neg (by omega)]
  obtain⟨r,hr⟩:=lm l o (k+1) (l.length-(k+1))
  rw[show k+1+(l.length-(k+1))=l.length from by omega]at hr
  rw[hr,Tt];omega
 refine⟨h1,h2,h5,?_,CI l k o⟩
 rw[←h2,gL];omega
theorem HT {l:List UInt8}{a:Nat}(hc:aC l 15=0)(h:a<17)(o:Nat)(ho:o=a):u5 l a+cG l a o≤65536∧(u5 l a+cG l a o)*2=u5 l (a+1)∧u5 l (a+1)≤131072:=by
 subst ho
 have h1:=(CJ hc (a:=o) (by omega)).2 (by omega)
 have h2:=(CJ hc (a:=o+1) (by omega)).1
 rw[sx,sx,o9,if_neg (V1 o)]
 refine⟨h1,?_,h2⟩
 rw[iZ,Ve]
theorem OM {l:List UInt8}{k:Nat}(hk:k<l.length)(h:(l.getD (k*1) mb).toNat=0):nJ l (k+1)=nJ l k:=by
 rw[TZ]at h;rw[HQ hk,if_pos h]
theorem ON {l:List UInt8}{k:Nat}(hk:k<l.length)(h:0<(l.getD (k*1) mb).toNat):nJ l (k+1)=(nJ l k).set k (kC l k,(l.getD k mb).toNat):=by
 rw[TZ]at h;rw[HQ hk,if_neg (by omega)]
theorem Tk {l:List UInt8}{k:Nat}(hc:aC l 15=0)(hk:k<l.length)(h:0<(l.getD (k*1) mb).toNat):aj ((nJ l k).flatMap mZ) (k*2) [D.v (.int .u32 (((bN l (k+1) (l.getD k mb).toNat:Nat):Int)-1)),D.v (.int .u8 (((l.getD k mb).toNat:Nat):Int))]=(nJ l (k+1)).flatMap mZ:=by
 have h2:=Fs hc hk (l.getD k mb).toNat (by rw[TZ]) (by rwa [TZ]at h)
 rw[ON hk h,h2.2.2.1,show(((kC l k+1:Nat):Int)-1)=((kC l k:Nat):Int)from by omega]
 exact Fi (c:=(kC l k,(l.getD k mb).toNat)) (by rw[sA];exact hk) (Ve k 2)
theorem Ft (l:List UInt8)(n:Nat)(hn:n=l.length)(m:Nat)(hm:1≤m∧m≤15)(hc:aC l m=0):S0 80 [.sl false n 1 (l.map dB),nD m] [] (.tup [.ref 0 0 0 n 2,iD 0]) [⟨(ae l).flatMap mZ, 198,true⟩]:=by
 have hL:=(dw hc).1
 have hc15:=(iL hm.2 hc).1
 have ho:=(dw hc15).2.1
 refine SpecH.run T_ok ai Try.func80 rfl rfl rfl ⟨iT (fun _=>rfl) _,trivial⟩ rfl 1000 64 (fun R ok=>(.s 5 (.cl 86 false [] (.fn Q9 (@sj (l) (n) om om (m) om)) (.s 4 (.f ((↑(aC l m):Int) !=0) (by(simp <;>(omega))) (.s 8 (.blk 80 80 (Tq [uI 0,uI 0,uI 0,uI 0,uI 0,uI 0,uI 0,uI 0,uI 0,uI 0,uI 0,uI 0,uI 0,uI 0,uI 0,uI 0,uI 0] 195 false) (Tq [ak (bu l 0 0),ak (bu l 0 1),ak (bu l 0 2),ak (bu l 0 3),ak (bu l 0 4),ak (bu l 0 5),ak (bu l 0 6),ak (bu l 0 7),ak (bu l 0 8),ak (bu l 0 9),ak (bu l 0 10),ak (bu l 0 11),ak (bu l 0 12),ak (bu l 0 13),ak (bu l 0 14),ak (bu l 0 15),ak (bu l 0 16)] 195 false) (by(exact ay (OG l))) (Hn.inl T_ok ai false 20 80 (ap Try.prog 104 0) (fun(x:(k:Nat)×'(hk:k≤n)×'Unit)=>match x with|⟨k,hk,_⟩=>TJ [(2,TF 80 80 0),(5,TL false n 1 (map dB l)),(6,zN n),(7,nD k)] [⟨80,80,80,80,.c ⟨j7 (bu l k),195,false⟩⟩] 88) (fun(x:(k:Nat)×'(hk:k≤n)×'Unit)=>match x with|⟨k,hk,_⟩=>n-k) [⟨Unit,.exit 0,fun x=>match x with|()=>TJ [(2,TF 80 80 0),(5,TL false n 1 (map dB l)),(6,zN n)] [⟨80,80,80,80,.c ⟨j7 (aa l),195,false⟩⟩] 88⟩] 1000 64 (fun|⟨k,hk,_⟩,Q,next1,last1=>(.s 2 (.bd ((k:Int)<n) (fun p0 p0f=>(.s 1 (.chk (true&&decide ((k:Int)<n)&&true) SX (.s 2 (.opt ((map dB l)[k*1]?) (dB (getD l (k*1) mb)) (aq _ _ om) (.s 4 (.bd (0<(↑(Tp (getD l (k*1) mb)):Int)) (fun p1 p1f=>(.s 2 (.chk (true&&decide ((↑(Tp (getD l (k*1) mb)):Int)<(↑17:Int))) OE (.s 3 (.opt ((j7 (bu l k))[0+Tp (getD l (k*1) mb)*1]?) (ea (bu l k (0+Tp (getD l (k*1) mb)*1))) (@yv (bu l k) (0+Tp (getD l (k*1) mb)*1) KJ) (.s 2 (.opt (ar .u32 ((↑(bu l k (0+Tp (getD l (k*1) mb)*1)):Int)+1)) (uI ((↑(bu l k (0+Tp (getD l (k*1) mb)*1)):Int)+1)) (aE (by(have h9:=CI l k (0+(l.getD (k*1) mb).toNat*1);omega))) (.s 1 (.chk (true&&decide ((↑(Tp (getD l (k*1) mb)):Int)<(↑17:Int))) OE (.s 2 (.chk (true&&Tz (0+Tp (getD l (k*1) mb)*1+1) 17) SY (.lst (aj [ak (bu l k 0),ak (bu l k 1),ak (bu l k 2),ak (bu l k 3),ak (bu l k 4),ak (bu l k 5),ak (bu l k 6),ak (bu l k 7),ak (bu l k 8),ak (bu l k 9),ak (bu l k 10),ak (bu l k 11),ak (bu l k 12),ak (bu l k 13),ak (bu l k 14),ak (bu l k 15),ak (bu l k 16)] (0+Tp (getD l (k*1) mb)*1) [uI ((↑(bu l k (0+Tp (getD l (k*1) mb)*1)):Int)+1)]) ([ak (bu l (k+1) 0),ak (bu l (k+1) 1),ak (bu l (k+1) 2),ak (bu l (k+1) 3),ak (bu l (k+1) 4),ak (bu l (k+1) 5),ak (bu l (k+1) 6),ak (bu l (k+1) 7),ak (bu l (k+1) 8),ak (bu l (k+1) 9),ak (bu l (k+1) 10),ak (bu l (k+1) 11),ak (bu l (k+1) 12),ak (bu l (k+1) 13),ak (bu l (k+1) 14),ak (bu l (k+1) 15),ak (bu l (k+1) 16)]) (@RE l k (0+Tp (getD l (k*1) mb)*1) om om KJ) (.s 2 (.ow ((k:Int)+1) (.s 1 (.val 7 (zI ((k:Int)+1)) (zN (k+1)) Qi (Hn.next next1 ⟨(k+1),om,⟨⟩⟩ Qj [(80,80)] ro))))))))))))))))) (fun p1 p1f=>(.s 2 (.ow ((k:Int)+1) (.s 1 (.val 7 (zI ((k:Int)+1)) (zN (k+1)) Qi (.blk 80 80 (Tq [ak (bu l k 0),ak (bu l k 1),ak (bu l k 2),ak (bu l k 3),ak (bu l k 4),ak (bu l k 5),ak (bu l k 6),ak (bu l k 7),ak (bu l k 8),ak (bu l k 9),ak (bu l k 10),ak (bu l k 11),ak (bu l k 12),ak (bu l k 13),ak (bu l k 14),ak (bu l k 15),ak (bu l k 16)] 195 false) (Tq [ak (bu l (k+1) 0),ak (bu l (k+1) 1),ak (bu l (k+1) 2),ak (bu l (k+1) 3),ak (bu l (k+1) 4),ak (bu l (k+1) 5),ak (bu l (k+1) 6),ak (bu l (k+1) 7),ak (bu l (k+1) 8),ak (bu l (k+1) 9),ak (bu l (k+1) 10),ak (bu l (k+1) 11),ak (bu l (k+1) 12),ak (bu l (k+1) 13),ak (bu l (k+1) 14),ak (bu l (k+1) 15),ak (bu l (k+1) 16)] 195 false) (by(exact ay (KM (by(omega))))) (Hn.next next1 ⟨(k+1),om,⟨⟩⟩ Qj [(80,80)] ro)))))))))))))) (fun p0 p0f=>(.blk 80 80 (Tq [ak (bu l k 0),ak (bu l k 1),ak (bu l k 2),ak (bu l k 3),ak (bu l k 4),ak (bu l k 5),ak (bu l k 6),ak (bu l k 7),ak (bu l k 8),ak (bu l k 9),ak (bu l k 10),ak (bu l k 11),ak (bu l k 12),ak (bu l k 13),ak (bu l k 14),ak (bu l k 15),ak (bu l k 16)] 195 false) (Tq [ak (aa l 0),ak (aa l 1),ak (aa l 2),ak (aa l 3),ak (aa l 4),ak (aa l 5),ak (aa l 6),ak (aa l 7),ak (aa l 8),ak (aa l 9),ak (aa l 10),ak (aa l 11),ak (aa l 12),ak (aa l 13),ak (aa l 14),ak (aa l 15),ak (aa l 16)] 195 false) (by(exact ay (OH (by(omega))))) (Hn.last last1 0 (():Unit) rfl [(80,80)] ro)))))) (fun|⟨k,hk,_⟩=>by kernel_rfl) ⟨(0),om,⟨⟩⟩ [(80,80)] ro (bY (fun|()=>(.s 19 (.val 2 (uI 0) (ak (u5 l 0)) (by(rw[sx];rfl)) (.blk 120 120 (Tq [ak (aa l 0),ak (aa l 1),ak (aa l 2),ak (aa l 3),ak (aa l 4),ak (aa l 5),ak (aa l 6),ak (aa l 7),ak (aa l 8),ak (aa l 9),ak (aa l 10),ak (aa l 11),ak (aa l 12),ak (aa l 13),ak (aa l 14),ak (aa l 15),ak (aa l 16)] 195 false) (Tq [ak (cG l 0 0),ak (cG l 0 1),ak (cG l 0 2),ak (cG l 0 3),ak (cG l 0 4),ak (cG l 0 5),ak (cG l 0 6),ak (cG l 0 7),ak (cG l 0 8),ak (cG l 0 9),ak (cG l 0 10),ak (cG l 0 11),ak (cG l 0 12),ak (cG l 0 13),ak (cG l 0 14),ak (cG l 0 15),ak (cG l 0 16)] 195 false) (by(exact ay (OI l))) (Hn.inl T_ok ai false 21 144 (ap Try.prog 105 0) (fun(x:(a:Nat)×'(ha:a≤17)×'Unit)=>match x with|⟨a,ha,_⟩=>TJ [(0,TF 120 120 0),(2,ea (u5 l a)),(4,nD a)] [⟨80,80,80,80,.b ⟨[ak (aa l 0),ak (aa l 1),ak (aa l 2),ak (aa l 3),ak (aa l 4),ak (aa l 5),ak (aa l 6),ak (aa l 7),ak (aa l 8),ak (aa l 9),ak (aa l 10),ak (aa l 11),ak (aa l 12),ak (aa l 13),ak (aa l 14),ak (aa l 15),ak (aa l 16)],195,false⟩⟩,⟨120,120,120,120,.c ⟨j7 (cG l a),195,false⟩⟩] 160) (fun(x:(a:Nat)×'(ha:a≤17)×'Unit)=>match x with|⟨a,ha,_⟩=>17-a) [⟨Unit,.exit 0,fun x=>match x with|()=>TJ [(0,TF 120 120 0)] [⟨80,80,80,80,.b ⟨[ak (aa l 0),ak (aa l 1),ak (aa l 2),ak (aa l 3),ak (aa l 4),ak (aa l 5),ak (aa l 6),ak (aa l 7),ak (aa l 8),ak (aa l 9),ak (aa l 10),ak (aa l 11),ak (aa l 12),ak (aa l 13),ak (aa l 14),ak (aa l 15),ak (aa l 16)],195,false⟩⟩,⟨120,120,120,120,.c ⟨j7 (bN l 0),195,false⟩⟩] 160⟩] 1000 64 (fun|⟨a,ha,_⟩,Q,next1,last1=>(.s 2 (.bd ((a:Int)<17) (fun p2 p2f=>(.s 10 (.chk (true&&decide ((a:Int)<(↑17:Int))) aD (.s 3 (.opt ((j7 (cG l a))[0+a*1]?) (ea (cG l a (0+a*1))) (@yv (cG l a) (0+a*1) om) (.s 2 (.opt (ar .u32 ((↑(u5 l a):Int)+(↑(cG l a (0+a*1)):Int))) (uI ((↑(u5 l a):Int)+(↑(cG l a (0+a*1)):Int))) (aE SZ) (.s 2 (.opt (ar .u32 (((↑(u5 l a):Int)+(↑(cG l a (0+a*1)):Int))*2)) (uI (((↑(u5 l a):Int)+(↑(cG l a (0+a*1)):Int))*2)) (aE SZ) (.s 4 (.chk (true&&decide ((a:Int)<(↑17:Int))) aD (.s 2 (.chk (true&&Tz (0+a*1+1) 17) (by(refine Tv ?_;(omega))) (.lst (aj [ak (cG l a 0),ak (cG l a 1),ak (cG l a 2),ak (cG l a 3),ak (cG l a 4),ak (cG l a 5),ak (cG l a 6),ak (cG l a 7),ak (cG l a 8),ak (cG l a 9),ak (cG l a 10),ak (cG l a 11),ak (cG l a 12),ak (cG l a 13),ak (cG l a 14),ak (cG l a 15),ak (cG l a 16)] (0+a*1) [ak (u5 l a)]) ([ak (cG l (a+1) 0),ak (cG l (a+1) 1),ak (cG l (a+1) 2),ak (cG l (a+1) 3),ak (cG l (a+1) 4),ak (cG l (a+1) 5),ak (cG l (a+1) 6),ak (cG l (a+1) 7),ak (cG l (a+1) 8),ak (cG l (a+1) 9),ak (cG l (a+1) 10),ak (cG l (a+1) 11),ak (cG l (a+1) 12),ak (cG l (a+1) 13),ak (cG l (a+1) 14),ak (cG l (a+1) 15),ak (cG l (a+1) 16)]) (@OK l a (0+a*1) ((↑(u5 l a):Int)) om om om) (.s 2 (.ow ((a:Int)+1) (.s 1 (.val 2 (uI (((↑(u5 l a):Int)+(↑(cG l a (0+a*1)):Int))*2)) (ak (u5 l (a+1))) S4 (.val 4 (zI ((a:Int)+1)) (zN (a+1)) S4 (Hn.next next1 ⟨(a+1),om,⟨⟩⟩ (by show 17-(a+1)<17-a;clear next1 last1;omega) [(80,80),(120,120)] ro)))))))))))))))))))) (fun p2 p2f=>(.blk 120 120 (Tq [ak (cG l a 0),ak (cG l a 1),ak (cG l a 2),ak (cG l a 3),ak (cG l a 4),ak (cG l a 5),ak (cG l a 6),ak (cG l a 7),ak (cG l a 8),ak (cG l a 9),ak (cG l a 10),ak (cG l a 11),ak (cG l a 12),ak (cG l a 13),ak (cG l a 14),ak (cG l a 15),ak (cG l a 16)] 195 false) (Tq [ak (bN l 0 0),ak (bN l 0 1),ak (bN l 0 2),ak (bN l 0 3),ak (bN l 0 4),ak (bN l 0 5),ak (bN l 0 6),ak (bN l 0 7),ak (bN l 0 8),ak (bN l 0 9),ak (bN l 0 10),ak (bN l 0 11),ak (bN l 0 12),ak (bN l 0 13),ak (bN l 0 14),ak (bN l 0 15),ak (bN l 0 16)] 195 false) (by(exact ay (OJ (by(omega))))) (Hn.last last1 0 (():Unit) rfl [(80,80),(120,120)] ro)))))) (fun|⟨a,ha,_⟩=>by kernel_rfl) ⟨(0),om,⟨⟩⟩ [(80,80),(120,120)] ro (bY (fun|()=>(.s 3 (.chk (true&&decide ((n:Int)≤n)&&true&&true&&true&&true&&decide ((↑(X3 ya):Int)*(n:Int)≤140737488355328)) (by(have h9:((ya.bytes:Nat):Int)=8:=rfl;rw[h9];simp;omega)) (.s 4 (.blk 184 184 (Tq (dJ [uI 0,bI 0] (n*2)) 198 true) (Tq (flatMap mZ (nJ l 0)) 198 true) (by(refine ay ?_;rw[Kz,OF,hn])) (Hn.inl T_ok ai false 39 0 (ap Try.prog 80 0) (fun(x:(k:Nat)×'(hk:k≤n)×'Unit)=>match x with|⟨k,hk,_⟩=>TJ [(7,TF 0 0 0),(8,Tu 8 8 0 n 2),(23,TL false n 1 (map dB l)),(24,zN n),(25,nD k)] [⟨0,0,120,120,.c ⟨j7 (bN l k),195,false⟩⟩,⟨8,8,184,184,.b ⟨(nJ l k).flatMap mZ,198,true⟩⟩] 16) (fun(x:(k:Nat)×'(hk:k≤n)×'Unit)=>match x with|⟨k,hk,_⟩=>n-k) [⟨Unit,.exit 0,fun x=>match x with|()=>TJ [(7,TF 0 0 0),(8,Tu 8 8 0 n 2),(23,TL false n 1 (map dB l)),(24,zN n)] [⟨8,8,184,184,.b ⟨(ae l).flatMap mZ,198,true⟩⟩] 16⟩] 1000 64 (fun|⟨k,hk,_⟩,Q,next1,last1=>(.s 2 (.bd ((k:Int)<n) (fun p3 p3f=>(.s 2 (.chk (true&&decide ((k:Int)<n)&&true) SX (.s 2 (.opt ((map dB l)[k*1]?) (dB (getD l (k*1) mb)) (aq _ _ om) (.s 5 (.bd (0<(↑(Tp (getD l (k*1) mb)):Int)) (fun p4 p4f=>(.s 12 (.chk (true&&decide ((↑(Tp (getD l (k*1) mb)):Int)<(↑17:Int))) OE (.s 3 (.opt ((j7 (bN l k))[0+Tp (getD l (k*1) mb)*1]?) (ea (bN l k (0+Tp (getD l (k*1) mb)*1))) (@yv (bN l k) (0+Tp (getD l (k*1) mb)*1) KJ) (.s 2 (.opt (ar .u32 ((↑(bN l k (0+Tp (getD l (k*1) mb)*1)):Int)+1)) (uI ((↑(bN l k (0+Tp (getD l (k*1) mb)*1)):Int)+1)) (aE KJ) (.s 2 (.chk (true&&decide ((↑(Tp (getD l (k*1) mb)):Int)<(↑17:Int))) OE (.s 2 (.chk (true&&Tz (0+Tp (getD l (k*1) mb)*1+1) 17) SY (.lst (aj [ak (bN l k 0),ak (bN l k 1),ak (bN l k 2),ak (bN l k 3),ak (bN l k 4),ak (bN l k 5),ak (bN l k 6),ak (bN l k 7),ak (bN l k 8),ak (bN l k 9),ak (bN l k 10),ak (bN l k 11),ak (bN l k 12),ak (bN l k 13),ak (bN l k 14),ak (bN l k 15),ak (bN l k 16)] (0+Tp (getD l (k*1) mb)*1) [uI ((↑(bN l k (0+Tp (getD l (k*1) mb)*1)):Int)+1)]) ([ak (bN l (k+1) 0),ak (bN l (k+1) 1),ak (bN l (k+1) 2),ak (bN l (k+1) 3),ak (bN l (k+1) 4),ak (bN l (k+1) 5),ak (bN l (k+1) 6),ak (bN l (k+1) 7),ak (bN l (k+1) 8),ak (bN l (k+1) 9),ak (bN l (k+1) 10),ak (bN l (k+1) 11),ak (bN l (k+1) 12),ak (bN l (k+1) 13),ak (bN l (k+1) 14),ak (bN l (k+1) 15),ak (bN l (k+1) 16)]) (@OL l k (0+Tp (getD l (k*1) mb)*1) om om KJ) (.s 4 (.chk (true&&decide ((↑(Tp (getD l (k*1) mb)):Int)<(↑17:Int))) OE (.s 3 (.opt ((j7 (bN l (k+1)))[0+Tp (getD l (k*1) mb)*1]?) (ea (bN l (k+1) (0+Tp (getD l (k*1) mb)*1))) (@yv (bN l (k+1)) (0+Tp (getD l (k*1) mb)*1) KJ) (.s 2 (.opt (ar .u32 ((↑(bN l (k+1) (0+Tp (getD l (k*1) mb)*1)):Int)-1)) (uI ((↑(bN l (k+1) (0+Tp (getD l (k*1) mb)*1)):Int)-1)) (aE KJ) (.s 10 (.chk (true&&decide ((k:Int)<n)) aD (.s 1 (.chk (true&&Tz (0+k*2+2) (length (flatMap mZ (nJ l k)))) (by(rw[a9 (k:=2) (fun _=>rfl),sA];simp only[Ub];refine Tv ?_;(omega))) (.lst (aj (flatMap mZ (nJ l k)) (0+k*2) [uI ((↑(bN l (k+1) (0+Tp (getD l (k*1) mb)*1)):Int)-1),aQ (Tp (getD l (k*1) mb))]) (aj (flatMap mZ (nJ l k)) (k*2) [uI ((↑(bN l (k+1) (Tp (getD l k mb))):Int)-1),aQ (Tp (getD l k mb))]) (by(simp;done)) (.s 2 (.ow ((k:Int)+1) (.s 1 (.val 25 (zI ((k:Int)+1)) (zN (k+1)) Qi (.blk 8 8 (Tq (aj (flatMap mZ (nJ l k)) (k*2) [uI ((↑(bN l (k+1) (Tp (getD l k mb))):Int)-1),aQ (Tp (getD l k mb))]) 198 true) (Tq (flatMap mZ (nJ l (k+1))) 198 true) (by(exact ay (Tk hc15 (by(omega)) (by(omega))))) (Hn.next next1 ⟨(k+1),om,⟨⟩⟩ Qj [(0,0),(8,8)] ro))))))))))))))))))))))))))))) (fun p4 p4f=>(.s 2 (.ow ((k:Int)+1) (.s 1 (.val 25 (zI ((k:Int)+1)) (zN (k+1)) Qi (.blk 0 0 (Tq [ak (bN l k 0),ak (bN l k 1),ak (bN l k 2),ak (bN l k 3),ak (bN l k 4),ak (bN l k 5),ak (bN l k 6),ak (bN l k 7),ak (bN l k 8),ak (bN l k 9),ak (bN l k 10),ak (bN l k 11),ak (bN l k 12),ak (bN l k 13),ak (bN l k 14),ak (bN l k 15),ak (bN l k 16)] 195 false) (Tq [ak (bN l (k+1) 0),ak (bN l (k+1) 1),ak (bN l (k+1) 2),ak (bN l (k+1) 3),ak (bN l (k+1) 4),ak (bN l (k+1) 5),ak (bN l (k+1) 6),ak (bN l (k+1) 7),ak (bN l (k+1) 8),ak (bN l (k+1) 9),ak (bN l (k+1) 10),ak (bN l (k+1) 11),ak (bN l (k+1) 12),ak (bN l (k+1) 13),ak (bN l (k+1) 14),ak (bN l (k+1) 15),ak (bN l (k+1) 16)] 195 false) (by(exact ay (KN (by(omega))))) (.blk 8 8 (Tq (flatMap mZ (nJ l k)) 198 true) (Tq (flatMap mZ (nJ l (k+1))) 198 true) (by(rw[OM (by(omega)) (by(omega))])) (Hn.next next1 ⟨(k+1),om,⟨⟩⟩ Qj [(0,0),(8,8)] ro))))))))))))))) (fun p3 p3f=>(.blk 8 8 (Tq (flatMap mZ (nJ l k)) 198 true) (Tq (flatMap mZ (ae l)) 198 true) (by(rw[show k=l.length from by(omega),HR ho])) (Hn.last last1 0 (():Unit) rfl [(8,8)] ro)))))) (fun|⟨k,hk,_⟩=>by kernel_rfl) ⟨(0),om,⟨⟩⟩ [(120,120),(184,184)] ro (bY (fun|()=>(.s 3 (.out [8] [8] (Uw [Tu 0 0 0 n 2,zI 0]) [Tq (flatMap mZ (ae l)) 198 true] R (ok _ _ wr wr)))))))))))))))))))))))))) kr
def yw (l:List UInt8)(m:Nat):Nat→Nat
 |0=>0
 |n+1=>if m<n+1∧l.getD n mb=0 then yw l m n else n+1
def jx (l:List UInt8)(m:Nat):Nat:=lk l (yw l m l.length)
theorem pb (l:List UInt8)(m:Nat):jx l m=yw l m l.length:=aw _ _
theorem RF {l:List UInt8}{m n T u:Nat}(hR:yw l m n=T)(h:m<n)(hu:u=n-1)(h2:(((l.getD u mb).toNat:Nat):Int)=0):yw l m (n-1)=T:=by
 subst hu
 obtain⟨g,rfl⟩:∃g,n=g+1:=⟨n-1,by omega⟩
 rw[←hR,yw,if_pos ⟨by omega,HD h2⟩];rfl
theorem OO {l:List UInt8}{m n T:Nat}(hR:yw l m n=T)(h:¬(m<n∧(l.getD (n-1) mb).toNat=0)):n=T:=by
 rw[←hR]
 cases n with
 |zero=>rfl
 |succ n=>exact(if_neg (fun q=>h ⟨by omega,by rw[VK,q.2];rfl⟩)).symm
theorem CK {l:List UInt8}{m:Nat}:∀n,yw l m n≤n∧(m≤n→m≤yw l m n)
 |0=>⟨TD _,id⟩
 |n+1=>by
  rw[yw];split
  ·have:=CK (l:=l) (m:=m) n;omega
  ·omega
theorem mw (l:List UInt8)(m:Nat):jx l m≤l.length∧(m≤l.length→m≤jx l m):=by rw[pb];exact CK _
structure Nm where
 v:Nat
 n:Nat
 deriving Inhabited
abbrev bh (x:Nm):List D:=[ea x.v,nD x.n]
theorem dA (l:List Nm):(l.flatMap bh).length=l.length*2:=a9 (k:=2) (fun _=>rfl) l
theorem cX (l m:List Nm):(l++m).flatMap bh=l.flatMap bh++m.flatMap bh:=UV
theorem KO (l:List UInt8)(L:Nat)(hL:L=l.length)(hL2:L≤320)(m:Nat)(hm:m≤1000)(T:Nat)(hT:jx l m=T):S0 77 [.sl false L 1 (l.map dB),nD m] [] (nD T) []:=by
 refine SpecH.run T_ok ai Try.func77 rfl rfl rfl trivial rfl 1000 64 (fun R ok=>(.s 4 (Hn.inl T_ok ai false 22 0 (ap Try.prog 77 0) (fun(x:(n:Nat)×'(hn:n≤L)×'(hR:yw l m n=T)×'Unit)=>match x with|⟨n,hn,hR,_⟩=>TJ [(0,TL false L 1 (map dB l)),(1,zN m),(5,nD n)] [] 0) (fun(x:(n:Nat)×'(hn:n≤L)×'(hR:yw l m n=T)×'Unit)=>match x with|⟨n,hn,hR,_⟩=>n) [⟨Unit,.exit 0,fun x=>match x with|()=>TJ [(0,TL false L 1 (map dB l)),(1,zN m),(5,nD T)] [] 0⟩] 1000 64 (fun|⟨n,hn,hR,_⟩,Q,next1,last1=>(.s 6 (.bd ((m:Int)<n) (fun p0 p0f=>(.s 5 (.ow ((n:Int)-1) (.s 2 (.chk (decide (0≤(n:Int)-1)&&decide ((n:Int)-1<L)&&true) (by((refine aJ ?_ ?_)<;>(repeat' (first|(refine aJ ?_ ?_)|(with_reducible rfl)|(refine decide_eq_true ?_)|(refine Tv ?_)|(refine fx ?_)))<;>(omega))) (.s 3 (.opt ((map dB l)[zK ((n:Int)-1)*1]?) (dB (getD l (zK ((n:Int)-1)*1) mb)) (aq _ _ om) (.s 4 (.br ((↑(Tp (getD l (zK ((n:Int)-1)*1) mb)):Int)==0) (fun p1=>have p1f:=eq_of_beq p1;(.s 3 (.ow ((n:Int)-1) (.s 1 (.val 5 (zI ((n:Int)-1)) (zN (n-1)) (by(refine aT ?_;omega)) (Hn.next next1 ⟨(n-1),om,(by(simp only[TZ]at *;exact RF hR om (u:=((n:Int)-1).toNat) om om)),⟨⟩⟩ (by show n-1<n;clear next1 last1;omega) [] ro)))))) (fun p1=>have p1f:=am p1;(.val 5 (zN n) (zN T) (by(simp only[TZ]at *;rw[OO hR (by rw[show((n:Int)-1).toNat=n-1 from by omega]at *;omega)])) (Hn.last last1 0 (():Unit) rfl [] ro)))))))))))) (fun p0 p0f=>(.s 12 (.val 5 (zN n) (zN T) (by(rw[OO hR om])) (Hn.last last1 0 (():Unit) rfl [] ro))))))) (fun|⟨n,hn,hR,_⟩=>by kernel_rfl) ⟨(L),om,(by(rw[hL];exact(pb l m).symm.trans hT)),⟨⟩⟩ [] ro (bY (fun|()=>(.s 2 (.out [] [] (zN T) [] R (ok _ _ wr wr)))))))) kr
def qQ (X:List Nm):Nat→Nat
 |0=>0
 |i+1=>qQ X i+(X.getD i mb).n
def Fu (X:List Nm):Nat:=lk X (qQ X X.length)
theorem wN (X:List Nm):Fu X=qQ X X.length:=aw _ _
theorem HU {X:List Nm}(h:∀i,(X.getD i mb).n≤32):∀i,qQ X i≤32*i
 |0=>TD _
 |i+1=>by have:=HU h i;have:=h i;rw[qQ];omega
theorem OP {p:Prop}(h:p:=by(simp;have h9:=hJ (v:=v) (c:=c) (m:=m) om;have h8:=mn m (c-m);omega)):p:=h
theorem OQ {p:Prop}(h:p:=by(have h9:=hJ (v:=v) (c:=c) (m:=m) om;have h8:=mn m (c-m);omega)):p:=h
theorem OR (c:Nat)(hc:c≤100000):S0 97 [.v (.int .u64 1),.v (.int .u64 c)] [] (.tup [.v (.int .u64 0),.v (.int .u64 c)]) []:=by
 refine SpecH.run T_ok ai Try.func97 rfl rfl rfl trivial rfl 1000 64 (fun R ok=>(.s 22 (.opt (b4 Vn (TM Vn (↑(Uc (TA 64 (c:Int)&&&TA 64 4294967295)):Int))) (D.v (UE .u64 ((c:Int)%4294967296))) (aS (@mW 32 (4294967296:Int) ((c:Int)) (4294967295) om om om om)) (.s 4 (.opt (b4 Vn (Uk (c:Int) 4294967296)) (D.v (UE .u64 ((c:Int)/4294967296))) (aS (@iF  ((c:Int)) (4294967296) om)) (.s 5 (.opt (ar .u64 (1*((c:Int)%4294967296))) (D.v (UE .u64 (1*((c:Int)%4294967296)))) (bC om) (.s 5 (.opt (ar .u64 (0*((c:Int)%4294967296))) (D.v (UE .u64 (0*((c:Int)%4294967296)))) (bC om) (.s 3 (.opt (b4 Vn (Uk (1*((c:Int)%4294967296)) 4294967296)) (D.v (UE .u64 (1*((c:Int)%4294967296)/4294967296))) (aS (@iF  (1*((c:Int)%4294967296)) (4294967296) om)) (.s 2 (.opt (ar .u64 (0*((c:Int)%4294967296)+1*(c%4294967296)/4294967296)) (D.v (UE .u64 (0*((c:Int)%4294967296)+1*(c%4294967296)/4294967296))) (bC om) (.s 4 (.opt (b4 Vn (TM Vn (↑(Uc (TA 64 (0*((c:Int)%4294967296)+1*(c%4294967296)/4294967296)&&&TA 64 4294967295)):Int))) (D.v (UE .u64 ((0*((c:Int)%4294967296)+1*(c%4294967296)/4294967296)%4294967296))) (aS (@mW 32 (4294967296:Int) (0*((c:Int)%4294967296)+1*(c%4294967296)/4294967296) (4294967295) om om om om)) (.s 4 (.opt (b4 Vn (Uk (0*((c:Int)%4294967296)+1*(c%4294967296)/4294967296) 4294967296)) (D.v (UE .u64 ((0*((c:Int)%4294967296)+1*(c%4294967296)/4294967296)/4294967296))) (aS (@iF  (0*((c:Int)%4294967296)+1*(c%4294967296)/4294967296) (4294967296) om)) (.s 6 (.opt (ar .u64 (1*((c:Int)/4294967296))) (D.v (UE .u64 (1*((c:Int)/4294967296)))) (bC om) (.s 2 (.opt (ar .u64 ((0*((c:Int)%4294967296)+1*(c%4294967296)/4294967296)%4294967296+1*(c/4294967296))) (D.v (UE .u64 ((0*((c:Int)%4294967296)+1*(c%4294967296)/4294967296)%4294967296+1*(c/4294967296)))) (bC om) (.s 5 (.opt (ar .u64 (0*((c:Int)/4294967296))) (D.v (UE .u64 (0*((c:Int)/4294967296)))) (bC om) (.s 3 (.opt (ar .u64 (0*((c:Int)/4294967296)+(0*(c%4294967296)+1*(c%4294967296)/4294967296)/4294967296)) (D.v (UE .u64 (0*((c:Int)/4294967296)+(0*(c%4294967296)+1*(c%4294967296)/4294967296)/4294967296))) (bC om) (.s 3 (.opt (b4 Vn (Uk ((0*((c:Int)%4294967296)+1*(c%4294967296)/4294967296)%4294967296+1*(c/4294967296)) 4294967296)) (D.v (UE .u64 (((0*((c:Int)%4294967296)+1*(c%4294967296)/4294967296)%4294967296+1*(c/4294967296))/4294967296))) (aS (@iF  ((0*((c:Int)%4294967296)+1*(c%4294967296)/4294967296)%4294967296+1*(c/4294967296)) (4294967296) om)) (.s 2 (.opt (ar .u64 (0*((c:Int)/4294967296)+(0*(c%4294967296)+1*(c%4294967296)/4294967296)/4294967296+((0*(c%4294967296)+1*(c%4294967296)/4294967296)%4294967296+1*(c/4294967296))/4294967296)) (D.v (UE .u64 (0*((c:Int)/4294967296)+(0*(c%4294967296)+1*(c%4294967296)/4294967296)/4294967296+((0*(c%4294967296)+1*(c%4294967296)/4294967296)%4294967296+1*(c/4294967296))/4294967296))) (bC om) (.s 5 (.opt (ar .u64 (1*(c:Int))) (D.v (UE .u64 (1*(c:Int)))) (bC om) (.s 12 (.out [] [] (Uw [D.v (UE .u64 (0*((c:Int)/4294967296)+(0*(c%4294967296)+1*(c%4294967296)/4294967296)/4294967296+((0*(c%4294967296)+1*(c%4294967296)/4294967296)%4294967296+1*(c/4294967296))/4294967296)),D.v (UE .u64 (1*(c:Int)))]) [] R (ok _ _ (by(simp <;>(omega))) wr)))))))))))))))))))))))))))))))))) kr
def da (v:UInt8)(c m:Nat):List UInt8:=TK m v++TK (c-m) 0
theorem hJ {v:UInt8}{c m:Nat}(h:m≤c):(da v c m).length=c:=by unfold da;simp;omega
theorem mn (a b:Nat):UW a b≤a∧UW a b≤b∧(1≤a→1≤b→1≤UW a b):=by
 show min a b≤a∧min a b≤b∧(1≤a→1≤b→1≤min a b)
 omega
theorem RG {L:List D}{m:Nat}:(bif true&&Tx (m*1) L.length then L else(L.drop 0).take (m*1))=L.take m:=by
 rw[TZ,U4]
 cases h:(true&&Tx m L.length)with
 |false=>rfl
 |true=>
  have:=TB ((Ub _).symm.trans h)
  rw[cond_true,this,Uy]
theorem KP {v:UInt8}{c:Nat}(h:1≤c):aj (dJ [D.v (.int .u8 0)] c) 0 (UP (UW 1 c) [D.v (.int .u8 ((v.toNat:Nat):Int))])=(da v c 1).map dB:=by
 have e:UW 1 c=1:=by show min 1 c=1;omega
 have r:dJ [D.v (.int .u8 0)] c=TK c (dB 0):=by
  rw[Wl]
  refine⟨by simp[dJ],fun d hd=>?_⟩
  unfold dJ at hd
  obtain⟨j,_,rfl⟩:=List.mem_map.1 hd
  show[D.v (.int .u8 0)].getD (j%1) mb=dB 0
  rw[YK];rfl
 rw[e,r]
 unfold da aj
 rw[Uq,Vu,Vu,Xb]
 rfl
theorem KQ {v:UInt8}{c m k:Nat}(h:k≤m)(h2:m+k≤c):aj ((da v c m).map dB) m (VO dB (UP k (UP m (da v c m))))=(da v c (m+k)).map dB:=by
 have e1:(da v c m).take m=TK m v:=by
  unfold da
  rw[VQ (by simp),Ya,Yl]
 unfold aj
 rw[←Wg,e1,Ya,W6 h,TH,T4,←Xt,←Uq,←Uq]
 congr 1
 unfold da
 rw[YH,Xb,Xb,T4,show m-(m+k)=0 from by omega,show c-m-(m+k-m)=c-(m+k)from by omega]
 simp[List.replicate_append_replicate]
theorem u6 (nn:Bool)(v:UInt8)(c:Nat)(hc:1≤c∧c≤100000):S0 73 [.sl nn 1 1 [dB v],nD c] [] (.ref 0 0 0 c 1) [⟨(TK c v).map dB, 5,true⟩]:=by
 refine SpecH.run T_ok ai Try.func73 rfl rfl rfl ⟨cM _,trivial⟩ rfl 1000 64 (fun R ok=>(.s 11 (.opt (ar .u64 (c:Int)) (D.v (UE .u64 (c:Int))) (bC om) (.s 1 (.cl 97 false [] (.fn Ti (@OR (c) om)) (.s 17 (.f (decide (9223372036854775807<(c:Int))) (by(refine decide_eq_false ?_;(omega))) (.s 2 (.ow (c:Int) (.s 1 (.chk (true&&decide ((c:Int)≤c)&&true&&true&&true&&true&&decide ((↑(X3 EZ):Int)*(c:Int)≤140737488355328)) (by(have h9:((EZ.bytes:Nat):Int)=1:=rfl;rw[h9];simp;omega)) (.s 4 (.chk (true&&VL 0 (UW 1 c)&&Tz (0+c) (length (dJ [bI 0] (c*1)))) (by(simp_all;done)) (.lst (aj (dJ [bI 0] (c*1)) 0 (take (UW 1 c) [aQ (Tp v)])) (aj (dJ [bI 0] c) 0 (take (UW 1 c) [aQ (Tp v)])) (by(simp;done)) (.s 1 (.val 8 (zN (UW 1 c)) (zI 1) (by(simp_all;done)) (.blk 176 176 (Tq (aj (dJ [bI 0] c) 0 (take (UW 1 c) [aQ (Tp v)])) 5 true) (Tq (map dB (da v c 1)) 5 true) (by(refine ay (KP om))) (Hn.inl T_ok ai false 48 0 (ap Try.prog 73 0) (fun(x:(m:Nat)×'(hm:1≤m∧m≤c)×'Unit)=>match x with|⟨m,hm,_⟩=>TJ [(7,Tu 0 0 0 c 1),(8,nD m)] [⟨0,0,176,176,.b ⟨(da v c m).map dB,5,true⟩⟩] 8) (fun(x:(m:Nat)×'(hm:1≤m∧m≤c)×'Unit)=>match x with|⟨m,hm,_⟩=>c-m) [⟨Unit,.exit 0,fun x=>match x with|()=>TJ [(7,Tu 0 0 0 c 1)] [⟨0,0,176,176,.b ⟨(replicate c v).map dB,5,true⟩⟩] 8⟩] 1000 64 (fun|⟨m,hm,_⟩,Q,next1,last1=>(.s 5 (.bd ((m:Int)<c) (fun p0 p0f=>(.s 5 (.chk (aZ (some (m:Int)) none none c&&true) OP (.s 3 (.chk (aZ none (some (m:Int)) none c&&true) OP (.s 1 (.chk (true&&Tz (0+m*1) (length (map dB (da v c m)))&&true&&true&&true&&VL 0 (UW m (c-m))&&Tz (0+m*1+(c-m)) (length (map dB (da v c m)))) (by(simp only[Ub,Uh,TH];have h9:=hJ (v:=v) (c:=c) (m:=m) om;have h8:=mn m (c-m);simp only[Tw];refine⟨⟨Tv om,Tv om⟩,Tv om⟩)) (.lst (aj (map dB (da v c m)) (0+m*1) (take (UW m (c-m)) (bif true&&Tx (m*1) (length (map dB (da v c m)))then map dB (da v c m)else take (m*1) (drop 0 (map dB (da v c m)))))) (aj (map dB (da v c m)) m (map dB (take (UW m (c-m)) (take m (da v c m))))) (by(rw[RG,TZ,T0,Wg,Wg])) (.s 2 (.op ((m:Int)+(↑(UW m (c-m)):Int)) OQ (.s 1 (.val 8 (zI ((m:Int)+(↑(UW m (c-m)):Int))) (zN (m+UW m (c-m))) (by(refine aT ?_;(omega))) (.blk 0 0 (Tq (aj (map dB (da v c m)) m (map dB (take (UW m (c-m)) (take m (da v c m))))) 5 true) (Tq (map dB (da v c (m+UW m (c-m)))) 5 true) (by(have h9:=hJ (v:=v) (c:=c) (m:=m) om;have h8:=mn m (c-m);refine ay (KQ om om))) (Hn.next next1 ⟨(m+UW m (c-m)),OQ,⟨⟩⟩ (by show c-(m+UW m (c-m))<c-m;clear next1 last1;(have h9:=hJ (v:=v) (c:=c) (m:=m) om;have h8:=mn m (c-m);omega)) [(0,0)] ro)))))))))))))) (fun p0 p0f=>(.blk 0 0 (Tq (map dB (da v c m)) 5 true) (Tq (map dB (replicate c v)) 5 true) (by(rw[show m=c from by(omega)];unfold da;simp;done)) (Hn.last last1 0 (():Unit) rfl [(0,0)] ro)))))) (fun|⟨m,hm,_⟩=>by kernel_rfl) ⟨(1),om,⟨⟩⟩ [(176,176)] ro (bY (fun|()=>(.s 2 (.out [0] [0] (Tu 0 0 0 c 1) [Tq (map dB (replicate c v)) 5 true] R (ok _ _ wr wr))))))))))))))))))))))) kr
def bz:List UInt8:=TK 144 8++TK 112 9++TK 24 7++TK 8 8
def cU:List UInt8:=TK 32 5
theorem OS (R:List UInt8)(hR:R=TK 144 8):S0 73 [.sl true 1 1 [.v (.int .u8 8)],iD 144] [] (.ref 0 0 0 144 1) [⟨R.map dB, 5,true⟩]:=by
 subst hR;exact u6 true 8 144 (by decide)
theorem OT (R:List UInt8)(hR:R=TK 112 9):S0 73 [.sl true 1 1 [.v (.int .u8 9)],iD 112] [] (.ref 0 0 0 112 1) [⟨R.map dB, 5,true⟩]:=by
 subst hR;exact u6 true 9 112 (by decide)
theorem OU (R:List UInt8)(hR:R=TK 24 7):S0 73 [.sl true 1 1 [.v (.int .u8 7)],iD 24] [] (.ref 0 0 0 24 1) [⟨R.map dB, 5,true⟩]:=by
 subst hR;exact u6 true 7 24 (by decide)
theorem OV (R:List UInt8)(hR:R=TK 8 8):S0 73 [.sl true 1 1 [.v (.int .u8 8)],iD 8] [] (.ref 0 0 0 8 1) [⟨R.map dB, 5,true⟩]:=by
 subst hR;exact u6 true 8 8 (by decide)
theorem OW (R:List UInt8)(hR:R=TK 32 5):S0 73 [.sl true 1 1 [.v (.int .u8 5)],iD 32] [] (.ref 0 0 0 32 1) [⟨R.map dB, 5,true⟩]:=by
 subst hR;exact u6 true 5 32 (by decide)
theorem Fv (R1 R2 R3 R4 R5:List UInt8)(h1:R1=TK 144 8)(h2:R2=TK 112 9)(h3:R3=TK 24 7)(h4:R4=TK 8 8)(h5:R5=TK 32 5):S0 47 [] [] (.tup [.ref 0 0 0 288 1,.ref 1 1 0 32 1]) [⟨(R1++R2++R3++R4).map dB, 5,true⟩,⟨R5.map dB, 5,true⟩]:=by
 have l1:R1.length=144:=by rw[h1,T4]
 have l2:R2.length=112:=by rw[h2,T4]
 have l3:R3.length=24:=by rw[h3,T4]
 have l4:R4.length=8:=by rw[h4,T4]
 have l5:R5.length=32:=by rw[h5,T4]
 refine SpecH.run T_ok ai Try.func47 rfl rfl rfl ⟨cM _,cM _,trivial⟩ rfl 1000 64 (fun R ok=>(.s 5 (.cl 73 false [] (.fn NT (@OS (R1) aD)) (.s 3 (.cl 73 false [] (.fn NT (@OT (R2) aD)) (.s 3 (.cl 73 false [] (.fn NT (@OU (R3) aD)) (.s 3 (.cl 73 false [] (.fn NT (@OV (R4) aD)) (.s 165 (.chk (true&&(true&&Tz 144 (length (map dB R1)))&&true&&true&&true) (by(simp <;>(omega))) (.s 17 (.chk (true&&Tx 144 (length (bif true&&Tx 144 (length (map dB R1))then map dB R1 else take 144 (drop 0 (map dB R1))))&&true&&(true&&Tz 112 (length (map dB R2)))&&true&&true&&true) (by(simp_all;done)) (.s 17 (.chk (true&&Tx 256 (length ((bif true&&Tx 144 (length (map dB R1))then map dB R1 else take 144 (drop 0 (map dB R1)))++bif true&&Tx 112 (length (map dB R2))then map dB R2 else take 112 (drop 0 (map dB R2))))&&true&&(true&&Tz 24 (length (map dB R3)))&&true&&true&&true) (by(simp_all;done)) (.s 17 (.chk (true&&Tx 280 (length (((bif true&&Tx 144 (length (map dB R1))then map dB R1 else take 144 (drop 0 (map dB R1)))++bif true&&Tx 112 (length (map dB R2))then map dB R2 else take 112 (drop 0 (map dB R2)))++bif true&&Tx 24 (length (map dB R3))then map dB R3 else take 24 (drop 0 (map dB R3))))&&true&&(true&&Tz 8 (length (map dB R4)))&&true&&true&&true) (by(simp_all;done)) (.s 15 (.cl 73 false [] (.fn NT (@OW (R5) aD)) (.s 2 (.out [1112,1272] [1112,1272] (Uw [Tu 0 0 0 288 1,Tu 1 1 0 32 1]) [Tq ((((bif true&&Tx 144 (length (map dB R1))then map dB R1 else take 144 (drop 0 (map dB R1)))++bif true&&Tx 112 (length (map dB R2))then map dB R2 else take 112 (drop 0 (map dB R2)))++bif true&&Tx 24 (length (map dB R3))then map dB R3 else take 24 (drop 0 (map dB R3)))++bif true&&Tx 8 (length (map dB R4))then map dB R4 else take 8 (drop 0 (map dB R4))) 5 true,Tq (map dB R5) 5 true] R (ok _ _ wr (by(simp_all;done)))))))))))))))))))))))) kr
theorem lq (L F:List UInt8)(hL:L=bz)(hF:F=cU):S0 47 [] [] (.tup [.ref 0 0 0 288 1,.ref 1 1 0 32 1]) [⟨L.map dB, 5,true⟩,⟨F.map dB, 5,true⟩]:=by
 subst hL hF;exact Fv _ _ _ _ _ rfl rfl rfl rfl rfl
theorem lr:S0 79 [] [] (.agg ([16,17,18,0,8,7,9,6,10,5,11,4,12,3,13,2,14,1,15].map nD)) []:=by
 refine SpecH.run T_ok ai Try.func79 rfl rfl rfl trivial rfl 1000 64 (fun R ok=>(.s 10 (.out [] [] (UA [zI 16,zI 17,zI 18,zI 0,zI 8,zI 7,zI 9,zI 6,zI 10,zI 5,zI 11,zI 4,zI 12,zI 3,zI 13,zI 2,zI 14,zI 1,zI 15]) [] R (ok _ _ (by(simp;done)) wr)))) kr
theorem Qk {p:Prop}(h:p:=by(refine aT ?_;(omega))):p:=h
theorem S5 {p:Prop}(h:p:=by((refine aJ ?_ ?_)<;>(repeat' (first|(refine aJ ?_ ?_)|(with_reducible rfl)|(refine decide_eq_true ?_)|(refine Tv ?_)|(refine fx ?_)))<;>(omega))):p:=h
def hU (at':Nat):Nat:=lk [()] ((8-(at'+3)%8)%8)
theorem nK (at':Nat):hU at'=(8-(at'+3)%8)%8:=aw _ _
def u7 (x:UInt8):Nm:=⟨x.toNat,8⟩
def jW (e k:Nat):List Nm:=[⟨e,1⟩,⟨k,2⟩]
def Ql (e a r:Nat):List Nm:=[⟨e,1⟩,⟨0,2⟩,⟨0,hU a⟩,⟨r,16⟩,⟨65535-r,16⟩]
def pH (e a:Nat)(raw:List UInt8)(i:Nat):List Nm:=lk raw (Ql e a raw.length++(raw.take i).map u7)
theorem iM (e a:Nat)(raw:List UInt8)(i:Nat):pH e a raw i=Ql e a raw.length++(raw.take i).map u7:=aw _ _
def nL (e a:Nat)(raw:List UInt8):List Nm:=pH e a raw raw.length
theorem lu {e a:Nat}{raw:List UInt8}{i:Nat}(h:i≤raw.length):(pH e a raw i).length=5+i:=by
 rw[iM,Tt,TH,TR,W6 h];rfl
theorem OX {e a:Nat}{raw:List UInt8}{i:Nat}(h:i<raw.length):(pH e a raw (i+1)).flatMap bh=(pH e a raw i).flatMap bh++bh ⟨(raw.getD i mb).toNat,8⟩:=by
 have e1:raw.take (i+1)=raw.take i++[raw.getD i mb]:=by
  rw[T8 h,To,Ts h];rfl
 rw[iM,iM,e1,Uq,←TG,cX];rfl
theorem OY {e a:Nat}{raw:List UInt8}:(pH e a raw 0).flatMap bh=[ea e,nD 1,ea 0,nD 2,ea 0,nD (hU a),ea raw.length,nD 16,ea (65535-raw.length),nD 16]:=by
 rw[iM];rfl
theorem HV {e a:Nat}{raw:List UInt8}{r:Nat}{x y:Int}(hr:r=raw.length)(hx:x=(hU a:Int))(hy:y=((65535-r:Nat):Int)):[D.v (.int .u32 (e:Int)),D.v (.int .i64 1),D.v (.int .u32 0),D.v (.int .i64 2),D.v (.int .u32 0),D.v (.int .i64 x),D.v (.int .u32 (r:Int)),D.v (.int .i64 16),D.v (.int .u32 y),D.v (.int .i64 16)]=(pH e a raw 0).flatMap bh:=by
 subst hr hx hy;exact OY.symm
theorem HW {e a:Nat}{raw:List UInt8}{i u:Nat}(hu:u=i)(h:i<raw.length):(pH e a raw i).flatMap bh++[D.v (.int .u32 (((raw.getD u mb).toNat:Nat):Int)),D.v (.int .i64 8)]=(pH e a raw (i+1)).flatMap bh:=by
 subst hu;exact(OX h).symm
theorem OZ (k:Nat)(cs:List D)(hcs:cs.length=k*3)(a:Nat)(ha:a≤7)(raw:List UInt8)(r:Nat)(hr:r=raw.length)(hr2:r≤65535)(L F:List UInt8)(hL:L=bz)(hF:F=cU):S0 29 [nD a,dG 0,.sl false r 1 (raw.map dB),.sl false k 3 cs,.v (.bool true)] [] (.ptr 0 0 0) [⟨[.ref 1 1 0 (5+r) 2], 78,false⟩,⟨(nL 1 a raw).flatMap bh, 81,true⟩]:=by
 refine SpecH.run T_ok ai Try.func29 rfl rfl rfl ⟨rfl,iT (fun _=>rfl) _,trivial⟩ rfl 1000 64 (fun R ok=>(.s 43 (.cl 47 false [] (.fn NS (@lq (L) (F) aD aD)) (.s 21 (.ow ((a:Int)+3) (.s 2 (.opt (b4 Uf (We ((a:Int)+3) 8)) (zI (((a:Int)+3)%8)) (aS (@fm  ((a:Int)+3) (8) om)) (.s 2 (.ow (8-((a:Int)+3)%8) (.s 2 (.opt (b4 Uf (We (8-((a:Int)+3)%8) 8)) (zI ((8-((a:Int)+3)%8)%8)) (aS (@fm  (8-((a:Int)+3)%8) (8) om)) (.s 5 (.opt (ar .u32 (r:Int)) (ak r) (aE om) (.s 6 (.ow (65535-(r:Int)) (.s 1 (.opt (ar .u32 (65535-(r:Int))) (uI (65535-(r:Int))) (aE om) (.s 28 (.blk 560 560 (Tq [uI 1,zI 1,uI 0,zI 2,uI 0,zI ((8-((a:Int)+3)%8)%8),ak r,zI 16,uI (65535-(r:Int)),zI 16] 81 true) (Tq (flatMap bh (pH 1 a raw 0)) 81 true) (by(refine ay (HV (e:=1) hr ?_ ?_)<;>(try rw[nK])<;>omega)) (Hn.inl T_ok ai false 39 368 (ap Try.prog 48 0) (fun(x:(i:Nat)×'(hi:i≤r)×'Unit)=>match x with|⟨i,hi,_⟩=>TJ [(0,TF 16 16 0),(26,TL false r 1 (map dB raw)),(27,zN r),(28,nD i)] [⟨16,16,16,16,.b ⟨[(Tu 400 400 (0) (5+i) 2)],78,false⟩⟩,⟨104,104,104,104,.b ⟨[uI 1,zI 1,uI 0,zI 2],81,false⟩⟩,⟨264,264,264,264,.b ⟨map dB L,5,true⟩⟩,⟨265,265,265,265,.b ⟨map dB F,5,true⟩⟩,⟨400,400,560,560,.b ⟨(pH 1 a raw i).flatMap bh,81,true⟩⟩] 408) (fun(x:(i:Nat)×'(hi:i≤r)×'Unit)=>match x with|⟨i,hi,_⟩=>r-i) [⟨Unit,.exit 0,fun x=>match x with|()=>TJ [(0,TF 16 16 0),(26,TL false r 1 (map dB raw)),(27,zN r),(28,nD r)] [⟨16,16,16,16,.b ⟨[(Tu 400 400 (0) (5+r) 2)],78,false⟩⟩,⟨104,104,104,104,.b ⟨[uI 1,zI 1,uI 0,zI 2],81,false⟩⟩,⟨264,264,264,264,.b ⟨map dB L,5,true⟩⟩,⟨265,265,265,265,.b ⟨map dB F,5,true⟩⟩,⟨400,400,560,560,.b ⟨(nL 1 a raw).flatMap bh,81,true⟩⟩] 408⟩] 1000 64 (fun|⟨i,hi,_⟩,Q,next1,last1=>(.s 2 (.bd ((i:Int)<r) (fun p0 p0f=>(.s 1 (.chk (true&&decide ((i:Int)<r)&&true) S5 (.s 2 (.opt ((map dB raw)[i*1]?) (dB (getD raw (i*1) mb)) (aq _ _ om) (.s 4 (.opt (ar .u32 (↑(Tp (getD raw (i*1) mb)):Int)) (ak (Tp (getD raw (i*1) mb))) (aE (by(exact iG _ (by decide) (by decide)))) (.s 17 (.chk (true&&Tx ((5+i)*2) (length (flatMap bh (pH 1 a raw i)))&&true&&true&&true&&true&&Tz ((5+i+1)*16) 140737488355328) (by(simp only[dA,lu (raw:=raw) (e:=1) (a:=a) (i:=i) om,Uz,Ub,Uh];refine Tv ?_;omega)) (.s 9 (.ow ((i:Int)+1) (.s 1 (.val 28 (zI ((i:Int)+1)) (zN (i+1)) Qk (.blk 16 16 (Tq [Tu 536 536 0 (5+i+1) 2] 78 false) (Tq [Tu 536 536 0 (5+(i+1)) 2] 78 false) (by(simp <;>(omega))) (.blk 536 536 (Tq (flatMap bh (pH 1 a raw i)++[ak (Tp (getD raw (i*1) mb)),zI 8]) 81 true) (Tq (flatMap bh (pH 1 a raw (i+1))) 81 true) (by(refine ay (HW om om))) (Hn.next next1 ⟨(i+1),om,⟨⟩⟩ (by show r-(i+1)<r-i;clear next1 last1;omega) [(16,16),(104,104),(264,264),(265,265),(536,536)] ro)))))))))))))))) (fun p0 p0f=>(.val 28 (zN i) (zN r) Qk (.blk 16 16 (Tq [Tu 400 400 0 (5+i) 2] 78 false) (Tq [Tu 400 400 0 (5+r) 2] 78 false) (by(simp <;>(omega))) (.blk 400 400 (Tq (flatMap bh (pH 1 a raw i)) 81 true) (Tq (flatMap bh (nL 1 a raw)) 81 true) (by(rw[show i=raw.length from by omega];rfl)) (Hn.last last1 0 (():Unit) rfl [(16,16),(104,104),(264,264),(265,265),(400,400)] ro)))))))) (fun|⟨i,hi,_⟩=>by kernel_rfl) ⟨(0),om,⟨⟩⟩ [(16,16),(104,104),(264,264),(265,265),(560,560)] ro (bY (fun|()=>(.s 2 (.out [16,400] [16,400] (TF 0 0 0) [Tq [Tu 1 1 0 (5+r) 2] 78 false,Tq (flatMap bh (nL 1 a raw)) 81 true] R (ok _ _ wr wr))))))))))))))))))))))))) kr
theorem O0 (k:Nat)(cs:List D)(hcs:cs.length=k*3)(a:Nat)(ha:a≤7)(raw:List UInt8)(r:Nat)(hr:r=raw.length)(hr2:r≤65535)(L F:List UInt8)(hL:L=bz)(hF:F=cU):S0 29 [nD a,dG 0,.sl false r 1 (raw.map dB),.sl false k 3 cs,.v (.bool false)] [] (.ptr 0 0 0) [⟨[.ref 1 1 0 (5+r) 2], 78,false⟩,⟨(nL 0 a raw).flatMap bh, 81,true⟩]:=by
 refine SpecH.run T_ok ai Try.func29 rfl rfl rfl ⟨rfl,iT (fun _=>rfl) _,trivial⟩ rfl 1000 64 (fun R ok=>(.s 42 (.cl 47 false [] (.fn NS (@lq (L) (F) aD aD)) (.s 21 (.ow ((a:Int)+3) (.s 2 (.opt (b4 Uf (We ((a:Int)+3) 8)) (zI (((a:Int)+3)%8)) (aS (@fm  ((a:Int)+3) (8) om)) (.s 2 (.ow (8-((a:Int)+3)%8) (.s 2 (.opt (b4 Uf (We (8-((a:Int)+3)%8) 8)) (zI ((8-((a:Int)+3)%8)%8)) (aS (@fm  (8-((a:Int)+3)%8) (8) om)) (.s 5 (.opt (ar .u32 (r:Int)) (ak r) (aE om) (.s 6 (.ow (65535-(r:Int)) (.s 1 (.opt (ar .u32 (65535-(r:Int))) (uI (65535-(r:Int))) (aE om) (.s 28 (.blk 552 552 (Tq [uI 0,zI 1,uI 0,zI 2,uI 0,zI ((8-((a:Int)+3)%8)%8),ak r,zI 16,uI (65535-(r:Int)),zI 16] 81 true) (Tq (flatMap bh (pH 0 a raw 0)) 81 true) (by(refine ay (HV (e:=0) hr ?_ ?_)<;>(try rw[nK])<;>omega)) (Hn.inl T_ok ai false 39 360 (ap Try.prog 48 0) (fun(x:(i:Nat)×'(hi:i≤r)×'Unit)=>match x with|⟨i,hi,_⟩=>TJ [(0,TF 16 16 0),(26,TL false r 1 (map dB raw)),(27,zN r),(28,nD i)] [⟨16,16,16,16,.b ⟨[(Tu 392 392 (0) (5+i) 2)],78,false⟩⟩,⟨96,96,96,96,.b ⟨[uI 0,zI 1,uI 0,zI 2],81,false⟩⟩,⟨256,256,256,256,.b ⟨map dB L,5,true⟩⟩,⟨257,257,257,257,.b ⟨map dB F,5,true⟩⟩,⟨392,392,552,552,.b ⟨(pH 0 a raw i).flatMap bh,81,true⟩⟩] 400) (fun(x:(i:Nat)×'(hi:i≤r)×'Unit)=>match x with|⟨i,hi,_⟩=>r-i) [⟨Unit,.exit 0,fun x=>match x with|()=>TJ [(0,TF 16 16 0),(26,TL false r 1 (map dB raw)),(27,zN r),(28,nD r)] [⟨16,16,16,16,.b ⟨[(Tu 392 392 (0) (5+r) 2)],78,false⟩⟩,⟨96,96,96,96,.b ⟨[uI 0,zI 1,uI 0,zI 2],81,false⟩⟩,⟨256,256,256,256,.b ⟨map dB L,5,true⟩⟩,⟨257,257,257,257,.b ⟨map dB F,5,true⟩⟩,⟨392,392,552,552,.b ⟨(nL 0 a raw).flatMap bh,81,true⟩⟩] 400⟩] 1000 64 (fun|⟨i,hi,_⟩,Q,next1,last1=>(.s 2 (.bd ((i:Int)<r) (fun p0 p0f=>(.s 1 (.chk (true&&decide ((i:Int)<r)&&true) S5 (.s 2 (.opt ((map dB raw)[i*1]?) (dB (getD raw (i*1) mb)) (aq _ _ om) (.s 4 (.opt (ar .u32 (↑(Tp (getD raw (i*1) mb)):Int)) (ak (Tp (getD raw (i*1) mb))) (aE (by(exact iG _ (by decide) (by decide)))) (.s 17 (.chk (true&&Tx ((5+i)*2) (length (flatMap bh (pH 0 a raw i)))&&true&&true&&true&&true&&Tz ((5+i+1)*16) 140737488355328) (by(simp only[dA,lu (raw:=raw) (e:=0) (a:=a) (i:=i) om,Uz,Ub,Uh];refine Tv ?_;omega)) (.s 9 (.ow ((i:Int)+1) (.s 1 (.val 28 (zI ((i:Int)+1)) (zN (i+1)) Qk (.blk 16 16 (Tq [Tu 528 528 0 (5+i+1) 2] 78 false) (Tq [Tu 528 528 0 (5+(i+1)) 2] 78 false) (by(simp <;>(omega))) (.blk 528 528 (Tq (flatMap bh (pH 0 a raw i)++[ak (Tp (getD raw (i*1) mb)),zI 8]) 81 true) (Tq (flatMap bh (pH 0 a raw (i+1))) 81 true) (by(refine ay (HW om om))) (Hn.next next1 ⟨(i+1),om,⟨⟩⟩ (by show r-(i+1)<r-i;clear next1 last1;omega) [(16,16),(96,96),(256,256),(257,257),(528,528)] ro)))))))))))))))) (fun p0 p0f=>(.val 28 (zN i) (zN r) Qk (.blk 16 16 (Tq [Tu 392 392 0 (5+i) 2] 78 false) (Tq [Tu 392 392 0 (5+r) 2] 78 false) (by(simp <;>(omega))) (.blk 392 392 (Tq (flatMap bh (pH 0 a raw i)) 81 true) (Tq (flatMap bh (nL 0 a raw)) 81 true) (by(rw[show i=raw.length from by omega];rfl)) (Hn.last last1 0 (():Unit) rfl [(16,16),(96,96),(256,256),(257,257),(392,392)] ro)))))))) (fun|⟨i,hi,_⟩=>by kernel_rfl) ⟨(0),om,⟨⟩⟩ [(16,16),(96,96),(256,256),(257,257),(552,552)] ro (bY (fun|()=>(.s 2 (.out [16,392] [16,392] (TF 0 0 0) [Tq [Tu 1 1 0 (5+r) 2] 78 false,Tq (flatMap bh (nL 0 a raw)) 81 true] R (ok _ _ wr wr))))))))))))))))))))))))) kr
end Vp
end Go.Proofs.Ytefjnofhgkjpmaa
namespace Go.Proofs.Ytefjnofhgkjpmaa
open Go.RowKit Go.Bw Go.Vx
open List (length getD map take drop flatMap replicate)
namespace Vp
theorem kK {p:Prop}(h:p:=by(have h9:=hl i;have h5:=UH (l.getD i mb).lit;have h2:=bK hT1 hT2 (hl i);have h8:=fF (l.getD i mb).lit.toNat;have h4:=fF (257+ao T1 (l.getD i mb).long);have h3:=okF (ao T2 (l.getD i mb).dist);have g1:=hz1 (ao T1 (l.getD i mb).long);have g2:=hz2 (ao T2 (l.getD i mb).dist);have g3:=fF 256;have h7:=cw (T1:=T1) (T2:=T2) (A:=ae L) (B:=ae F) (H:=H) (l:=l) i om;unfold ef at h9;omega)):p:=h
theorem pI {p:Prop}(h:p:=by(have h9:=hl 0;have h5:=UH (l.getD 0 mb).lit;have h2:=bK hT1 hT2 (hl 0);have h8:=fF (l.getD 0 mb).lit.toNat;have h4:=fF (257+ao T1 (l.getD 0 mb).long);have h3:=okF (ao T2 (l.getD 0 mb).dist);have g1:=hz1 (ao T1 (l.getD 0 mb).long);have g2:=hz2 (ao T2 (l.getD 0 mb).dist);have g3:=fF 256;have h7:=cw (T1:=T1) (T2:=T2) (A:=ae L) (B:=ae F) (H:=H) (l:=l) 0 om;unfold ef at h9;omega)):p:=h
theorem Fw {p:Prop}(h:p:=by(exact T6 (fF _).1 (by decide))):p:=h
theorem HX {p:Prop}(h:p:=by cases d<;>repeat' first|exact trivial|exact rfl|exact(fun _=>du _)|exact(fun _=>by assumption)|exact(fun _=>cu _ (fun _=>rfl) _)|exact(fun _=>fy (fun _=>rfl) _)|(intro h;cases h;done)|(intro _;rfl)|(intro _;exact dM _ (cu _ (fun _=>rfl) _))|exact mc _ (cu _ (fun _=>rfl) _)|refine Ut ?_ ?_|refine iB ?_ ?_|(intro _;refine ej ?_ ?_)|refine ej ?_ ?_|(intro _;refine jn ?_ ?_)|exact dM _ (cu _ (fun _=>rfl) _)|exact cu _ (fun _=>rfl) _):p:=h
theorem Ls {p:Prop}(h:p:=by(rw[show i=k from by omega])):p:=h
theorem Qm {p:Prop}(h:p:=by(rw[gC];have h5:=UH (l.getD 0 mb).lit;refine Tv ?_;omega)):p:=h
theorem Qn {p:Prop}(h:p:=by(have h7:=cw (T1:=T1) (T2:=T2) (A:=ae L) (B:=ae F) (H:=H) (l:=l) i om;simp only[Tt,dA,T3,Vj,Ub,Uh,Tw,Xj,Vs];omega)):p:=h
theorem Qo {p:Prop}(h:p:=by(have h7:=cw (T1:=T1) (T2:=T2) (A:=ae L) (B:=ae F) (H:=H) (l:=l) i om;simp only[dA,Uz,Ub,Uh];refine Tv ?_;omega)):p:=h
theorem Qp {p:Prop}(h:p:=by(refine aT ?_;(omega))):p:=h
theorem Qq {p:Prop}(h:p:=by show k-(i+1)<k-i;clear next1 last1;omega):p:=h
theorem Fx {p:Prop}(h:p:=by(refine decide_eq_true ?_;have h9:=hl i;have h5:=UH (l.getD i mb).lit;have h2:=bK hT1 hT2 (hl i);have h8:=fF (l.getD i mb).lit.toNat;have h4:=fF (257+ao T1 (l.getD i mb).long);have h3:=okF (ao T2 (l.getD i mb).dist);have g1:=hz1 (ao T1 (l.getD i mb).long);have g2:=hz2 (ao T2 (l.getD i mb).dist);have g3:=fF 256;have h7:=cw (T1:=T1) (T2:=T2) (A:=ae L) (B:=ae F) (H:=H) (l:=l) i om;unfold ef at h9;omega)):p:=h
theorem Fy {p:Prop}(h:p:=by(rw[gC];have h2:=bK hT1 hT2 (hl i);refine Tv ?_;omega)):p:=h
theorem KR {p:Prop}(h:p:=by(rw[cP];refine Tv ?_;(omega))):p:=h
theorem KS {p:Prop}(h:p:=by(exact iG _ (by decide) (by decide))):p:=h
theorem KT {p:Prop}(h:p:=by(refine decide_eq_true ?_;have h9:=hl 0;have h5:=UH (l.getD 0 mb).lit;have h2:=bK hT1 hT2 (hl 0);have h8:=fF (l.getD 0 mb).lit.toNat;have h4:=fF (257+ao T1 (l.getD 0 mb).long);have h3:=okF (ao T2 (l.getD 0 mb).dist);have g1:=hz1 (ao T1 (l.getD 0 mb).long);have g2:=hz2 (ao T2 (l.getD 0 mb).dist);have g3:=fF 256;have h7:=cw (T1:=T1) (T2:=T2) (A:=ae L) (B:=ae F) (H:=H) (l:=l) 0 om;unfold ef at h9;omega)):p:=h
theorem KU {p:Prop}(h:p:=by(exact T6 (okF _).1 (by decide))):p:=h
theorem O1 {p:Prop}(h:p:=by(simp;have h9:=hl 0;have h5:=UH (l.getD 0 mb).lit;have h2:=bK hT1 hT2 (hl 0);have h8:=fF (l.getD 0 mb).lit.toNat;have h4:=fF (257+ao T1 (l.getD 0 mb).long);have h3:=okF (ao T2 (l.getD 0 mb).dist);have g1:=hz1 (ao T1 (l.getD 0 mb).long);have g2:=hz2 (ao T2 (l.getD 0 mb).dist);have g3:=fF 256;have h7:=cw (T1:=T1) (T2:=T2) (A:=ae L) (B:=ae F) (H:=H) (l:=l) 0 om;unfold ef at h9;omega)):p:=h
theorem O2 {p:Prop}(h:p:=by exact(Ut (D.sim.slw rfl (cn (by(simp;have h9:=hl 0;have h5:=UH (l.getD 0 mb).lit;have h2:=bK hT1 hT2 (hl 0);have h8:=fF (l.getD 0 mb).lit.toNat;have h4:=fF (257+ao T1 (l.getD 0 mb).long);have h3:=okF (ao T2 (l.getD 0 mb).dist);have g1:=hz1 (ao T1 (l.getD 0 mb).long);have g2:=hz2 (ao T2 (l.getD 0 mb).dist);have g3:=fF 256;have h7:=cw (T1:=T1) (T2:=T2) (A:=ae L) (B:=ae F) (H:=H) (l:=l) 0 om;unfold ef at h9;omega))|>.trans rfl)) (qr trivial))):p:=h
theorem O3 {p:Prop}(h:p:=by(rw[Ub];refine decide_eq_true ?_;have h5:=UH (l.getD i mb).lit;omega)):p:=h
theorem O4 {p:Prop}(h:p:=by(rw[gC];refine Tv ?_;have h5:=UH (l.getD i mb).lit;(omega))):p:=h
theorem O5 {p:Prop}(h:p:=by(refine ay ?_;rw[gM om om,cX,cX,TG];rfl)):p:=h
theorem O6 {p:Prop}(h:p:=by(have h7:=cw (T1:=T1) (T2:=T2) (A:=ae L) (B:=ae F) (H:=H) (l:=l) k om;simp only[dA,Uz,Ub,Uh];refine Tv ?_;omega)):p:=h
theorem O7 {p:Prop}(h:p:=by(rw[gC];have h2:=bK hT1 hT2 (hl 0);refine Tv ?_;omega)):p:=h
structure Tn where
 lit:UInt8
 dist:Nat
 long:Nat
 deriving Inhabited
abbrev bm (t:Tn):List D:=[dB t.lit,nD t.dist,nD t.long]
def ef (t:Tn):Prop:=t.long=0∨3≤t.long∧t.long≤258∧1≤t.dist∧t.dist≤32768
theorem cP (l:List Tn):(l.flatMap bm).length=l.length*3:=a9 (k:=3) (fun _=>rfl) l
def fW (C:List (Nat×Nat))(s n x:Nat):List Nm:=[⟨fL (C.getD s mb).1 (C.getD s mb).2,(C.getD s mb).2⟩,⟨x,n⟩]
def my (T1 T2:List Sy)(A B:List (Nat×Nat))(t:Tn):List Nm:=
 if t.long=0 then fW A t.lit.toNat 0 0
 else fW A (257+ao T1 t.long) (T1.getD (ao T1 t.long) mb).bits (t.long-(T1.getD (ao T1 t.long) mb).least)++fW B (ao T2 t.dist) (T2.getD (ao T2 t.dist) mb).bits (t.dist-(T2.getD (ao T2 t.dist) mb).least)
def aY (T1 T2:List Sy)(A B:List (Nat×Nat))(H:List Nm)(l:List Tn)(i:Nat):List Nm:=lk l (H++(l.take i).flatMap (my T1 T2 A B))
section
variable {T1 T2:List Sy} {A B:List (Nat×Nat)} {H:List Nm} {l:List Tn} {i:Nat}
theorem iN:aY T1 T2 A B H l i=H++(l.take i).flatMap (my T1 T2 A B):=aw _ _
theorem jy:aY T1 T2 A B H l 0=H:=by rw[iN];exact Ue _
theorem CL (h:i<l.length):aY T1 T2 A B H l (i+1)=aY T1 T2 A B H l i++my T1 T2 A B (l.getD i mb):=by
 have e1:l.take (i+1)=l.take i++[l.getD i mb]:=by
  rw[T8 h,To,Ts h];rfl
 rw[iN,iN,e1,UV,←TG,VE]
theorem Fz (t:Tn):(my T1 T2 A B t).length≤4:=by 
 unfold my;split
 ·show 2≤4;decide
 ·show 4≤4;decide
theorem cw:∀i,i≤l.length→(aY T1 T2 A B H l i).length≤H.length+4*i
 |0,_=>by rw[jy];omega
 |i+1,h=>by
  rw[CL (by omega),Tt]
  have:=cw i (by omega)
  have:=Fz (T1:=T1) (T2:=T2) (A:=A) (B:=B) (l.getD i mb)
  omega
theorem fN (h:i<l.length)(h0:(l.getD i mb).long=0):aY T1 T2 A B H l (i+1)=aY T1 T2 A B H l i++fW A (l.getD i mb).lit.toNat 0 0:=by
 rw[CL h,my,if_pos h0]
theorem gM (h:i<l.length)(h0:(l.getD i mb).long≠0):aY T1 T2 A B H l (i+1)=aY T1 T2 A B H l i++(fW A (257+ao T1 (l.getD i mb).long) (T1.getD (ao T1 (l.getD i mb).long) mb).bits ((l.getD i mb).long-(T1.getD (ao T1 (l.getD i mb).long) mb).least)++fW B (ao T2 (l.getD i mb).dist) (T2.getD (ao T2 (l.getD i mb).dist) mb).bits ((l.getD i mb).dist-(T2.getD (ao T2 (l.getD i mb).dist) mb).least)):=by
 rw[CL h,my,if_neg h0]
end
theorem CM {T:List Sy}(hT:T=au){n:Nat}(h:3≤n∧n≤258):ao T n<29:=by
 subst hT
 rw[kA]
 exact Cn (n:=n) (b:=259) au 29 0 3 rfl (by decide) h.1 (by omega)
theorem FA {T:List Sy}(hT:T=aA){n:Nat}(h:1≤n∧n≤32768):ao T n<30:=by
 subst hT
 rw[kA]
 exact Cn (n:=n) (b:=32769) aA 30 0 1 rfl (by decide) h.1 (by omega)
abbrev dj (c:Nat×Nat):List D:=[ea c.1,dG c.2]
theorem gC (l:List (Nat×Nat)):(l.flatMap dj).length=l.length*2:=a9 (k:=2) (fun _=>rfl) l
theorem lv (l:List UInt8)(n:Nat)(hn:n=l.length)(m:Nat)(hm:1≤m∧m≤15)(hc:aC l m=0):S0 80 [.sl false n 1 (l.map dB),nD m] [] (.tup [.ref 0 0 0 n 2,iD 0]) [⟨(ae l).flatMap dj, 198,true⟩]:=Ft l n hn m hm hc
theorem bK {T1 T2:List Sy}(hT1:T1=au)(hT2:T2=aA){t:Tn}(h:ef t):t.long≠0→ao T1 t.long<29∧ao T2 t.dist<30:=fun h0=>by
 unfold ef at h
 exact⟨CM hT1 (by omega),FA hT2 (by omega)⟩
def pc (C:List (Nat×Nat)):Prop:=∀s,(C.getD s mb).2≤15∧(C.getD s mb).1<2^(C.getD s mb).2
theorem kE (T:List Sy)(hT:T=au)(hl:T.length=29)(hz:bW T)(n:Nat)(hn:n≤40000)(hIk:ao T n<29):S0 98 [nD n] [] (.tup [nD (257+ao T n),nD (T.getD (ao T n) mb).bits,nD (n-(T.getD (ao T n) mb).least),iD 0]) []:=Kk T hT hl hz n hn _ rfl hIk
theorem pd (T:List Sy)(hT:T=aA)(hl:T.length=30)(hz:bW T)(n:Nat)(hn:n≤40000)(hIk:ao T n<30):S0 99 [nD n] [] (.tup [nD (ao T n),nD (T.getD (ao T n) mb).bits,nD (n-(T.getD (ao T n) mb).least),iD 0]) []:=by
 have q:=Oj T hT hl hz n hn _ rfl hIk
 rwa [T0]at q
def sh (b:Bool):Nat:=bif b then 8 else 0
theorem SpecH.run2 {τ:Sort _}(t:τ){S0 S1:Prop}{C0 C1:τ→Prop}(f0:∀t,C0 t→S0)(f1:∀t,C1 t→S1)(h0:C0 t)(h1:C1 t):S0∧S1:=⟨f0 t h0,f1 t h1⟩
theorem HY (l:List Tn)(k:Nat)(hk:k=l.length)(hk2:k≤65535)(hl:∀i,ef (l.getD i mb))(T1 T2:List Sy)(hT1:T1=au)(hT2:T2=aA)(hl1:T1.length=29)(hl2:T2.length=30)(hz1:bW T1)(hz2:bW T2)(L F:List UInt8)(hL:L=bz)(hF:F=cU)(hLl:L.length=288)(hFl:F.length=32)(hcL:aC L 15=0)(hcF:aC F 15=0)(hmL:(ae L).length=288)(hmF:(ae F).length=32)(fF:pc (ae L))(okF:pc (ae F))(a:Nat)(ha:a≤7)(raw:List UInt8)(r:Nat)(hr:r=raw.length)(hr2:r≤65535)(H:List Nm)(hH:H=jW 1 1)(hHl:H.length=2)(H':List Nm)(hH':H'=jW 0 1)(hHl':H'.length=2):(S0 29 [nD a,dG 1,.sl false r 1 (raw.map dB),.sl false k 3 (l.flatMap bm),.v (.bool true)] [] (.ptr 0 0 0) [⟨[.ref 1 1 0 (aY T1 T2 (ae L) (ae F) H l k++fW (ae L) 256 0 0).length 2], 78,false⟩,⟨(aY T1 T2 (ae L) (ae F) H l k++fW (ae L) 256 0 0).flatMap bh, 81,true⟩])∧(S0 29 [nD a,dG 1,.sl false r 1 (raw.map dB),.sl false k 3 (l.flatMap bm),.v (.bool false)] [] (.ptr 0 0 0) [⟨[.ref 1 1 0 (aY T1 T2 (ae L) (ae F) H' l k++fW (ae L) 256 0 0).length 2], 78,false⟩,⟨(aY T1 T2 (ae L) (ae F) H' l k++fW (ae L) 256 0 0).flatMap bh, 81,true⟩]):=by
 refine SpecH.run2 (fun(d:Bool) (e:Nat) (H:List Nm) (hH:H=jW e 1) (hHl:H.length=2) (R:D→List Blk→Prop) (ok:∀r' bs',r'=(.ptr 0 0 0)→bs'=[⟨[.ref 1 1 0 (aY T1 T2 (ae L) (ae F) H l k++fW (ae L) 256 0 0).length 2], 78,false⟩,⟨(aY T1 T2 (ae L) (ae F) H l k++fW (ae L) 256 0 0).flatMap bh, 81,true⟩]→R r' bs')=>((.cl 47 false [] (.fn NS (@lq (L) (F) aD aD)) (.s 26 (.call 80 false [] (true&&(true&&Tz 288 (length (map dB L))&&true&&af (bif true&&Tx 288 (length (map dB L))then map dB L else take 288 (drop 0 (map dB L))))&&true) O1 ([TL true 288 1 (bif true&&Tx 288 (length (map dB L))then map dB L else take 288 (drop 0 (map dB L))),zI 15]) _ O2 (true) wr _ _ _ (TW (az.of Try.func80 rfl rfl) (@lv (L) (288) om (15) (by(simp;done)) om)) (.s 13 (.call 80 false [] (true&&(true&&Tz 32 (length (map dB F))&&true&&af (bif true&&Tx 32 (length (map dB F))then map dB F else take 32 (drop 0 (map dB F))))&&true) O1 ([TL true 32 1 (bif true&&Tx 32 (length (map dB F))then map dB F else take 32 (drop 0 (map dB F))),zI 15]) _ O2 (true) wr _ _ _ (TW (az.of Try.func80 rfl rfl) (@lv (F) (32) om (15) (by(simp;done)) om)) (.s 18 (.two (.s 2 (.bd (0<(k:Int)) (fun p0 p0f=>(.s 1 (.chk (true&&decide (0<(k:Int))&&true) (by((refine aJ ?_ ?_)<;>(repeat' (first|(refine aJ ?_ ?_)|(with_reducible rfl)|(refine decide_eq_true ?_)|(refine Tv ?_)|(refine fx ?_)))<;>(omega))) (.s 2 (.chk (Tz 3 (length (flatMap bm l))) KR (.lst (take 3 (drop 0 (flatMap bm l))) ([aQ (Tp (Tn.lit (getD l 0 mb))),zN (Tn.dist (getD l 0 mb)),zN (Tn.long (getD l 0 mb))]) (aB (k:=3) (i:=0) (fun _=>rfl) om om) (.s 13 (.br ((↑(Tn.long (getD l 0 mb)):Int)==0) (fun p1=>have p1f:=eq_of_beq p1;(.s 8 (.op (↑(Tp (Tn.lit (getD l 0 mb))):Int) KS (.s 18 (.chk (true&&decide ((↑(Tp (Tn.lit (getD l 0 mb))):Int)<(↑288:Int))) KT (.s 2 (.chk (Tz (0+Tp (Tn.lit (getD l 0 mb))*2+2) (length (flatMap dj (ae L)))) Qm (.lst (take 2 (drop (0+Tp (Tn.lit (getD l 0 mb))*2) (flatMap dj (ae L)))) ([ak (Ty (getD (ae L) (Tp (Tn.lit (getD l 0 mb))) mb)),aQ (Tm (getD (ae L) (Tp (Tn.lit (getD l 0 mb))) mb))]) (aB (k:=2) (i:=Tp (Tn.lit (getD l 0 mb))) (fun _=>rfl) pI om) (.s 18 (.op (↑(Tm (getD (ae L) (Tp (Tn.lit (getD l 0 mb))) mb)):Int) pI (.s 1 (.cl 107 false [] (.fn fK (@bX (Ty (getD (ae L) (Tp (Tn.lit (getD l 0 mb))) mb)) (Tm (getD (ae L) (Tp (Tn.lit (getD l 0 mb))) mb)) Fw (by(exact(fF _).2)))) (.s 16 (.op (↑(Tm (getD (ae L) (Tp (Tn.lit (getD l 0 mb))) mb)):Int) pI (.s 35 (.blk 16 16 (Tq [Tu (1008+sh d) (1008+sh d) 0 4 2] 78 false) (Tq [Tu (1008+sh d) (1008+sh d) 0 (length (aY T1 T2 (ae L) (ae F) H l 1)) 2] 78 false) (by(rw[fN (i:=0) om om,jy,hH];rfl)) (.blk (1008+sh d) (1008+sh d) (Tq [ak e,zI 1,uI 1,zI 2,ak (fL (Ty (getD (ae L) (Tp (Tn.lit (getD l 0 mb))) mb)) (Tm (getD (ae L) (Tp (Tn.lit (getD l 0 mb))) mb))),zN (Tm (getD (ae L) (Tp (Tn.lit (getD l 0 mb))) mb)),uI 0,zI 0] 81 true) (Tq (flatMap bh (aY T1 T2 (ae L) (ae F) H l 1)) 81 true) (by(rw[fN (i:=0) om om,jy,hH];rfl)) (Hn.inl T_ok ai false 53 (544+sh d) (ap Try.prog 74 0) (fun(x:(i:Nat)×'(hi:1≤i∧i≤k)×'Unit)=>match x with|⟨i,hi,_⟩=>TJ [(1,U9 (Ui 83) [] [TF (384+sh d) (384+sh d) 0,TF (496+sh d) (496+sh d) 0,TF (432+sh d) (432+sh d) 0]),(10,TL false k 3 (flatMap bm l)),(11,zN k),(12,nD i)] [⟨16,16,16,16,.b ⟨[(Tu (616+sh d) (616+sh d) (0) ((aY T1 T2 (ae L) (ae F) H l i).length) 2)],78,false⟩⟩,⟨(96+sh d),(96+sh d),(96+sh d),(96+sh d),.b ⟨[ak e,zI 1,uI 1,zI 2],81,false⟩⟩,⟨(256+sh d),(256+sh d),(256+sh d),(256+sh d),.b ⟨map dB L,5,true⟩⟩,⟨(257+sh d),(257+sh d),(257+sh d),(257+sh d),.b ⟨map dB F,5,true⟩⟩,⟨(384+sh d),(384+sh d),(384+sh d),(384+sh d),.b ⟨[TF 16 16 0],73,false⟩⟩,⟨(400+sh d),(400+sh d),(400+sh d),(400+sh d),.b ⟨flatMap dj (ae L),198,true⟩⟩,⟨(432+sh d),(432+sh d),(432+sh d),(432+sh d),.b ⟨[Tu (400+sh d) (400+sh d) 0 288 2],152,false⟩⟩,⟨(464+sh d),(464+sh d),(464+sh d),(464+sh d),.b ⟨flatMap dj (ae F),198,true⟩⟩,⟨(496+sh d),(496+sh d),(496+sh d),(496+sh d),.b ⟨[Tu (464+sh d) (464+sh d) 0 32 2],152,false⟩⟩,⟨(616+sh d),(616+sh d),(1008+sh d),(1008+sh d),.b ⟨(aY T1 T2 (ae L) (ae F) H l i).flatMap bh,81,true⟩⟩] (624+sh d)) (fun(x:(i:Nat)×'(hi:1≤i∧i≤k)×'Unit)=>match x with|⟨i,hi,_⟩=>k-i) [⟨Unit,.exit 0,fun x=>match x with|()=>TJ [(1,U9 (Ui 83) [] [TF (384+sh d) (384+sh d) 0,TF (496+sh d) (496+sh d) 0,TF (432+sh d) (432+sh d) 0]),(10,TL false k 3 (flatMap bm l)),(11,zN k),(12,nD k)] [⟨16,16,16,16,.b ⟨[(Tu (616+sh d) (616+sh d) (0) ((aY T1 T2 (ae L) (ae F) H l k).length) 2)],78,false⟩⟩,⟨(96+sh d),(96+sh d),(96+sh d),(96+sh d),.b ⟨[ak e,zI 1,uI 1,zI 2],81,false⟩⟩,⟨(256+sh d),(256+sh d),(256+sh d),(256+sh d),.b ⟨map dB L,5,true⟩⟩,⟨(257+sh d),(257+sh d),(257+sh d),(257+sh d),.b ⟨map dB F,5,true⟩⟩,⟨(384+sh d),(384+sh d),(384+sh d),(384+sh d),.b ⟨[TF 16 16 0],73,false⟩⟩,⟨(400+sh d),(400+sh d),(400+sh d),(400+sh d),.b ⟨flatMap dj (ae L),198,true⟩⟩,⟨(432+sh d),(432+sh d),(432+sh d),(432+sh d),.b ⟨[Tu (400+sh d) (400+sh d) 0 288 2],152,false⟩⟩,⟨(464+sh d),(464+sh d),(464+sh d),(464+sh d),.b ⟨flatMap dj (ae F),198,true⟩⟩,⟨(496+sh d),(496+sh d),(496+sh d),(496+sh d),.b ⟨[Tu (464+sh d) (464+sh d) 0 32 2],152,false⟩⟩,⟨(616+sh d),(616+sh d),(1008+sh d),(1008+sh d),.b ⟨(aY T1 T2 (ae L) (ae F) H l k).flatMap bh,81,true⟩⟩] (624+sh d)⟩] 1000 64 (fun|⟨i,hi,_⟩,Q,next1,last1=>(.s 2 (.bd ((i:Int)<k) (fun p2 p2f=>(.s 1 (.chk (true&&decide ((i:Int)<k)&&true) Qn (.s 2 (.chk (Tz (i*3+3) (length (flatMap bm l))) KR (.lst (take 3 (drop (i*3) (flatMap bm l))) ([aQ (Tp (Tn.lit (getD l i mb))),zN (Tn.dist (getD l i mb)),zN (Tn.long (getD l i mb))]) (aB (k:=3) (i:=i) (fun _=>rfl) om om) (.s 13 (.br ((↑(Tn.long (getD l i mb)):Int)==0) (fun p3=>have p3f:=eq_of_beq p3;(.s 8 (.op (↑(Tp (Tn.lit (getD l i mb))):Int) KS (.s 18 (.chk (true&&decide ((↑(Tp (Tn.lit (getD l i mb))):Int)<(↑288:Int))) O3 (.s 2 (.chk (Tz (0+Tp (Tn.lit (getD l i mb))*2+2) (length (flatMap dj (ae L)))) O4 (.lst (take 2 (drop (0+Tp (Tn.lit (getD l i mb))*2) (flatMap dj (ae L)))) ([ak (Ty (getD (ae L) (Tp (Tn.lit (getD l i mb))) mb)),aQ (Tm (getD (ae L) (Tp (Tn.lit (getD l i mb))) mb))]) (aB (k:=2) (i:=Tp (Tn.lit (getD l i mb))) (fun _=>rfl) kK om) (.s 18 (.op (↑(Tm (getD (ae L) (Tp (Tn.lit (getD l i mb))) mb)):Int) kK (.s 1 (.cl 107 false [] (.fn fK (@bX (Ty (getD (ae L) (Tp (Tn.lit (getD l i mb))) mb)) (Tm (getD (ae L) (Tp (Tn.lit (getD l i mb))) mb)) Fw (by(exact(fF _).2)))) (.s 16 (.op (↑(Tm (getD (ae L) (Tp (Tn.lit (getD l i mb))) mb)):Int) kK (.s 23 (.chk (true&&Tx (length (aY T1 T2 (ae L) (ae F) H l i)*2) (length (flatMap bh (aY T1 T2 (ae L) (ae F) H l i)))&&true&&true&&true&&true&&Tz ((length (aY T1 T2 (ae L) (ae F) H l i)+2)*16) 140737488355328) Qo (.s 9 (.ow ((i:Int)+1) (.s 1 (.val 12 (zI ((i:Int)+1)) (zN (i+1)) Qp (.blk 16 16 (Tq [Tu (1064+sh d) (1064+sh d) 0 (length (aY T1 T2 (ae L) (ae F) H l i)+2) 2] 78 false) (Tq [Tu (1064+sh d) (1064+sh d) 0 (length (aY T1 T2 (ae L) (ae F) H l (i+1))) 2] 78 false) (by(rw[fN om om,Tt];rfl)) (.blk (1064+sh d) (1064+sh d) (Tq (flatMap bh (aY T1 T2 (ae L) (ae F) H l i)++[ak (fL (Ty (getD (ae L) (Tp (Tn.lit (getD l i mb))) mb)) (Tm (getD (ae L) (Tp (Tn.lit (getD l i mb))) mb))),zN (Tm (getD (ae L) (Tp (Tn.lit (getD l i mb))) mb)),uI 0,zI 0]) 81 true) (Tq (flatMap bh (aY T1 T2 (ae L) (ae F) H l (i+1))) 81 true) (by(refine ay ?_;rw[fN om om,cX];rfl)) (Hn.next next1 ⟨(i+1),om,⟨⟩⟩ Qq [(16,16),((96+sh d),(96+sh d)),((256+sh d),(256+sh d)),((257+sh d),(257+sh d)),((384+sh d),(384+sh d)),((400+sh d),(400+sh d)),((432+sh d),(432+sh d)),((464+sh d),(464+sh d)),((496+sh d),(496+sh d)),((1064+sh d),(1064+sh d))] HX))))))))))))))))))))))) (fun p3=>have p3f:=am p3;(.s 7 (.cl 98 false [] (.fn J5 (@kE (T1) aD om om (Tn.long (getD l i mb)) kK kK)) (.s 35 (.chk (true&&decide ((↑(257+ao T1 (Tn.long (getD l i mb))):Int)<(↑288:Int))) Fx (.s 2 (.chk (Tz (0+(257+ao T1 (Tn.long (getD l i mb)))*2+2) (length (flatMap dj (ae L)))) Fy (.lst (take 2 (drop (0+(257+ao T1 (Tn.long (getD l i mb)))*2) (flatMap dj (ae L)))) ([ak (Ty (getD (ae L) (257+ao T1 (Tn.long (getD l i mb))) mb)),aQ (Tm (getD (ae L) (257+ao T1 (Tn.long (getD l i mb))) mb))]) (aB (k:=2) (i:=257+ao T1 (Tn.long (getD l i mb))) (fun _=>rfl) kK om) (.s 18 (.op (↑(Tm (getD (ae L) (257+ao T1 (Tn.long (getD l i mb))) mb)):Int) kK (.s 1 (.cl 107 false [] (.fn fK (@bX (Ty (getD (ae L) (257+ao T1 (Tn.long (getD l i mb))) mb)) (Tm (getD (ae L) (257+ao T1 (Tn.long (getD l i mb))) mb)) Fw (by(exact(fF _).2)))) (.s 16 (.op (↑(Tm (getD (ae L) (257+ao T1 (Tn.long (getD l i mb))) mb)):Int) kK (.s 4 (.opt (ar .u32 (↑(Tn.long (getD l i mb)-Sy.least (getD T1 (ao T1 (Tn.long (getD l i mb))) mb)):Int)) (ak (Tn.long (getD l i mb)-Sy.least (getD T1 (ao T1 (Tn.long (getD l i mb))) mb))) (aE kK) (.s 18 (.chk (true&&Tx (length (aY T1 T2 (ae L) (ae F) H l i)*2) (length (flatMap bh (aY T1 T2 (ae L) (ae F) H l i)))&&true&&true&&true&&true&&Tz ((length (aY T1 T2 (ae L) (ae F) H l i)+2)*16) 140737488355328) Qo (.s 14 (.cl 99 false [] (.fn J6 (@pd (T2) aD om om (Tn.dist (getD l i mb)) kK kK)) (.s 34 (.chk (true&&decide ((↑(ao T2 (Tn.dist (getD l i mb))):Int)<(↑32:Int))) Fx (.s 2 (.chk (Tz (0+ao T2 (Tn.dist (getD l i mb))*2+2) (length (flatMap dj (ae F)))) Fy (.lst (take 2 (drop (0+ao T2 (Tn.dist (getD l i mb))*2) (flatMap dj (ae F)))) ([ak (Ty (getD (ae F) (ao T2 (Tn.dist (getD l i mb))) mb)),aQ (Tm (getD (ae F) (ao T2 (Tn.dist (getD l i mb))) mb))]) (aB (k:=2) (i:=ao T2 (Tn.dist (getD l i mb))) (fun _=>rfl) kK om) (.s 18 (.op (↑(Tm (getD (ae F) (ao T2 (Tn.dist (getD l i mb))) mb)):Int) kK (.s 1 (.cl 107 false [] (.fn fK (@bX (Ty (getD (ae F) (ao T2 (Tn.dist (getD l i mb))) mb)) (Tm (getD (ae F) (ao T2 (Tn.dist (getD l i mb))) mb)) KU (by(exact(okF _).2)))) (.s 16 (.op (↑(Tm (getD (ae F) (ao T2 (Tn.dist (getD l i mb))) mb)):Int) kK (.s 4 (.opt (ar .u32 (↑(Tn.dist (getD l i mb)-Sy.least (getD T2 (ao T2 (Tn.dist (getD l i mb))) mb)):Int)) (ak (Tn.dist (getD l i mb)-Sy.least (getD T2 (ao T2 (Tn.dist (getD l i mb))) mb))) (aE kK) (.s 18 (.chk (true&&Tx ((length (aY T1 T2 (ae L) (ae F) H l i)+2)*2) (length (flatMap bh (aY T1 T2 (ae L) (ae F) H l i)++[ak (fL (Ty (getD (ae L) (257+ao T1 (Tn.long (getD l i mb))) mb)) (Tm (getD (ae L) (257+ao T1 (Tn.long (getD l i mb))) mb))),zN (Tm (getD (ae L) (257+ao T1 (Tn.long (getD l i mb))) mb)),ak (Tn.long (getD l i mb)-Sy.least (getD T1 (ao T1 (Tn.long (getD l i mb))) mb)),zN (Sy.bits (getD T1 (ao T1 (Tn.long (getD l i mb))) mb))]))&&true&&true&&true&&true&&Tz ((length (aY T1 T2 (ae L) (ae F) H l i)+2+2)*16) 140737488355328) Qn (.s 9 (.ow ((i:Int)+1) (.s 1 (.val 12 (zI ((i:Int)+1)) (zN (i+1)) Qp (.blk 16 16 (Tq [Tu (1840+sh d) (1840+sh d) 0 (length (aY T1 T2 (ae L) (ae F) H l i)+2+2) 2] 78 false) (Tq [Tu (1840+sh d) (1840+sh d) 0 (length (aY T1 T2 (ae L) (ae F) H l (i+1))) 2] 78 false) (by(rw[gM om om,Tt];rfl)) (.blk (1840+sh d) (1840+sh d) (Tq (flatMap bh (aY T1 T2 (ae L) (ae F) H l i)++[ak (fL (Ty (getD (ae L) (257+ao T1 (Tn.long (getD l i mb))) mb)) (Tm (getD (ae L) (257+ao T1 (Tn.long (getD l i mb))) mb))),zN (Tm (getD (ae L) (257+ao T1 (Tn.long (getD l i mb))) mb)),ak (Tn.long (getD l i mb)-Sy.least (getD T1 (ao T1 (Tn.long (getD l i mb))) mb)),zN (Sy.bits (getD T1 (ao T1 (Tn.long (getD l i mb))) mb))]++[ak (fL (Ty (getD (ae F) (ao T2 (Tn.dist (getD l i mb))) mb)) (Tm (getD (ae F) (ao T2 (Tn.dist (getD l i mb))) mb))),zN (Tm (getD (ae F) (ao T2 (Tn.dist (getD l i mb))) mb)),ak (Tn.dist (getD l i mb)-Sy.least (getD T2 (ao T2 (Tn.dist (getD l i mb))) mb)),zN (Sy.bits (getD T2 (ao T2 (Tn.dist (getD l i mb))) mb))]) 81 true) (Tq (flatMap bh (aY T1 T2 (ae L) (ae F) H l (i+1))) 81 true) O5 (Hn.next next1 ⟨(i+1),om,⟨⟩⟩ Qq [(16,16),((96+sh d),(96+sh d)),((256+sh d),(256+sh d)),((257+sh d),(257+sh d)),((384+sh d),(384+sh d)),((400+sh d),(400+sh d)),((432+sh d),(432+sh d)),((464+sh d),(464+sh d)),((496+sh d),(496+sh d)),((1840+sh d),(1840+sh d))] HX)))))))))))))))))))))))))))))))))))))))))))))))))) (fun p2 p2f=>(.val 12 (zN i) (zN k) Ls (.blk 16 16 (Tq [Tu (616+sh d) (616+sh d) 0 (length (aY T1 T2 (ae L) (ae F) H l i)) 2] 78 false) (Tq [Tu (616+sh d) (616+sh d) 0 (length (aY T1 T2 (ae L) (ae F) H l k)) 2] 78 false) Ls (.blk (616+sh d) (616+sh d) (Tq (flatMap bh (aY T1 T2 (ae L) (ae F) H l i)) 81 true) (Tq (flatMap bh (aY T1 T2 (ae L) (ae F) H l k)) 81 true) Ls (Hn.last last1 0 (():Unit) rfl [(16,16),((96+sh d),(96+sh d)),((256+sh d),(256+sh d)),((257+sh d),(257+sh d)),((384+sh d),(384+sh d)),((400+sh d),(400+sh d)),((432+sh d),(432+sh d)),((464+sh d),(464+sh d)),((496+sh d),(496+sh d)),((616+sh d),(616+sh d))] HX)))))))) (fun|⟨i,hi,_⟩=>by cases d<;>kernel_rfl) ⟨(1),om,⟨⟩⟩ [(16,16),((96+sh d),(96+sh d)),((256+sh d),(256+sh d)),((257+sh d),(257+sh d)),((384+sh d),(384+sh d)),((400+sh d),(400+sh d)),((432+sh d),(432+sh d)),((464+sh d),(464+sh d)),((496+sh d),(496+sh d)),((1008+sh d),(1008+sh d))] HX (bY (fun|()=>(.s 22 (.chk (Tz 514 (length (flatMap dj (ae L)))) Qm (.lst (take 2 (drop 512 (flatMap dj (ae L)))) ([ak (Ty (getD (ae L) 256 mb)),aQ (Tm (getD (ae L) 256 mb))]) (aB (k:=2) (i:=256) (fun _=>rfl) om om) (.s 18 (.op (↑(Tm (getD (ae L) 256 mb)):Int) pI (.s 1 (.cl 107 false [] (.fn fK (@bX (Ty (getD (ae L) 256 mb)) (Tm (getD (ae L) 256 mb)) Fw (by(exact(fF _).2)))) (.s 16 (.op (↑(Tm (getD (ae L) 256 mb)):Int) pI (.s 23 (.chk (true&&Tx (length (aY T1 T2 (ae L) (ae F) H l k)*2) (length (flatMap bh (aY T1 T2 (ae L) (ae F) H l k)))&&true&&true&&true&&true&&Tz ((length (aY T1 T2 (ae L) (ae F) H l k)+2)*16) 140737488355328) O6 (.s 9 (.out [16,(976+sh d)] [16,(976+sh d)] (TF 0 0 0) [Tq [Tu 1 1 0 (length (aY T1 T2 (ae L) (ae F) H l k)+2) 2] 78 false,Tq (flatMap bh (aY T1 T2 (ae L) (ae F) H l k)++[ak (fL (Ty (getD (ae L) 256 mb)) (Tm (getD (ae L) 256 mb))),zN (Tm (getD (ae L) 256 mb)),uI 0,zI 0]) 81 true] R (ok _ _ wr (by(rw[Tt,cX];rfl)))))))))))))))))))))))))))))))))))) (fun p1=>have p1f:=am p1;(.s 7 (.cl 98 false [] (.fn J5 (@kE (T1) aD om om (Tn.long (getD l 0 mb)) pI pI)) (.s 35 (.chk (true&&decide ((↑(257+ao T1 (Tn.long (getD l 0 mb))):Int)<(↑288:Int))) KT (.s 2 (.chk (Tz (0+(257+ao T1 (Tn.long (getD l 0 mb)))*2+2) (length (flatMap dj (ae L)))) O7 (.lst (take 2 (drop (0+(257+ao T1 (Tn.long (getD l 0 mb)))*2) (flatMap dj (ae L)))) ([ak (Ty (getD (ae L) (257+ao T1 (Tn.long (getD l 0 mb))) mb)),aQ (Tm (getD (ae L) (257+ao T1 (Tn.long (getD l 0 mb))) mb))]) (aB (k:=2) (i:=257+ao T1 (Tn.long (getD l 0 mb))) (fun _=>rfl) pI om) (.s 18 (.op (↑(Tm (getD (ae L) (257+ao T1 (Tn.long (getD l 0 mb))) mb)):Int) pI (.s 1 (.cl 107 false [] (.fn fK (@bX (Ty (getD (ae L) (257+ao T1 (Tn.long (getD l 0 mb))) mb)) (Tm (getD (ae L) (257+ao T1 (Tn.long (getD l 0 mb))) mb)) Fw (by(exact(fF _).2)))) (.s 16 (.op (↑(Tm (getD (ae L) (257+ao T1 (Tn.long (getD l 0 mb))) mb)):Int) pI (.s 4 (.opt (ar .u32 (↑(Tn.long (getD l 0 mb)-Sy.least (getD T1 (ao T1 (Tn.long (getD l 0 mb))) mb)):Int)) (ak (Tn.long (getD l 0 mb)-Sy.least (getD T1 (ao T1 (Tn.long (getD l 0 mb))) mb))) (aE pI) (.s 33 (.cl 99 false [] (.fn J6 (@pd (T2) aD om om (Tn.dist (getD l 0 mb)) pI pI)) (.s 34 (.chk (true&&decide ((↑(ao T2 (Tn.dist (getD l 0 mb))):Int)<(↑32:Int))) KT (.s 2 (.chk (Tz (0+ao T2 (Tn.dist (getD l 0 mb))*2+2) (length (flatMap dj (ae F)))) O7 (.lst (take 2 (drop (0+ao T2 (Tn.dist (getD l 0 mb))*2) (flatMap dj (ae F)))) ([ak (Ty (getD (ae F) (ao T2 (Tn.dist (getD l 0 mb))) mb)),aQ (Tm (getD (ae F) (ao T2 (Tn.dist (getD l 0 mb))) mb))]) (aB (k:=2) (i:=ao T2 (Tn.dist (getD l 0 mb))) (fun _=>rfl) pI om) (.s 18 (.op (↑(Tm (getD (ae F) (ao T2 (Tn.dist (getD l 0 mb))) mb)):Int) pI (.s 1 (.cl 107 false [] (.fn fK (@bX (Ty (getD (ae F) (ao T2 (Tn.dist (getD l 0 mb))) mb)) (Tm (getD (ae F) (ao T2 (Tn.dist (getD l 0 mb))) mb)) KU (by(exact(okF _).2)))) (.s 16 (.op (↑(Tm (getD (ae F) (ao T2 (Tn.dist (getD l 0 mb))) mb)):Int) pI (.s 4 (.opt (ar .u32 (↑(Tn.dist (getD l 0 mb)-Sy.least (getD T2 (ao T2 (Tn.dist (getD l 0 mb))) mb)):Int)) (ak (Tn.dist (getD l 0 mb)-Sy.least (getD T2 (ao T2 (Tn.dist (getD l 0 mb))) mb))) (aE pI) (.s 30 (.blk 16 16 (Tq [Tu (1784+sh d) (1784+sh d) 0 6 2] 78 false) (Tq [Tu (1784+sh d) (1784+sh d) 0 (length (aY T1 T2 (ae L) (ae F) H l 1)) 2] 78 false) (by(rw[gM (i:=0) om om,jy,hH];rfl)) (.blk (1784+sh d) (1784+sh d) (Tq [ak e,zI 1,uI 1,zI 2,ak (fL (Ty (getD (ae L) (257+ao T1 (Tn.long (getD l 0 mb))) mb)) (Tm (getD (ae L) (257+ao T1 (Tn.long (getD l 0 mb))) mb))),zN (Tm (getD (ae L) (257+ao T1 (Tn.long (getD l 0 mb))) mb)),ak (Tn.long (getD l 0 mb)-Sy.least (getD T1 (ao T1 (Tn.long (getD l 0 mb))) mb)),zN (Sy.bits (getD T1 (ao T1 (Tn.long (getD l 0 mb))) mb)),ak (fL (Ty (getD (ae F) (ao T2 (Tn.dist (getD l 0 mb))) mb)) (Tm (getD (ae F) (ao T2 (Tn.dist (getD l 0 mb))) mb))),zN (Tm (getD (ae F) (ao T2 (Tn.dist (getD l 0 mb))) mb)),ak (Tn.dist (getD l 0 mb)-Sy.least (getD T2 (ao T2 (Tn.dist (getD l 0 mb))) mb)),zN (Sy.bits (getD T2 (ao T2 (Tn.dist (getD l 0 mb))) mb))] 81 true) (Tq (flatMap bh (aY T1 T2 (ae L) (ae F) H l 1)) 81 true) (by(rw[gM (i:=0) om om,jy,hH];rfl)) (Hn.inl T_ok ai false 53 (544+sh d) (ap Try.prog 74 0) (fun(x:(i:Nat)×'(hi:1≤i∧i≤k)×'Unit)=>match x with|⟨i,hi,_⟩=>TJ [(1,U9 (Ui 83) [] [TF (384+sh d) (384+sh d) 0,TF (496+sh d) (496+sh d) 0,TF (432+sh d) (432+sh d) 0]),(10,TL false k 3 (flatMap bm l)),(11,zN k),(12,nD i)] [⟨16,16,16,16,.b ⟨[(Tu (616+sh d) (616+sh d) (0) ((aY T1 T2 (ae L) (ae F) H l i).length) 2)],78,false⟩⟩,⟨(96+sh d),(96+sh d),(96+sh d),(96+sh d),.b ⟨[ak e,zI 1,uI 1,zI 2],81,false⟩⟩,⟨(256+sh d),(256+sh d),(256+sh d),(256+sh d),.b ⟨map dB L,5,true⟩⟩,⟨(257+sh d),(257+sh d),(257+sh d),(257+sh d),.b ⟨map dB F,5,true⟩⟩,⟨(384+sh d),(384+sh d),(384+sh d),(384+sh d),.b ⟨[TF 16 16 0],73,false⟩⟩,⟨(400+sh d),(400+sh d),(400+sh d),(400+sh d),.b ⟨flatMap dj (ae L),198,true⟩⟩,⟨(432+sh d),(432+sh d),(432+sh d),(432+sh d),.b ⟨[Tu (400+sh d) (400+sh d) 0 288 2],152,false⟩⟩,⟨(464+sh d),(464+sh d),(464+sh d),(464+sh d),.b ⟨flatMap dj (ae F),198,true⟩⟩,⟨(496+sh d),(496+sh d),(496+sh d),(496+sh d),.b ⟨[Tu (464+sh d) (464+sh d) 0 32 2],152,false⟩⟩,⟨(616+sh d),(616+sh d),(1784+sh d),(1784+sh d),.b ⟨(aY T1 T2 (ae L) (ae F) H l i).flatMap bh,81,true⟩⟩] (624+sh d)) (fun(x:(i:Nat)×'(hi:1≤i∧i≤k)×'Unit)=>match x with|⟨i,hi,_⟩=>k-i) [⟨Unit,.exit 0,fun x=>match x with|()=>TJ [(1,U9 (Ui 83) [] [TF (384+sh d) (384+sh d) 0,TF (496+sh d) (496+sh d) 0,TF (432+sh d) (432+sh d) 0]),(10,TL false k 3 (flatMap bm l)),(11,zN k),(12,nD k)] [⟨16,16,16,16,.b ⟨[(Tu (616+sh d) (616+sh d) (0) ((aY T1 T2 (ae L) (ae F) H l k).length) 2)],78,false⟩⟩,⟨(96+sh d),(96+sh d),(96+sh d),(96+sh d),.b ⟨[ak e,zI 1,uI 1,zI 2],81,false⟩⟩,⟨(256+sh d),(256+sh d),(256+sh d),(256+sh d),.b ⟨map dB L,5,true⟩⟩,⟨(257+sh d),(257+sh d),(257+sh d),(257+sh d),.b ⟨map dB F,5,true⟩⟩,⟨(384+sh d),(384+sh d),(384+sh d),(384+sh d),.b ⟨[TF 16 16 0],73,false⟩⟩,⟨(400+sh d),(400+sh d),(400+sh d),(400+sh d),.b ⟨flatMap dj (ae L),198,true⟩⟩,⟨(432+sh d),(432+sh d),(432+sh d),(432+sh d),.b ⟨[Tu (400+sh d) (400+sh d) 0 288 2],152,false⟩⟩,⟨(464+sh d),(464+sh d),(464+sh d),(464+sh d),.b ⟨flatMap dj (ae F),198,true⟩⟩,⟨(496+sh d),(496+sh d),(496+sh d),(496+sh d),.b ⟨[Tu (464+sh d) (464+sh d) 0 32 2],152,false⟩⟩,⟨(616+sh d),(616+sh d),(1784+sh d),(1784+sh d),.b ⟨(aY T1 T2 (ae L) (ae F) H l k).flatMap bh,81,true⟩⟩] (624+sh d)⟩] 1000 64 (fun|⟨i,hi,_⟩,Q,next1,last1=>(.s 2 (.bd ((i:Int)<k) (fun p4 p4f=>(.s 1 (.chk (true&&decide ((i:Int)<k)&&true) Qn (.s 2 (.chk (Tz (i*3+3) (length (flatMap bm l))) KR (.lst (take 3 (drop (i*3) (flatMap bm l))) ([aQ (Tp (Tn.lit (getD l i mb))),zN (Tn.dist (getD l i mb)),zN (Tn.long (getD l i mb))]) (aB (k:=3) (i:=i) (fun _=>rfl) om om) (.s 13 (.br ((↑(Tn.long (getD l i mb)):Int)==0) (fun p5=>have p5f:=eq_of_beq p5;(.s 8 (.op (↑(Tp (Tn.lit (getD l i mb))):Int) KS (.s 18 (.chk (true&&decide ((↑(Tp (Tn.lit (getD l i mb))):Int)<(↑288:Int))) O3 (.s 2 (.chk (Tz (0+Tp (Tn.lit (getD l i mb))*2+2) (length (flatMap dj (ae L)))) O4 (.lst (take 2 (drop (0+Tp (Tn.lit (getD l i mb))*2) (flatMap dj (ae L)))) ([ak (Ty (getD (ae L) (Tp (Tn.lit (getD l i mb))) mb)),aQ (Tm (getD (ae L) (Tp (Tn.lit (getD l i mb))) mb))]) (aB (k:=2) (i:=Tp (Tn.lit (getD l i mb))) (fun _=>rfl) kK om) (.s 18 (.op (↑(Tm (getD (ae L) (Tp (Tn.lit (getD l i mb))) mb)):Int) kK (.s 1 (.cl 107 false [] (.fn fK (@bX (Ty (getD (ae L) (Tp (Tn.lit (getD l i mb))) mb)) (Tm (getD (ae L) (Tp (Tn.lit (getD l i mb))) mb)) Fw (by(exact(fF _).2)))) (.s 16 (.op (↑(Tm (getD (ae L) (Tp (Tn.lit (getD l i mb))) mb)):Int) kK (.s 23 (.chk (true&&Tx (length (aY T1 T2 (ae L) (ae F) H l i)*2) (length (flatMap bh (aY T1 T2 (ae L) (ae F) H l i)))&&true&&true&&true&&true&&Tz ((length (aY T1 T2 (ae L) (ae F) H l i)+2)*16) 140737488355328) Qo (.s 9 (.ow ((i:Int)+1) (.s 1 (.val 12 (zI ((i:Int)+1)) (zN (i+1)) Qp (.blk 16 16 (Tq [Tu (1064+sh d) (1064+sh d) 0 (length (aY T1 T2 (ae L) (ae F) H l i)+2) 2] 78 false) (Tq [Tu (1064+sh d) (1064+sh d) 0 (length (aY T1 T2 (ae L) (ae F) H l (i+1))) 2] 78 false) (by(rw[fN om om,Tt];rfl)) (.blk (1064+sh d) (1064+sh d) (Tq (flatMap bh (aY T1 T2 (ae L) (ae F) H l i)++[ak (fL (Ty (getD (ae L) (Tp (Tn.lit (getD l i mb))) mb)) (Tm (getD (ae L) (Tp (Tn.lit (getD l i mb))) mb))),zN (Tm (getD (ae L) (Tp (Tn.lit (getD l i mb))) mb)),uI 0,zI 0]) 81 true) (Tq (flatMap bh (aY T1 T2 (ae L) (ae F) H l (i+1))) 81 true) (by(refine ay ?_;rw[fN om om,cX];rfl)) (Hn.next next1 ⟨(i+1),om,⟨⟩⟩ Qq [(16,16),((96+sh d),(96+sh d)),((256+sh d),(256+sh d)),((257+sh d),(257+sh d)),((384+sh d),(384+sh d)),((400+sh d),(400+sh d)),((432+sh d),(432+sh d)),((464+sh d),(464+sh d)),((496+sh d),(496+sh d)),((1064+sh d),(1064+sh d))] HX))))))))))))))))))))))) (fun p5=>have p5f:=am p5;(.s 7 (.cl 98 false [] (.fn J5 (@kE (T1) aD om om (Tn.long (getD l i mb)) kK kK)) (.s 35 (.chk (true&&decide ((↑(257+ao T1 (Tn.long (getD l i mb))):Int)<(↑288:Int))) Fx (.s 2 (.chk (Tz (0+(257+ao T1 (Tn.long (getD l i mb)))*2+2) (length (flatMap dj (ae L)))) Fy (.lst (take 2 (drop (0+(257+ao T1 (Tn.long (getD l i mb)))*2) (flatMap dj (ae L)))) ([ak (Ty (getD (ae L) (257+ao T1 (Tn.long (getD l i mb))) mb)),aQ (Tm (getD (ae L) (257+ao T1 (Tn.long (getD l i mb))) mb))]) (aB (k:=2) (i:=257+ao T1 (Tn.long (getD l i mb))) (fun _=>rfl) kK om) (.s 18 (.op (↑(Tm (getD (ae L) (257+ao T1 (Tn.long (getD l i mb))) mb)):Int) kK (.s 1 (.cl 107 false [] (.fn fK (@bX (Ty (getD (ae L) (257+ao T1 (Tn.long (getD l i mb))) mb)) (Tm (getD (ae L) (257+ao T1 (Tn.long (getD l i mb))) mb)) Fw (by(exact(fF _).2)))) (.s 16 (.op (↑(Tm (getD (ae L) (257+ao T1 (Tn.long (getD l i mb))) mb)):Int) kK (.s 4 (.opt (ar .u32 (↑(Tn.long (getD l i mb)-Sy.least (getD T1 (ao T1 (Tn.long (getD l i mb))) mb)):Int)) (ak (Tn.long (getD l i mb)-Sy.least (getD T1 (ao T1 (Tn.long (getD l i mb))) mb))) (aE kK) (.s 18 (.chk (true&&Tx (length (aY T1 T2 (ae L) (ae F) H l i)*2) (length (flatMap bh (aY T1 T2 (ae L) (ae F) H l i)))&&true&&true&&true&&true&&Tz ((length (aY T1 T2 (ae L) (ae F) H l i)+2)*16) 140737488355328) Qo (.s 14 (.cl 99 false [] (.fn J6 (@pd (T2) aD om om (Tn.dist (getD l i mb)) kK kK)) (.s 34 (.chk (true&&decide ((↑(ao T2 (Tn.dist (getD l i mb))):Int)<(↑32:Int))) Fx (.s 2 (.chk (Tz (0+ao T2 (Tn.dist (getD l i mb))*2+2) (length (flatMap dj (ae F)))) Fy (.lst (take 2 (drop (0+ao T2 (Tn.dist (getD l i mb))*2) (flatMap dj (ae F)))) ([ak (Ty (getD (ae F) (ao T2 (Tn.dist (getD l i mb))) mb)),aQ (Tm (getD (ae F) (ao T2 (Tn.dist (getD l i mb))) mb))]) (aB (k:=2) (i:=ao T2 (Tn.dist (getD l i mb))) (fun _=>rfl) kK om) (.s 18 (.op (↑(Tm (getD (ae F) (ao T2 (Tn.dist (getD l i mb))) mb)):Int) kK (.s 1 (.cl 107 false [] (.fn fK (@bX (Ty (getD (ae F) (ao T2 (Tn.dist (getD l i mb))) mb)) (Tm (getD (ae F) (ao T2 (Tn.dist (getD l i mb))) mb)) KU (by(exact(okF _).2)))) (.s 16 (.op (↑(Tm (getD (ae F) (ao T2 (Tn.dist (getD l i mb))) mb)):Int) kK (.s 4 (.opt (ar .u32 (↑(Tn.dist (getD l i mb)-Sy.least (getD T2 (ao T2 (Tn.dist (getD l i mb))) mb)):Int)) (ak (Tn.dist (getD l i mb)-Sy.least (getD T2 (ao T2 (Tn.dist (getD l i mb))) mb))) (aE kK) (.s 18 (.chk (true&&Tx ((length (aY T1 T2 (ae L) (ae F) H l i)+2)*2) (length (flatMap bh (aY T1 T2 (ae L) (ae F) H l i)++[ak (fL (Ty (getD (ae L) (257+ao T1 (Tn.long (getD l i mb))) mb)) (Tm (getD (ae L) (257+ao T1 (Tn.long (getD l i mb))) mb))),zN (Tm (getD (ae L) (257+ao T1 (Tn.long (getD l i mb))) mb)),ak (Tn.long (getD l i mb)-Sy.least (getD T1 (ao T1 (Tn.long (getD l i mb))) mb)),zN (Sy.bits (getD T1 (ao T1 (Tn.long (getD l i mb))) mb))]))&&true&&true&&true&&true&&Tz ((length (aY T1 T2 (ae L) (ae F) H l i)+2+2)*16) 140737488355328) Qn (.s 9 (.ow ((i:Int)+1) (.s 1 (.val 12 (zI ((i:Int)+1)) (zN (i+1)) Qp (.blk 16 16 (Tq [Tu (1840+sh d) (1840+sh d) 0 (length (aY T1 T2 (ae L) (ae F) H l i)+2+2) 2] 78 false) (Tq [Tu (1840+sh d) (1840+sh d) 0 (length (aY T1 T2 (ae L) (ae F) H l (i+1))) 2] 78 false) (by(rw[gM om om,Tt];rfl)) (.blk (1840+sh d) (1840+sh d) (Tq (flatMap bh (aY T1 T2 (ae L) (ae F) H l i)++[ak (fL (Ty (getD (ae L) (257+ao T1 (Tn.long (getD l i mb))) mb)) (Tm (getD (ae L) (257+ao T1 (Tn.long (getD l i mb))) mb))),zN (Tm (getD (ae L) (257+ao T1 (Tn.long (getD l i mb))) mb)),ak (Tn.long (getD l i mb)-Sy.least (getD T1 (ao T1 (Tn.long (getD l i mb))) mb)),zN (Sy.bits (getD T1 (ao T1 (Tn.long (getD l i mb))) mb))]++[ak (fL (Ty (getD (ae F) (ao T2 (Tn.dist (getD l i mb))) mb)) (Tm (getD (ae F) (ao T2 (Tn.dist (getD l i mb))) mb))),zN (Tm (getD (ae F) (ao T2 (Tn.dist (getD l i mb))) mb)),ak (Tn.dist (getD l i mb)-Sy.least (getD T2 (ao T2 (Tn.dist (getD l i mb))) mb)),zN (Sy.bits (getD T2 (ao T2 (Tn.dist (getD l i mb))) mb))]) 81 true) (Tq (flatMap bh (aY T1 T2 (ae L) (ae F) H l (i+1))) 81 true) O5 (Hn.next next1 ⟨(i+1),om,⟨⟩⟩ Qq [(16,16),((96+sh d),(96+sh d)),((256+sh d),(256+sh d)),((257+sh d),(257+sh d)),((384+sh d),(384+sh d)),((400+sh d),(400+sh d)),((432+sh d),(432+sh d)),((464+sh d),(464+sh d)),((496+sh d),(496+sh d)),((1840+sh d),(1840+sh d))] HX)))))))))))))))))))))))))))))))))))))))))))))))))) (fun p4 p4f=>(.val 12 (zN i) (zN k) Ls (.blk 16 16 (Tq [Tu (616+sh d) (616+sh d) 0 (length (aY T1 T2 (ae L) (ae F) H l i)) 2] 78 false) (Tq [Tu (616+sh d) (616+sh d) 0 (length (aY T1 T2 (ae L) (ae F) H l k)) 2] 78 false) Ls (.blk (616+sh d) (616+sh d) (Tq (flatMap bh (aY T1 T2 (ae L) (ae F) H l i)) 81 true) (Tq (flatMap bh (aY T1 T2 (ae L) (ae F) H l k)) 81 true) Ls (Hn.last last1 0 (():Unit) rfl [(16,16),((96+sh d),(96+sh d)),((256+sh d),(256+sh d)),((257+sh d),(257+sh d)),((384+sh d),(384+sh d)),((400+sh d),(400+sh d)),((432+sh d),(432+sh d)),((464+sh d),(464+sh d)),((496+sh d),(496+sh d)),((616+sh d),(616+sh d))] HX)))))))) (fun|⟨i,hi,_⟩=>by cases d<;>kernel_rfl) ⟨(1),om,⟨⟩⟩ [(16,16),((96+sh d),(96+sh d)),((256+sh d),(256+sh d)),((257+sh d),(257+sh d)),((384+sh d),(384+sh d)),((400+sh d),(400+sh d)),((432+sh d),(432+sh d)),((464+sh d),(464+sh d)),((496+sh d),(496+sh d)),((1784+sh d),(1784+sh d))] HX (bY (fun|()=>(.s 22 (.chk (Tz 514 (length (flatMap dj (ae L)))) Qm (.lst (take 2 (drop 512 (flatMap dj (ae L)))) ([ak (Ty (getD (ae L) 256 mb)),aQ (Tm (getD (ae L) 256 mb))]) (aB (k:=2) (i:=256) (fun _=>rfl) om om) (.s 18 (.op (↑(Tm (getD (ae L) 256 mb)):Int) pI (.s 1 (.cl 107 false [] (.fn fK (@bX (Ty (getD (ae L) 256 mb)) (Tm (getD (ae L) 256 mb)) Fw (by(exact(fF _).2)))) (.s 16 (.op (↑(Tm (getD (ae L) 256 mb)):Int) pI (.s 23 (.chk (true&&Tx (length (aY T1 T2 (ae L) (ae F) H l k)*2) (length (flatMap bh (aY T1 T2 (ae L) (ae F) H l k)))&&true&&true&&true&&true&&Tz ((length (aY T1 T2 (ae L) (ae F) H l k)+2)*16) 140737488355328) O6 (.s 9 (.out [16,(976+sh d)] [16,(976+sh d)] (TF 0 0 0) [Tq [Tu 1 1 0 (length (aY T1 T2 (ae L) (ae F) H l k)+2) 2] 78 false,Tq (flatMap bh (aY T1 T2 (ae L) (ae F) H l k)++[ak (fL (Ty (getD (ae L) 256 mb)) (Tm (getD (ae L) 256 mb))),zN (Tm (getD (ae L) 256 mb)),uI 0,zI 0]) 81 true] R (ok _ _ wr (by(rw[Tt,cX];rfl))))))))))))))))))))))))))))))))))))))))))))))))))))))))))))) (fun p0 p0f=>(.s 22 (.chk (Tz 514 (length (flatMap dj (ae L)))) Qm (.lst (take 2 (drop 512 (flatMap dj (ae L)))) ([ak (Ty (getD (ae L) 256 mb)),aQ (Tm (getD (ae L) 256 mb))]) (aB (k:=2) (i:=256) (fun _=>rfl) om om) (.s 18 (.op (↑(Tm (getD (ae L) 256 mb)):Int) pI (.s 1 (.cl 107 false [] (.fn fK (@bX (Ty (getD (ae L) 256 mb)) (Tm (getD (ae L) 256 mb)) Fw (by(exact(fF _).2)))) (.s 16 (.op (↑(Tm (getD (ae L) 256 mb)):Int) pI (.s 33 (.out [16,(928+sh d)] [16,(928+sh d)] (TF 0 0 0) [Tq [Tu 1 1 0 4 2] 78 false,Tq [ak e,zI 1,uI 1,zI 2,ak (fL (Ty (getD (ae L) 256 mb)) (Tm (getD (ae L) 256 mb))),zN (Tm (getD (ae L) 256 mb)),uI 0,zI 0] 81 true] R (ok _ _ wr (by(rw[show k=0 from by omega,jy,hH];rfl))))))))))))))))) .nil))))))):Hn Try.prog)) (fun t h=>SpecH.run T_ok ai Try.func29 rfl rfl rfl ⟨rfl,iT (fun _=>rfl) _,trivial⟩ rfl 1000 64 (fun R ok=>.s 43 (t true 1 H hH hHl R ok)) h) (fun t h=>SpecH.run T_ok ai Try.func29 rfl rfl rfl ⟨rfl,iT (fun _=>rfl) _,trivial⟩ rfl 1000 64 (fun R ok=>.s 42 (t false 0 H' hH' hHl' R ok)) h) kr kr
theorem O8 (l:List Tn)(k:Nat)(hk:k=l.length)(hk2:k≤65535)(hl:∀i,ef (l.getD i mb))(T1 T2:List Sy)(hT1:T1=au)(hT2:T2=aA)(hl1:T1.length=29)(hl2:T2.length=30)(hz1:bW T1)(hz2:bW T2)(L F:List UInt8)(hL:L=bz)(hF:F=cU)(hLl:L.length=288)(hFl:F.length=32)(hcL:aC L 15=0)(hcF:aC F 15=0)(hmL:(ae L).length=288)(hmF:(ae F).length=32)(fF:pc (ae L))(okF:pc (ae F))(H:List Nm)(hH:H=jW 1 1)(hHl:H.length=2)(a:Nat)(ha:a≤7)(raw:List UInt8)(r:Nat)(hr:r=raw.length)(hr2:r≤65535):S0 29 [nD a,dG 1,.sl false r 1 (raw.map dB),.sl false k 3 (l.flatMap bm),.v (.bool true)] [] (.ptr 0 0 0) [⟨[.ref 1 1 0 (aY T1 T2 (ae L) (ae F) H l k++fW (ae L) 256 0 0).length 2], 78,false⟩,⟨(aY T1 T2 (ae L) (ae F) H l k++fW (ae L) 256 0 0).flatMap bh, 81,true⟩]:=(HY l k hk hk2 hl T1 T2 hT1 hT2 hl1 hl2 hz1 hz2 L F hL hF hLl hFl hcL hcF hmL hmF fF okF a ha raw r hr hr2 H hH hHl _ rfl rfl).1
theorem O9 (l:List Tn)(k:Nat)(hk:k=l.length)(hk2:k≤65535)(hl:∀i,ef (l.getD i mb))(T1 T2:List Sy)(hT1:T1=au)(hT2:T2=aA)(hl1:T1.length=29)(hl2:T2.length=30)(hz1:bW T1)(hz2:bW T2)(L F:List UInt8)(hL:L=bz)(hF:F=cU)(hLl:L.length=288)(hFl:F.length=32)(hcL:aC L 15=0)(hcF:aC F 15=0)(hmL:(ae L).length=288)(hmF:(ae F).length=32)(fF:pc (ae L))(okF:pc (ae F))(H:List Nm)(hH:H=jW 0 1)(hHl:H.length=2)(a:Nat)(ha:a≤7)(raw:List UInt8)(r:Nat)(hr:r=raw.length)(hr2:r≤65535):S0 29 [nD a,dG 1,.sl false r 1 (raw.map dB),.sl false k 3 (l.flatMap bm),.v (.bool false)] [] (.ptr 0 0 0) [⟨[.ref 1 1 0 (aY T1 T2 (ae L) (ae F) H l k++fW (ae L) 256 0 0).length 2], 78,false⟩,⟨(aY T1 T2 (ae L) (ae F) H l k++fW (ae L) 256 0 0).flatMap bh, 81,true⟩]:=(HY l k hk hk2 hl T1 T2 hT1 hT2 hl1 hl2 hz1 hz2 L F hL hF hLl hFl hcL hcF hmL hmF fF okF a ha raw r hr hr2 _ rfl rfl H hH hHl).2
end Vp
end Go.Proofs.Ytefjnofhgkjpmaa
namespace Go.Proofs.Ytefjnofhgkjpmaa
open Go.RowKit Go.Bw Go.Vx
namespace Vp
theorem SpecH.frz {al:Bool}{P:Program}{f:FuncId}{ds:List D}{n sz:Nat}{cells:List D}{t:TypeId}{rw':Bool}(h:SpecH al P f ds [] (.ref 0 0 0 n sz) [⟨cells,t,rw'⟩])(hn:cells.length=n*sz)(hs:0<sz)(hc:af cells=true):SpecH al P f ds [] (.sl false n sz cells) []:=by
 refine⟨TD _,fun O φ w args hO hh hi hl ha=>(h.2 O φ w args hO hh hi hl ha).mono ?_⟩
 rintro e w' ⟨u,rfl,hf,ψ,g1,g2,g3,g4,g5⟩
 refine⟨u,rfl,hf,φ,fun j hj=>rfl,?_,fun j b hb=>by simp at hb,fun i j x h1=>absurd h1 (UR i),fun j x h1 h2=>absurd h2 (UR j)⟩
 have hB:=(g3 0 _ rfl).1
 have own:∀b,(eW (jh al O w) φ 0).own b→b<w.heap.size:=fun b q=>by
  rcases q with q|⟨j,hj,_⟩
  ·unfold jh at q;split at q
   ·exact hO b q
   ·exact q
  ·exact absurd hj (UR j)
 have hst:Stp (eW (jh al O w) ψ 1).cl (eW (jh al O w) φ 0).cl w' w':=⟨fun g hg=>hg.elim,fun g hg=>hg.elim,TD _,fun b _ hb=>⟨fun q=>hb (by
  rcases q with q|⟨j,hj,_⟩
  ·exact .inl q
  ·exact absurd hj (UR j)),rfl⟩,fun _ _=>rfl⟩
 obtain⟨hnm,hB⟩:=hB
 cases g2 with
 |refn _ _ _ hg hb=>
  have h0:cells=[]:=Ua (by rw[hn,Vd])
  subst h0
  exact .sl false 0 sz [] none 0 [] rfl (fun i d u h=>by simp at h) (fun u h=>by cases h) (by simp) hs ⟨TD _,T7 _⟩ (fun _=>⟨rfl,rfl⟩) (.inl rfl)
 |ref _ _ _ _ _ c b off' t' m hg hb hcc ho hsh hm=>
  rw[hb]at hB
  obtain⟨_,hlt,cur,fr,hheap,hfr,hle,_,hcell⟩:=hB
  have hcell:∀(i:Nat) d,cells[i]? =some d→∃u,cur[i]? =some u∧u.oneCell'=true∧RD (eW (jh al O w) ψ 1) w' d u:=hcell
  have hle:cells.length≤cur.size:=hle
  have hul:(cur.toList.take cells.length).length=cells.length:=UD (by rw[W9];exact hle)
  have hget:∀(i:Nat) u,(cur.toList.take cells.length)[i]? =some u→i<cells.length∧cur[i]? =some u:=fun i u hu=>by
   rw[Un]at hu
   split at hu
   ·next q=>exact⟨q,by simpa using hu⟩
   ·cases hu
  refine .sl false n sz cells (some ⟨b,off',none⟩) c (cur.toList.take cells.length) hul (fun i d u h1 h2=>?_) (fun u hu=>?_) hn hs hcc (fun q=>by cases q) ?_
  ·obtain⟨_,h2⟩:=hget i u h2
   obtain⟨u',q1,_,q3⟩:=hcell i d h1
   rw[h2]at q1;cases q1
   exact(q3.weak (bn hc h1)).step hst
  ·obtain⟨i,hi⟩:=Ux hu
   obtain⟨q0,q1⟩:=hget i u hi
   obtain⟨u',y1,y2,_⟩:=hcell i _ (Ts q0)
   rw[q1]at y1;cases y1;exact y2
  ·rcases ho with ho|⟨ho,_⟩
   ·refine .inr ⟨b,off',rfl,hlt,fun q=>?_,fun i u hu=>?_⟩
    ·have:=g5 0 b (T7 _) VW hb
     have:=own b q;omega
    ·rw[ho,T0,cell_of_row w' b i cur t fr hheap];exact(hget i u hu).2
   ·exact .inl ho
end Vp
end Go.Proofs.Ytefjnofhgkjpmaa
namespace Go.Proofs.Ytefjnofhgkjpmaa
open Go.RowKit Go.Bw Go.Vx
open List (length getD map take drop flatMap replicate)
namespace Vp
theorem FB {p:Prop}(h:p:=by(refine aT ?_;(omega))):p:=h
theorem KV {p:Prop}(h:p:=by(refine decide_eq_true ?_;(omega))):p:=h
theorem Pa {p:Prop}(h:p:=by((refine aJ ?_ ?_)<;>(repeat' (first|(refine aJ ?_ ?_)|(with_reducible rfl)|(refine decide_eq_true ?_)|(refine Tv ?_)|(refine fx ?_)))<;>(omega))):p:=h
def px (a b:Nat):Int:=if a<b then -1 else if b<a then 1 else 0
theorem Pb {a b:Nat}(h:(a:Int)<b):px a b= -1:=if_pos (by omega)
theorem Pd {a b:Nat}(h:¬(a:Int)<b)(h2:(b:Int)<a):px a b=1:=(if_neg (by omega)).trans (if_pos (by omega))
theorem Pe {a b:Nat}(h:¬(a:Int)<b)(h2:¬(b:Int)<a):px a b=0:=(if_neg (by omega)).trans (if_neg (by omega))
theorem CN (a b:Nat):px a b<0↔a<b:=by
 unfold px;split
 ·omega
 ·split<;>omega
def swp (X:List Nat)(i j:Nat):List Nat:=lk X ((X.set i (X.getD j mb)).set j (X.getD i mb))
theorem sB (X:List Nat)(i j:Nat):swp X i j=(X.set i (X.getD j mb)).set j (X.getD i mb):=aw _ _
theorem iO (X:List Nat)(i j:Nat):(swp X i j).length=X.length:=by rw[sB,VG,VG]
theorem KW {M:List Nat}{o a:Nat}(ho:o<M.length):aj (M.map nD) o [nD a]=(M.set o a).map nD:=by
 apply Uu
 intro i
 rw[ci (by simp only[TH,Ud];omega),TN,TN,U3]
 simp only[Ud]
 by_cases hi:o=i
 ·subst hi
  rw[if_pos (by omega),if_pos rfl,if_pos ho,UJ];rfl
 ·rw[if_neg (by omega),if_neg hi]
theorem yx {X:List Nat}{i j i' j' i2 j2:Nat}(hi:i<X.length)(hj:j<X.length)(h1:i'=i)(h2:j'=j)(h3:i2=i)(h4:j2=j):aj (aj (X.map nD) i' [D.v (.int .i64 ((X.getD j2 mb:Nat):Int))]) j' [D.v (.int .i64 ((X.getD i2 mb:Nat):Int))]=(swp X i j).map nD:=by
 subst h1 h2 h3 h4
 rw[show D.v (.int .i64 ((X.getD j2 mb:Nat):Int))=nD (X.getD j2 mb)from rfl,KW hi,show D.v (.int .i64 ((X.getD i2 mb:Nat):Int))=nD (X.getD i2 mb)from rfl,KW (by rw[VG];exact hj),sB]
theorem FC {X:List Nat}{o m:Nat}{z:Int}(ho:o<X.length)(hm:m≤X.length):(true&&m.ble (aj (X.map nD) o [D.v (.int .i64 z)]).length)=true:=by
 rw[dX (by rw[TH,Ud];omega),TH,Ub]
 exact Tv hm
def Pf (X:List Nat)(a b:Nat):Nat→List Nat
 |0=>X
 |k+1=>swp (Pf X a b k) (a+k) (b+k)
theorem yy (X:List Nat)(a b:Nat):∀k,(Pf X a b k).length=X.length
 |0=>rfl
 |k+1=>by rw[Pf,iO,yy X a b k]
def fE (X:List Nat)(a b k:Nat):List Nat:=lk X (Pf X a b k)
theorem sC (X:List Nat)(a b k:Nat):fE X a b k=Pf X a b k:=aw _ _
theorem eU (X:List Nat)(a b k:Nat):(fE X a b k).length=X.length:=by rw[sC,yy]
theorem HZ (X:List Nat)(a b:Nat):fE X a b 0=X:=sC X a b 0
theorem H0 (X:List Nat)(a b k:Nat):swp (fE X a b k) (a+k) (b+k)=fE X a b (k+1):=by rw[sC,sC];rfl
theorem KX (a b:Nat):S0 122 [nD a,nD b] [] (iD (px a b)) []:=by
 refine SpecH.run T_ok ai Try.func122 rfl rfl rfl trivial rfl 1000 64 (fun R ok=>(.s 22 (.f ((a:Int) !=(a:Int)) (by(simp;done)) (.s 1 (.f ((b:Int) !=(b:Int)) (by(simp;done)) (.s 4 (.bd ((a:Int)<b) (fun p0 p0f=>(.s 1 (.out [] [] (zI (-1)) [] R (ok _ _ (by(rw[Pb om])) wr)))) (fun p0 p0f=>(.s 4 (.bd ((b:Int)<a) (fun p1 p1f=>(.s 1 (.out [] [] (zI 1) [] R (ok _ _ (by(rw[Pd om om])) wr)))) (fun p1 p1f=>(.s 1 (.out [] [] (zI 0) [] R (ok _ _ (by(rw[Pe om om])) wr)))))))))))))) kr
theorem u9 (W:List Nat)(L:Nat)(hL:L=W.length)(x y:Nat)(hx:x<L)(hy:y<L):S1 121 [nD x,nD y,.ptr 0 0 0] [⟨[.sl false L 1 (W.map nD)], 41,false⟩] (iD (px (W.getD x mb) (W.getD y mb))) [⟨[.sl false L 1 (W.map nD)], 41,false⟩]:=by
 refine SpecH.run T_ok ai Try.func121 rfl rfl rfl ⟨rfl,trivial⟩ rfl 1000 64 (fun R ok=>(.s 7 (.chk (true&&decide ((x:Int)<L)&&true) Pa (.s 2 (.opt ((map nD W)[x*1]?) (nD (getD W (x*1) mb)) (aq _ _ om) (.s 5 (.chk (true&&decide ((y:Int)<L)&&true) Pa (.s 2 (.opt ((map nD W)[y*1]?) (nD (getD W (y*1) mb)) (aq _ _ om) (.s 1 (.cl 122 false [] (.fn Rd (@KX (getD W (x*1) mb) (getD W (y*1) mb))) (.s 1 (.out [0] [0] (zI (px (getD W (x*1) mb) (getD W (y*1) mb))) [Tq [TL false L 1 (map nD W)] 41 false] R (ok _ _ (by(rw[TZ,TZ])) wr)))))))))))))) kr
theorem Pg (X:List Nat)(N:Nat)(hN:N=X.length)(hN2:N≤1000)(W:List Nat)(L:Nat)(hL:L=W.length)(a b n:Nat)(h1:a+n≤N)(h2:b+n≤N):S1 137 [.ref 0 0 0 N 1,nD a,nD b,nD n,.fn (.func 121) [] [.ptr 1 1 0]] [⟨X.map nD, 3,true⟩,⟨[.sl false L 1 (W.map nD)], 41,false⟩] (.tup []) [⟨(fE X a b n).map nD, 3,true⟩,⟨[.sl false L 1 (W.map nD)], 41,false⟩]:=by
 refine SpecH.run T_ok ai Try.func137 rfl rfl rfl ⟨fa _,rfl,trivial⟩ rfl 1000 64 (fun R ok=>(.s 1 (.blk 0 0 (Tq (map nD X) 3 true) (Tq (map nD (fE X a b 0)) 3 true) (by(rw[HZ];done)) (Hn.inl T_ok ai false 38 2 (ap Try.prog 137 0) (fun(x:(i:Nat)×'(hi:i≤n)×'Unit)=>match x with|⟨i,hi,_⟩=>TJ [(0,Tu 0 0 0 N 1),(1,zN a),(2,zN b),(3,zN n),(10,nD i)] [⟨0,0,0,0,.b ⟨(fE X a b i).map nD,3,true⟩⟩,⟨1,1,1,1,.b ⟨[TL false L 1 (map nD W)],41,false⟩⟩] 24) (fun(x:(i:Nat)×'(hi:i≤n)×'Unit)=>match x with|⟨i,hi,_⟩=>n-i) [⟨Unit,.exit 0,fun x=>match x with|()=>TJ [(0,Tu 0 0 0 N 1),(1,zN a),(2,zN b),(3,zN n)] [⟨0,0,0,0,.b ⟨(fE X a b n).map nD,3,true⟩⟩,⟨1,1,1,1,.b ⟨[TL false L 1 (map nD W)],41,false⟩⟩] 24⟩] 1000 64 (fun|⟨i,hi,_⟩,Q,next1,last1=>(.s 4 (.bd ((i:Int)<n) (fun p0 p0f=>(.s 6 (.ow ((a:Int)+i) (.s 5 (.ow ((b:Int)+i) (.s 5 (.ow ((b:Int)+i) (.s 1 (.chk (true&&decide ((b:Int)+i<N)) KV (.s 2 (.opt ((map nD (fE X a b i))[0+zK ((b:Int)+i)*1]?) (nD (getD (fE X a b i) (0+zK ((b:Int)+i)*1) mb)) (aq _ _ (by(have h9:=eU X a b i;omega))) (.s 5 (.ow ((a:Int)+i) (.s 1 (.chk (true&&decide ((a:Int)+i<N)) KV (.s 2 (.opt ((map nD (fE X a b i))[0+zK ((a:Int)+i)*1]?) (nD (getD (fE X a b i) (0+zK ((a:Int)+i)*1) mb)) (aq _ _ (by(have h9:=eU X a b i;omega))) (.s 1 (.chk (true&&decide ((a:Int)+i<N)) KV (.s 1 (.chk (true&&Tz (0+zK ((a:Int)+i)*1+1) (length (map nD (fE X a b i)))) (by(simp;have h9:=eU X a b i;omega)) (.lst (aj (map nD (fE X a b i)) (0+zK ((a:Int)+i)*1) [zN (getD (fE X a b i) (0+zK ((b:Int)+i)*1) mb)]) (aj (map nD (fE X a b i)) (zK ((a:Int)+i)) [zN (getD (fE X a b i) (zK ((b:Int)+i)) mb)]) (by(simp;done)) (.s 1 (.chk (true&&decide ((b:Int)+i<N)) KV (.s 1 (.chk (true&&Tz (0+zK ((b:Int)+i)*1+1) (length (aj (map nD (fE X a b i)) (zK ((a:Int)+i)) [zN (getD (fE X a b i) (zK ((b:Int)+i)) mb)]))) (by(have h9:=eU X a b i;exact FC om om)) (.lst (aj (aj (map nD (fE X a b i)) (zK ((a:Int)+i)) [zN (getD (fE X a b i) (zK ((b:Int)+i)) mb)]) (0+zK ((b:Int)+i)*1) [zN (getD (fE X a b i) (0+zK ((a:Int)+i)*1) mb)]) (aj (aj (map nD (fE X a b i)) (zK ((a:Int)+i)) [zN (getD (fE X a b i) (zK ((b:Int)+i)) mb)]) (zK ((b:Int)+i)) [zN (getD (fE X a b i) (zK ((a:Int)+i)) mb)]) (by(simp;done)) (.s 3 (.ow ((i:Int)+1) (.s 1 (.val 10 (zI ((i:Int)+1)) (zN (i+1)) FB (.blk 0 0 (Tq (aj (aj (map nD (fE X a b i)) (zK ((a:Int)+i)) [zN (getD (fE X a b i) (zK ((b:Int)+i)) mb)]) (zK ((b:Int)+i)) [zN (getD (fE X a b i) (zK ((a:Int)+i)) mb)]) 3 true) (Tq (map nD (fE X a b (i+1))) 3 true) (by(have h9:=eU X a b i;refine ay (Xm (yx (i:=a+i) (j:=b+i) om om om om om om) ?_);rw[H0])) (Hn.next next1 ⟨(i+1),om,⟨⟩⟩ (by show n-(i+1)<n-i;clear next1 last1;omega) [(0,0),(1,1)] ro))))))))))))))))))))))))))))))))) (fun p0 p0f=>(.blk 0 0 (Tq (map nD (fE X a b i)) 3 true) (Tq (map nD (fE X a b n)) 3 true) (by(rw[show i=n from by(omega)])) (Hn.last last1 0 (():Unit) rfl [(0,0),(1,1)] ro)))))) (fun|⟨i,hi,_⟩=>by kernel_rfl) ⟨(0),om,⟨⟩⟩ [(0,0),(1,1)] ro (bY (fun|()=>(.out [0,1] [0,1] (Uw []) [Tq (map nD (fE X a b n)) 3 true,Tq [TL false L 1 (map nD W)] 41 false] R (ok _ _ wr wr)))))))) kr
def i4 (m:Nat):Nat→Nat→Nat→List Nat→List Nat
 |0,i,_,X=>fE X (m-i) m i
 |f+1,i,j,X=>if i=j then fE X (m-i) m i else if j<i then i4 m f (i-j) j (fE X (m-i) m j)else i4 m f i (j-i) (fE X (m-i) (m+j-i) i)
theorem Ph {m f i j:Nat}{X:List Nat}(h:i=j):i4 m f i j X=fE X (m-i) m i:=by
 cases f with
 |zero=>rfl
 |succ f=>exact if_pos h
theorem Pi {m f i j:Nat}{X:List Nat}(h:j<i):i4 m (f+1) i j X=i4 m f (i-j) j (fE X (m-i) m j):=(if_neg (by omega)).trans (if_pos h)
theorem Pj {m f i j:Nat}{X:List Nat}(h:i<j):i4 m (f+1) i j X=i4 m f i (j-i) (fE X (m-i) (m+j-i) i):=(if_neg (by omega)).trans (if_neg (by omega))
def CP (X:List Nat)(a m b:Nat):List Nat:=lk X (i4 m (b-a) (m-a) (b-m) X)
theorem yz (X:List Nat)(a m b:Nat):CP X a m b=i4 m (b-a) (m-a) (b-m) X:=aw _ _
def inI (W:List Nat)(a:Nat):Nat→List Nat→List Nat
 |0,X=>X
 |j+1,X=>if a<j+1∧W.getD (X.getD (j+1) mb) mb<W.getD (X.getD j mb) mb then inI W a j (swp X (j+1) j)else X
theorem Pk {W:List Nat}{a j k:Nat}{X:List Nat}(hk:k+1=j)(h:a<j)(h2:W.getD (X.getD j mb) mb<W.getD (X.getD k mb) mb):inI W a j X=inI W a k (swp X j k):=by
 subst hk;exact if_pos ⟨h,h2⟩
theorem H1 {W:List Nat}{a j:Nat}{X:List Nat}(h:¬a<j∨¬W.getD (X.getD j mb) mb<W.getD (X.getD (j-1) mb) mb):inI W a j X=X:=by
 cases j with
 |zero=>rfl
 |succ j=>exact if_neg (fun q=>by rcases h with h|h;exact h q.1;exact h q.2)
theorem yA {W:List Nat}{a:Nat}:∀(j:Nat) (X:List Nat),(inI W a j X).length=X.length
 |0,_=>rfl
 |j+1,X=>by
  rw[inI];split
  ·rw[yA j,iO]
  ·rfl
def Pl (W X:List Nat)(a:Nat):Nat→List Nat
 |0=>X
 |k+1=>inI W a (a+1+k) (Pl W X a k)
theorem yB (W X:List Nat)(a:Nat):∀k,(Pl W X a k).length=X.length
 |0=>rfl
 |k+1=>by rw[Pl,yA,yB W X a k]
def inQ (W X:List Nat)(a k:Nat):List Nat:=lk X (Pl W X a k)
theorem sD (W X:List Nat)(a k:Nat):inQ W X a k=Pl W X a k:=aw _ _
theorem lw (W X:List Nat)(a k:Nat):(inQ W X a k).length=X.length:=by rw[sD,yB]
theorem CQ (W X:List Nat)(a:Nat):inQ W X a 0=X:=sD W X a 0
theorem CS (W X:List Nat)(a k:Nat):inI W a (a+1+k) (inQ W X a k)=inQ W X a (k+1):=by rw[sD,sD];rfl
theorem H2 (X:List Nat)(N:Nat)(hN:N=X.length)(hN2:N≤1000)(W:List Nat)(L:Nat)(hL:L=W.length)(a b n:Int)(a' b' n':Nat)(e1:a=a')(e2:b=b')(e3:n=n')(h1:a'+n'≤N)(h2:b'+n'≤N):S1 137 [.ref 0 0 0 N 1,iD a,iD b,iD n,.fn (.func 121) [] [.ptr 1 1 0]] [⟨X.map nD, 3,true⟩,⟨[.sl false L 1 (W.map nD)], 41,false⟩] (.tup []) [⟨(fE X a' b' n').map nD, 3,true⟩,⟨[.sl false L 1 (W.map nD)], 41,false⟩]:=by
 subst e1 e2 e3
 exact Pg X N hN hN2 W L hL a' b' n' h1 h2
theorem H6 (X:List Nat)(N:Nat)(hN:N=X.length)(hN2:N≤1000)(W:List Nat)(L:Nat)(hL:L=W.length)(m i j:Nat)(h1:i≤m)(h2:m+j≤N)(h3:j≤i):S1 137 [.ref 0 0 0 N 1,iD ((m:Int)-i),iD ((m:Nat):Int),nD j,.fn (.func 121) [] [.ptr 1 1 0]] [⟨X.map nD, 3,true⟩,⟨[.sl false L 1 (W.map nD)], 41,false⟩] (.tup []) [⟨(fE X (m-i) m j).map nD, 3,true⟩,⟨[.sl false L 1 (W.map nD)], 41,false⟩]:=H2 X N hN hN2 W L hL _ _ _ (m-i) m j (by omega) rfl rfl (by omega) (by omega)
theorem Pm (X:List Nat)(N:Nat)(hN:N=X.length)(hN2:N≤1000)(W:List Nat)(L:Nat)(hL:L=W.length)(m i j:Nat)(h1:i≤m)(h2:m+j≤N)(h3:i≤j):S1 137 [.ref 0 0 0 N 1,iD ((m:Int)-i),iD ((m:Int)+j-i),nD i,.fn (.func 121) [] [.ptr 1 1 0]] [⟨X.map nD, 3,true⟩,⟨[.sl false L 1 (W.map nD)], 41,false⟩] (.tup []) [⟨(fE X (m-i) (m+j-i) i).map nD, 3,true⟩,⟨[.sl false L 1 (W.map nD)], 41,false⟩]:=H2 X N hN hN2 W L hL _ _ _ (m-i) (m+j-i) i (by omega) (by omega) rfl (by omega) (by omega)
theorem KY {m f i j:Nat}{X T:List Nat}(hR:i4 m f i j X=T)(hf:i+j≤f)(h1:1≤j)(h:j<i):i4 m (f-1) (i-j) j (fE X (m-i) m j)=T:=by
 obtain⟨g,rfl⟩:∃g,f=g+1:=⟨f-1,by omega⟩
 rw[←hR,Pi h];rfl
theorem KZ {m f i j:Nat}{X T:List Nat}(hR:i4 m f i j X=T)(hf:i+j≤f)(h1:1≤i)(h:i<j):i4 m (f-1) i (j-i) (fE X (m-i) (m+j-i) i)=T:=by
 obtain⟨g,rfl⟩:∃g,f=g+1:=⟨f-1,by omega⟩
 rw[←hR,Pj h];rfl
theorem K0 {m f i j:Nat}{X T:List Nat}(hR:i4 m f i j X=T)(h:i=j):fE X (m-i) m i=T:=by rw[←hR,Ph h]
theorem Pn (X:List Nat)(N:Nat)(hN:N=X.length)(hN2:N≤1000)(W:List Nat)(L:Nat)(hL:L=W.length)(a m b:Nat)(h1:a<m)(h2:m<b)(h3:b≤N)(T:List Nat)(hT:CP X a m b=T):S1 135 [.ref 0 0 0 N 1,nD a,nD m,nD b,.fn (.func 121) [] [.ptr 1 1 0]] [⟨X.map nD, 3,true⟩,⟨[.sl false L 1 (W.map nD)], 41,false⟩] (.tup []) [⟨(T).map nD, 3,true⟩,⟨[.sl false L 1 (W.map nD)], 41,false⟩]:=by
 refine SpecH.run T_ok ai Try.func135 rfl rfl rfl ⟨fa _,rfl,trivial⟩ rfl 1000 64 (fun R ok=>(.s 4 (.ow ((m:Int)-a) (.s 5 (.ow ((b:Int)-m) (.s 1 (.val 10 (zI ((m:Int)-a)) (zN (m-a)) FB (.val 11 (zI ((b:Int)-m)) (zN (b-m)) FB (Hn.inl T_ok ai false 58 2 (ap Try.prog 135 0) (fun(x:(i:Nat)×'(j:Nat)×'(f:Nat)×'(Y:List Nat)×'(hY:Y.length=N)×'(hi:1≤i∧i≤m)×'(hj:1≤j∧m+j≤N)×'(hf:i+j≤f)×'(hR:i4 m f i j Y=T)×'Unit)=>match x with|⟨i,j,f,Y,hY,hi,hj,hf,hR,_⟩=>TJ [(0,Tu 0 0 0 N 1),(2,zN m),(4,U9 (Ui 121) [] [TF 1 1 0]),(10,nD i),(11,nD j)] [⟨0,0,0,0,.b ⟨Y.map nD,3,true⟩⟩,⟨1,1,1,1,.b ⟨[TL false L 1 (map nD W)],41,false⟩⟩] 24) (fun(x:(i:Nat)×'(j:Nat)×'(f:Nat)×'(Y:List Nat)×'(hY:Y.length=N)×'(hi:1≤i∧i≤m)×'(hj:1≤j∧m+j≤N)×'(hf:i+j≤f)×'(hR:i4 m f i j Y=T)×'Unit)=>match x with|⟨i,j,f,Y,hY,hi,hj,hf,hR,_⟩=>i+j) [⟨(i2:Nat)×'(Y2:List Nat)×'(hY2:Y2.length=N)×'(hi2:1≤i2∧i2≤m∧m+i2≤N)×'(hR2:fE Y2 (m-i2) m i2=T)×'Unit,.exit 0,fun x=>match x with|⟨i2,Y2,hY2,hi2,hR2,_⟩=>TJ [(0,Tu 0 0 0 N 1),(2,zN m),(4,U9 (Ui 121) [] [TF 1 1 0]),(10,nD i2),(11,nD i2)] [⟨0,0,0,0,.b ⟨Y2.map nD,3,true⟩⟩,⟨1,1,1,1,.b ⟨[TL false L 1 (map nD W)],41,false⟩⟩] 24⟩] 1000 64 (fun|⟨i,j,f,Y,hY,hi,hj,hf,hR,_⟩,Q,next1,last1=>(.s 4 (.br ((i:Int) !=(j:Int)) (fun p0=>have p0f:=bE p0;(.s 4 (.bd ((j:Int)<i) (fun p1 p1f=>(.s 5 (.ow ((m:Int)-i) (.s 4 (.call 137 true [0,1] (true) wr ([Tu 0 0 0 N 1,zI ((m:Int)-i),zN m,zN j,U9 (Ui 121) [] [TF 1 1 0]]) _ (cj.refl _) (af (map nD Y)&&true) (by(simp;done)) _ _ _ (TW (az.of Try.func137 rfl rfl) (@H6 (Y) (N) om om (W) (L) om (m) (i) (j) om om om)) (.s 4 (.ow ((i:Int)-j) (.s 1 (.val 10 (zI ((i:Int)-j)) (zN (i-j)) FB (Hn.next next1 ⟨(i-j),(j),(f-1),(fE Y (m-i) m j),(by(rw[eU];(omega))),om,om,om,(by(exact KY hR om om om)),⟨⟩⟩ (by show i-j+j<i+j;clear next1 last1;omega) [(0,0),(1,1)] ro)))))))))) (fun p1 p1f=>(.s 5 (.ow ((m:Int)-i) (.s 4 (.ow ((m:Int)+j) (.s 3 (.ow ((m:Int)+j-i) (.s 3 (.call 137 true [0,1] (true) wr ([Tu 0 0 0 N 1,zI ((m:Int)-i),zI ((m:Int)+j-i),zN i,U9 (Ui 121) [] [TF 1 1 0]]) _ (cj.refl _) (af (map nD Y)&&true) (by(simp;done)) _ _ _ (TW (az.of Try.func137 rfl rfl) (@Pm (Y) (N) om om (W) (L) om (m) (i) (j) om om om)) (.s 4 (.ow ((j:Int)-i) (.s 1 (.val 11 (zI ((j:Int)-i)) (zN (j-i)) FB (Hn.next next1 ⟨(i),(j-i),(f-1),(fE Y (m-i) (m+j-i) i),(by(rw[eU];(omega))),om,om,om,(by(exact KZ hR om om om)),⟨⟩⟩ (by show i+(j-i)<i+j;clear next1 last1;omega) [(0,0),(1,1)] ro))))))))))))))))) (fun p0=>have p0f:=bF p0;(.val 11 (zN j) (zN i) FB (Hn.last last1 0 (⟨(i),(Y),om,om,(by(rw[K0 hR om])),⟨⟩⟩:(i2:Nat)×'(Y2:List Nat)×'(hY2:Y2.length=N)×'(hi2:1≤i2∧i2≤m∧m+i2≤N)×'(hR2:fE Y2 (m-i2) m i2=T)×'Unit) rfl [(0,0),(1,1)] ro)))))) (fun|⟨i,j,f,Y,hY,hi,hj,hf,hR,_⟩=>by kernel_rfl) ⟨(m-a),(b-m),(b-a),(X),om,om,om,om,(by(exact(yz X a m b).symm.trans hT)),⟨⟩⟩ [(0,0),(1,1)] ro (bY (fun|⟨i2,Y2,hY2,hi2,hR2,_⟩=>(.s 5 (.ow ((m:Int)-i2) (.s 4 (.call 137 true [0,1] (true) wr ([Tu 0 0 0 N 1,zI ((m:Int)-i2),zN m,zN i2,U9 (Ui 121) [] [TF 1 1 0]]) _ (cj.refl _) (af (map nD Y2)&&true) (by(simp;done)) _ _ _ (TW (az.of Try.func137 rfl rfl) (@H6 (Y2) (N) om om (W) (L) om (m) (i2) (i2) om om om)) (.out [0,1] [0,1] (Uw []) [Tq (map nD (fE Y2 (m-i2) m i2)) 3 true,Tq [TL false L 1 (map nD W)] 41 false] R (ok _ _ wr (by(simp_all;done))))))))))))))))))) kr
def bM (L:Nat)(X:List Nat):Prop:=∀x∈X,x<L
theorem bM.at {L:Nat}{X:List Nat}(h:bM L X){t:Nat}(ht:t<X.length):X.getD t mb<L:=by
 rw[To,Ts ht];exact h _ (Uo ht)
theorem bM.swp {L:Nat}{X:List Nat}(h:bM L X){i j:Nat}(hi:i<X.length)(hj:j<X.length):bM L (swp X i j):=by
 intro x hx
 rw[sB]at hx
 rcases Xo hx with q|q
 ·rcases Xo q with q|q
  ·exact h x q
  ·rw[q];exact h.at hj
 ·rw[q];exact h.at hi
theorem bM.inI {L:Nat}{W:List Nat}{a:Nat}:∀(j:Nat) {X:List Nat},bM L X→j<X.length→bM L (inI W a j X)
 |0,_,h,_=>h
 |j+1,X,h,hj=>by
  rw[Vp.inI];split
  ·exact bM.inI j (h.swp hj (by omega)) (by rw[iO];omega)
  ·exact h
theorem bM.inQ {L:Nat}{W X:List Nat}{a:Nat}(h:bM L X):∀(k:Nat),a+k<X.length→bM L (inQ W X a k)
 |0,_=>by rw[CQ];exact h
 |k+1,hk=>by
  rw[←CS]
  exact bM.inI _ (bM.inQ h k (by omega)) (by rw[lw];omega)
theorem K1 {W Y T:List Nat}{a j u v:Nat}(hR:inI W a j Y=T)(h:a<j)(hu:u=j)(hv:v=j-1)(h2:px (W.getD (Y.getD u mb) mb) (W.getD (Y.getD v mb) mb)<0):inI W a (j-1) (swp Y j (j-1))=T:=by
 subst hu hv
 rw[←hR];exact(Pk (by omega) h ((CN _ _).1 h2)).symm
theorem K3 {W Y T:List Nat}{a j:Nat}(hR:inI W a j Y=T)(h:¬a<j):Y=T:=by rw[←hR,H1 (.inl h)]
theorem K4 {W Y T:List Nat}{a j u v:Nat}(hR:inI W a j Y=T)(hu:u=j)(hv:v=j-1)(h2:¬px (W.getD (Y.getD u mb) mb) (W.getD (Y.getD v mb) mb)<0):Y=T:=by
 subst hu hv
 rw[←hR,H1 (.inr fun q=>h2 ((CN _ _).2 q))]
theorem Po (X:List Nat)(N:Nat)(hN:N=X.length)(hN2:N≤1000)(W:List Nat)(L:Nat)(hL:L=W.length)(hA:bM L X)(a b:Nat)(h1:a≤b)(h3:b≤N)(T:List Nat)(hT:inQ W X a (b-(a+1))=T):S1 131 [.ref 0 0 0 N 1,nD a,nD b,.fn (.func 121) [] [.ptr 1 1 0]] [⟨X.map nD, 3,true⟩,⟨[.sl false L 1 (W.map nD)], 41,false⟩] (.tup []) [⟨(T).map nD, 3,true⟩,⟨[.sl false L 1 (W.map nD)], 41,false⟩]:=by
 refine SpecH.run T_ok ai Try.func131 rfl rfl rfl ⟨fa _,rfl,trivial⟩ rfl 1000 64 (fun R ok=>(.s 3 (.ow ((a:Int)+1) (.s 1 (.val 8 (zI ((a:Int)+1)) (zN (a+1+0)) FB (.blk 0 0 (Tq (map nD X) 3 true) (Tq (map nD (inQ W X a 0)) 3 true) (by(rw[CQ];done)) (Hn.inl T_ok ai false 53 2 (ap Try.prog 131 0) (fun(x:(k:Nat)×'(hk:k≤b-(a+1))×'Unit)=>match x with|⟨k,hk,_⟩=>TJ [(0,Tu 0 0 0 N 1),(1,zN a),(2,zN b),(3,U9 (Ui 121) [] [TF 1 1 0]),(8,nD (a+1+k))] [⟨0,0,0,0,.b ⟨(inQ W X a k).map nD,3,true⟩⟩,⟨1,1,1,1,.b ⟨[TL false L 1 (map nD W)],41,false⟩⟩] 24) (fun(x:(k:Nat)×'(hk:k≤b-(a+1))×'Unit)=>match x with|⟨k,hk,_⟩=>b-(a+1)-k) [⟨Unit,.exit 0,fun x=>match x with|()=>TJ [(0,Tu 0 0 0 N 1),(1,zN a),(2,zN b),(3,U9 (Ui 121) [] [TF 1 1 0])] [⟨0,0,0,0,.b ⟨T.map nD,3,true⟩⟩,⟨1,1,1,1,.b ⟨[TL false L 1 (map nD W)],41,false⟩⟩] 24⟩] 1000 64 (fun|⟨k,hk,_⟩,Q,next1,last1=>(.s 4 (.bd ((↑(a+1+k):Int)<(b:Int)) (fun p0 p0f=>(.s 2 (Hn.inl T_ok ai false 53 2 (ap Try.prog 131 1) (fun(x:(j:Nat)×'(Y:List Nat)×'(hY:Y.length=N)×'(hj:a≤j∧j≤a+1+k)×'(hB:bM L Y)×'(hR:inI W a j Y=inQ W X a (k+1))×'Unit)=>match x with|⟨j,Y,hY,hj,hB,hR,_⟩=>TJ [(0,Tu 0 0 0 N 1),(1,zN a),(2,zN b),(3,U9 (Ui 121) [] [TF 1 1 0]),(8,zN (a+1+k)),(9,nD j)] [⟨0,0,0,0,.b ⟨Y.map nD,3,true⟩⟩,⟨1,1,1,1,.b ⟨[TL false L 1 (map nD W)],41,false⟩⟩] 24) (fun(x:(j:Nat)×'(Y:List Nat)×'(hY:Y.length=N)×'(hj:a≤j∧j≤a+1+k)×'(hB:bM L Y)×'(hR:inI W a j Y=inQ W X a (k+1))×'Unit)=>match x with|⟨j,Y,hY,hj,hB,hR,_⟩=>j) [⟨Unit,.exit 2,fun x=>match x with|()=>TJ [(0,Tu 0 0 0 N 1),(1,zN a),(2,zN b),(3,U9 (Ui 121) [] [TF 1 1 0]),(8,zN (a+1+k))] [⟨0,0,0,0,.b ⟨(inQ W X a (k+1)).map nD,3,true⟩⟩,⟨1,1,1,1,.b ⟨[TL false L 1 (map nD W)],41,false⟩⟩] 24⟩] 1000 64 (fun|⟨j,Y,hY,hj,hB,hR,_⟩,Q,next2,last2=>(.s 7 (.bd ((a:Int)<j) (fun p1 p1f=>(.s 6 (.chk (true&&decide ((j:Int)<N)) KV (.s 3 (.opt ((map nD Y)[0+j*1]?) (nD (getD Y (0+j*1) mb)) (aq _ _ om) (.s 7 (.ow ((j:Int)-1) (.s 2 (.chk (decide (0≤(j:Int)-1)&&decide ((j:Int)-1<N)) Pa (.s 3 (.opt ((map nD Y)[0+zK ((j:Int)-1)*1]?) (nD (getD Y (0+zK ((j:Int)-1)*1) mb)) (aq _ _ om) (.s 2 (.cl 121 true [1] (.fn Cb (@u9 (W) (L) om (getD Y (0+j*1) mb) (getD Y (0+zK ((j:Int)-1)*1) mb) (by(exact hB.at om)) (by(exact hB.at om)))) (.s 4 (.bd (px (getD W (getD Y (0+j*1) mb) mb) (getD W (getD Y (0+zK ((j:Int)-1)*1) mb) mb)<0) (fun p2 p2f=>(.s 7 (.ow ((j:Int)-1) (.s 4 (.ow ((j:Int)-1) (.s 1 (.chk (decide (0≤(j:Int)-1)&&decide ((j:Int)-1<N)) Pa (.s 2 (.opt ((map nD Y)[0+zK ((j:Int)-1)*1]?) (nD (getD Y (0+zK ((j:Int)-1)*1) mb)) (aq _ _ om) (.s 3 (.chk (true&&decide ((j:Int)<N)) KV (.s 2 (.opt ((map nD Y)[0+j*1]?) (nD (getD Y (0+j*1) mb)) (aq _ _ om) (.s 1 (.chk (true&&decide ((j:Int)<N)) KV (.s 1 (.chk (true&&Tz (0+j*1+1) (length (map nD Y))) (by(simp;have h9:=lw W X a k;omega)) (.lst (aj (map nD Y) (0+j*1) [zN (getD Y (0+zK ((j:Int)-1)*1) mb)]) (aj (map nD Y) j [zN (getD Y (zK ((j:Int)-1)) mb)]) (by(simp;done)) (.s 1 (.chk (decide (0≤(j:Int)-1)&&decide ((j:Int)-1<N)) Pa (.s 1 (.chk (true&&Tz (0+zK ((j:Int)-1)*1+1) (length (aj (map nD Y) j [zN (getD Y (zK ((j:Int)-1)) mb)]))) (by(exact FC om om)) (.lst (aj (aj (map nD Y) j [zN (getD Y (zK ((j:Int)-1)) mb)]) (0+zK ((j:Int)-1)*1) [zN (getD Y (0+j*1) mb)]) (aj (aj (map nD Y) j [zN (getD Y (zK ((j:Int)-1)) mb)]) (zK ((j:Int)-1)) [zN (getD Y j mb)]) (by(simp;done)) (.s 3 (.ow ((j:Int)-1) (.s 1 (.val 9 (zI ((j:Int)-1)) (zN (j-1)) FB (.blk 0 0 (Tq (aj (aj (map nD Y) j [zN (getD Y (zK ((j:Int)-1)) mb)]) (zK ((j:Int)-1)) [zN (getD Y j mb)]) 3 true) (Tq (map nD (swp Y j (j-1))) 3 true) (by(exact ay (yx om om om om om om))) (Hn.next next2 ⟨(j-1),(swp Y j (j-1)),(by(rw[iO];(omega))),om,(by(exact hB.swp om om)),(by(exact K1 (u:=0+j*1) (v:=0+((j:Int)-1).toNat*1) hR om om om aD)),⟨⟩⟩ (by show j-1<j;clear next2 last2 next1 last1;omega) [(0,0),(1,1)] ro))))))))))))))))))))))))))))) (fun p2 p2f=>(.blk 0 0 (Tq (map nD Y) 3 true) (Tq (map nD (inQ W X a (k+1))) 3 true) (by(rw[K4 (u:=0+j*1) (v:=0+((j:Int)-1).toNat*1) hR om om aD])) (Hn.last last2 0 (():Unit) rfl [(0,0),(1,1)] ro)))))))))))))))))) (fun p1 p1f=>(.s 24 (.blk 0 0 (Tq (map nD Y) 3 true) (Tq (map nD (inQ W X a (k+1))) 3 true) (by(rw[K3 hR om])) (Hn.last last2 0 (():Unit) rfl [(0,0),(1,1)] ro))))))) (fun|⟨j,Y,hY,hj,hB,hR,_⟩=>by kernel_rfl) ⟨(a+1+k),(inQ W X a k),(by(have h9:=lw W X a k;omega)),om,(by(have h9:=lw W X a k;exact bM.inQ hA k om)),(by(exact CS W X a k)),⟨⟩⟩ [(0,0),(1,1)] ro (bY (fun|()=>(.s 3 (.ow ((↑(a+1+k):Int)+1) (.s 1 (.val 8 (zI ((↑(a+1+k):Int)+1)) (zN (a+1+(k+1))) FB (Hn.next next1 ⟨(k+1),om,⟨⟩⟩ (by show b-(a+1)-(k+1)<b-(a+1)-k;clear next1 last1;omega) [(0,0),(1,1)] ro)))))))))) (fun p0 p0f=>(.blk 0 0 (Tq (map nD (inQ W X a k)) 3 true) (Tq (map nD T) 3 true) (by(rw[←hT,show b-(a+1)=k from by omega])) (Hn.last last1 0 (():Unit) rfl [(0,0),(1,1)] ro)))))) (fun|⟨k,hk,_⟩=>by kernel_rfl) ⟨(0),om,⟨⟩⟩ [(0,0),(1,1)] ro (bY (fun|()=>(.out [0,1] [0,1] (Uw []) [Tq (map nD T) 3 true,Tq [TL false L 1 (map nD W)] 41 false] R (ok _ _ wr wr))))))))))) kr
end Vp
end Go.Proofs.Ytefjnofhgkjpmaa

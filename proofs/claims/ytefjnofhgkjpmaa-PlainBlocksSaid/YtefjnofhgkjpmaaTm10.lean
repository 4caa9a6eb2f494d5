/- Part 10. -/
import Derived.Test.YtefjnofhgkjpmaaTm9
set_option linter.unusedVariables false
set_option linter.unusedSimpArgs false
set_option maxRecDepth 100000
set_option maxHeartbeats 4000000
open And renaming intro → Ut
open Bool renaming and_eq_true → Tw, and_true → Uh, toNat_le → Wh, true_and → Ub
open Go.Fn renaming func → Ui
open Go.Vx.Blk renaming mk → Tq
open Go.Vx.CallOk renaming fn → TW
open Go.Vx.CutS renaming mk → TJ
open Go.Vx.D renaming agg → UA, fn → U9, ptr → TF, ref → Tu, sl → TL
open Inhabited renaming default → mb
open List renaming append_assoc → TG, append_nil → Ue, flatMap_append → UV, flatMap_cons → UC, getD_eq_getElem?_getD → To, getElem?_append_left → TQ, getElem?_append_right → TO, getElem?_drop → UM, getElem?_eq_getElem → Ts, getElem?_map → TN, getElem?_of_mem → Ux, getElem?_range → UO, getElem?_take → Un, getElem_mem → Uo, length_append → Tt, length_cons → T3, length_map → TH, length_nil → Vj, length_take → TR, map_append → Uq, map_replicate → Vu, mem_append_left → U2, mem_append_right → Wj, mem_of_getElem? → UB, mem_of_mem_take → U1, not_mem_nil → Wv, replicate → TK, replicate_succ' → XS, take_of_length_le → T9, take_succ_eq_append_getElem → T8, take_zero → XT
open Nat renaming add_assoc → UF, add_zero → VD, beq → Tx, beq_eq → Xj, beq_refl → Uz, ble → Tz, ble_eq → Vs, ble_eq_true_of_le → Tv, div_div_eq_div_mul → XB, div_eq_of_lt → WQ, div_one → YI, le_of_ble_eq_true → TC, le_refl → TD, le_trans → T6, lt_of_lt_of_le → Ug, lt_or_ge → T5, mod_eq_of_lt → UZ, mod_lt → Xk, mod_one → YK, mul_assoc → UU, mul_comm → Ve, mul_one → TZ, not_lt_zero → UR, one_mul → XR, pow_succ → Us, pow_zero → Xd, sub_self → UJ, sub_zero → WK, testBit → YL, testBit_eq_decide_div_mod_eq → V7, testBit_succ → Yx, testBit_zero → Yw, two_pow_pos → UY, zero_add → T0, zero_le → T7
open Prod renaming fst → Ty, snd → Tm
open UInt8 renaming ofNat → Um, toNat → Tp, toNat_lt → UH, toNat_ofNat' → U6
namespace Go.Proofs.Ytefjnofhgkjpmaa
open Go.RowKit Go.Bw Go.Vx
open List (length getD map take drop flatMap replicate)
namespace Vp
theorem ib {p:Prop}(h:p:=by(have h9:=hl i;have h5:=UH (l.getD i mb).lit;have h2:=bK hT1 hT2 (hl i);have h1:=inA.1 i om;have h8:=oA (l.getD i mb).lit.toNat;have h4:=oA (257+ao T1 (l.getD i mb).long);have h3:=oB (ao T2 (l.getD i mb).dist);have y1:=hz1 (ao T1 (l.getD i mb).long);have y2:=hz2 (ao T2 (l.getD i mb).dist);have y3:=oA 256;have h7:=cw (T1:=T1) (T2:=T2) (A:=ae (A.take n1)) (B:=ae (B.take n2)) (H:=H5) (l:=l) i om;unfold ef at h9;omega)):p:=h
theorem nv {p:Prop}(h:p:=by cases d<;>repeat' first|exact trivial|exact rfl|exact(fun _=>du _)|exact(fun _=>by assumption)|exact(fun _=>cu _ (fun _=>rfl) _)|exact(fun _=>fy (fun _=>rfl) _)|(intro h;cases h;done)|(intro _;rfl)|(intro _;exact dM _ (cu _ (fun _=>rfl) _))|exact mc _ (cu _ (fun _=>rfl) _)|refine Ut ?_ ?_|refine iB ?_ ?_|(intro _;refine ej ?_ ?_)|refine ej ?_ ?_|(intro _;refine jn ?_ ?_)|exact dM _ (cu _ (fun _=>rfl) _)|exact cu _ (fun _=>rfl) _):p:=h
theorem q9 {p:Prop}(h:p:=by(have h9:=hl 0;have h5:=UH (l.getD 0 mb).lit;have h2:=bK hT1 hT2 (hl 0);have h1:=inA.1 0 om;have h8:=oA (l.getD 0 mb).lit.toNat;have h4:=oA (257+ao T1 (l.getD 0 mb).long);have h3:=oB (ao T2 (l.getD 0 mb).dist);have y1:=hz1 (ao T1 (l.getD 0 mb).long);have y2:=hz2 (ao T2 (l.getD 0 mb).dist);have y3:=oA 256;have h7:=cw (T1:=T1) (T2:=T2) (A:=ae (A.take n1)) (B:=ae (B.take n2)) (H:=H5) (l:=l) 0 om;unfold ef at h9;omega)):p:=h
theorem tb {p:Prop}(h:p:=by(simp;have y3:=oA 256;omega)):p:=h
theorem w4 {p:Prop}(h:p:=by(first|omega|(simp only[Tt,dA,T3,Vj,Ub,Uh,Tw,Xj,Vs];omega))):p:=h
theorem DC {p:Prop}(h:p:=by(refine aT ?_;(omega))):p:=h
theorem DN {p:Prop}(h:p:=by(exact T6 (oA _).1 (by decide))):p:=h
theorem F8 {p:Prop}(h:p:=by(refine decide_eq_true ?_;have h9:=hl i;have h5:=UH (l.getD i mb).lit;have h2:=bK hT1 hT2 (hl i);have h1:=inA.1 i om;have h8:=oA (l.getD i mb).lit.toNat;have h4:=oA (257+ao T1 (l.getD i mb).long);have h3:=oB (ao T2 (l.getD i mb).dist);have y1:=hz1 (ao T1 (l.getD i mb).long);have y2:=hz2 (ao T2 (l.getD i mb).dist);have y3:=oA 256;have h7:=cw (T1:=T1) (T2:=T2) (A:=ae (A.take n1)) (B:=ae (B.take n2)) (H:=H5) (l:=l) i om;unfold ef at h9;omega)):p:=h
theorem F9 {p:Prop}(h:p:=by(rw[show i=k from by omega])):p:=h
theorem IB {p:Prop}(h:p:=by exact(Ut (D.sim.slw rfl (cn (by(simp;have y3:=oA 256;omega))|>.trans rfl)) (qr trivial))):p:=h
theorem ze {p:Prop}(h:p:=by show k-(i+1)<k-i;clear next1 last1;omega):p:=h
theorem zf {p:Prop}(h:p:=by(rw[gC];have h9:=hl i;have h5:=UH (l.getD i mb).lit;have h2:=bK hT1 hT2 (hl i);have h1:=inA.1 i om;have h8:=oA (l.getD i mb).lit.toNat;have h4:=oA (257+ao T1 (l.getD i mb).long);have h3:=oB (ao T2 (l.getD i mb).dist);have y1:=hz1 (ao T1 (l.getD i mb).long);have y2:=hz2 (ao T2 (l.getD i mb).dist);have y3:=oA 256;have h7:=cw (T1:=T1) (T2:=T2) (A:=ae (A.take n1)) (B:=ae (B.take n2)) (H:=H5) (l:=l) i om;unfold ef at h9;refine Tv ?_;omega)):p:=h
theorem Az {p:Prop}(h:p:=by(exact iG _ (by decide) (by decide))):p:=h
theorem AA {p:Prop}(h:p:=by(have z:=gO 19 (nZ R0 i) (R0.getD i mb).s;have z2:=vF R0 i;have z3:=oR i;omega)):p:=h
theorem AB {p:Prop}(h:p:=by(rw[gC];have h9:=hl 0;have h5:=UH (l.getD 0 mb).lit;have h2:=bK hT1 hT2 (hl 0);have h1:=inA.1 0 om;have h8:=oA (l.getD 0 mb).lit.toNat;have h4:=oA (257+ao T1 (l.getD 0 mb).long);have h3:=oB (ao T2 (l.getD 0 mb).dist);have y1:=hz1 (ao T1 (l.getD 0 mb).long);have y2:=hz2 (ao T2 (l.getD 0 mb).dist);have y3:=oA 256;have h7:=cw (T1:=T1) (T2:=T2) (A:=ae (A.take n1)) (B:=ae (B.take n2)) (H:=H5) (l:=l) 0 om;unfold ef at h9;refine Tv ?_;omega)):p:=h
theorem AC {p:Prop}(h:p:=by(have h7:=cw (T1:=T1) (T2:=T2) (A:=ae (A.take n1)) (B:=ae (B.take n2)) (H:=H5) (l:=l) k om;simp only[dA,Uz,Ub,Uh];refine Tv ?_;omega)):p:=h
theorem DO {p:Prop}(h:p:=by(rw[cP];refine Tv ?_;(omega))):p:=h
theorem DP {p:Prop}(h:p:=by(rw[Ub];refine decide_eq_true ?_;have h5:=UH (l.getD i mb).lit;omega)):p:=h
theorem DQ {p:Prop}(h:p:=by(have h7:=cw (T1:=T1) (T2:=T2) (A:=ae (A.take n1)) (B:=ae (B.take n2)) (H:=H5) (l:=l) i om;simp only[dA,Uz,Ub,Uh];refine Tv ?_;omega)):p:=h
theorem IC {p:Prop}(h:p:=by(simp only[Tt,TH,fU,dA,Ub,Uh];have h5:=UH (l.getD i mb).lit;have h2:=bK hT1 hT2 (hl i);refine Tv ?_;omega)):p:=h
theorem ID {p:Prop}(h:p:=by(refine decide_eq_true ?_;have z:=gO 19 (nZ R0 i) (R0.getD i mb).s;have z2:=vF R0 i;have z3:=oR i;omega)):p:=h
theorem IE {p:Prop}(h:p:=by(refine decide_eq_true ?_;have h9:=hl 0;have h5:=UH (l.getD 0 mb).lit;have h2:=bK hT1 hT2 (hl 0);have h1:=inA.1 0 om;have h8:=oA (l.getD 0 mb).lit.toNat;have h4:=oA (257+ao T1 (l.getD 0 mb).long);have h3:=oB (ao T2 (l.getD 0 mb).dist);have y1:=hz1 (ao T1 (l.getD 0 mb).long);have y2:=hz2 (ao T2 (l.getD 0 mb).dist);have y3:=oA 256;have h7:=cw (T1:=T1) (T2:=T2) (A:=ae (A.take n1)) (B:=ae (B.take n2)) (H:=H5) (l:=l) 0 om;unfold ef at h9;omega)):p:=h
theorem IF {p:Prop}(h:p:=by(exact T6 (oB _).1 (by decide))):p:=h
theorem IG {p:Prop}(h:p:=by(refine decide_eq_true ?_;(omega))):p:=h
theorem LD {p:Prop}(h:p:=by(rw[a9 (k:=2) (fun(x:Rn)=>(rfl:(b8 x).length=2))];refine Tv ?_;(omega))):p:=h
theorem LF {p:Prop}(h:p:=by show length R0-(i+1)<length R0-i;clear next1 last1;omega):p:=h
theorem LG {p:Prop}(h:p:=by(have y1:=oR i;have y2:=oC (R0.getD i mb).s;have y3:=di (R0.getD i mb).s;have y4:=lX4 i om;omega)):p:=h
theorem LH {p:Prop}(h:p:=by(have h7:=cw (T1:=T1) (T2:=T2) (A:=ae (A.take n1)) (B:=ae (B.take n2)) (H:=H5) (l:=l) i om;simp only[Tt,dA,T3,Vj,Ub,Uh,Tw,Xj,Vs];omega)):p:=h
theorem LI {p:Prop}(h:p:=by(refine ay ?_;rw[gM om om,cX,cX,TG];rfl)):p:=h
structure EqV {α:Type}(a b:α):Prop where
 h:a=b
theorem vE (l:List UInt8)(L:Nat)(hL:L=l.length)(hL2:L≤320)(m:Nat)(hm:m≤1000)(T:Nat)(hT:EqV (jx l m) T):S0 77 [.sl false L 1 (l.map dB),nD m] [] (nD T) []:=KO l L hL hL2 m hm T hT.h
theorem Qv (l:List UInt8)(n:Nat)(hn:n=l.length)(hn2:n≤320)(ho:∀i,i<n→(l.getD i mb).toNat≤15)(T:List Rn)(hT:EqV (yk l) T):S0 78 [.sl false n 1 (l.map dB)] [] (.tup [.ref 0 0 0 T.length 2,iD 0]) [⟨T.flatMap b8, 150,true⟩]:=Rq l n hn hn2 ho T hT.h
theorem AD (W:List Nat)(L:Nat)(hL:L=W.length)(hL2:L≤320)(hB:∀t,W.getD t mb≤1073741824)(m:Nat)(hm:1≤m∧m≤15)(hNm:(gk W L).length≤2^m)(T:List UInt8)(hT:EqV (b5 W m) T):S0 76 [.sl false L 1 (W.map nD),nD m] [] (.tup [.ref 0 0 0 L 1,iD 0]) [⟨T.map dB, 5,true⟩]:=by
 obtain⟨hT⟩:=hT;subst hT;exact PP W L hL hL2 hB m hm hNm
structure DyV (T1 T2:List Sy)(l:List Tn)(k:Nat)(W1 W2:List Nat)(A B:List UInt8)(n1 n2:Nat)(R:List Rn)(W3:List Nat)(C O:List UInt8)(n3:Nat):Prop where
 w1:bx 286 (dH T1 l k++[256])=W1
 w2:bx 30 (fX T2 l k)=W2
 a:EqV (b5 W1 15) A
 b:EqV (b5 W2 15) B
 t1:EqV (jx A 257) n1
 t2:EqV (jx B 1) n2
 r:EqV (yk (A.take n1++B.take n2)) R
 w3:bx 19 (R.map Rn.s)=W3
 c:EqV (b5 W3 7) C
 o:kL C 19=O
 t3:EqV (jx O 4) n3
structure DyF (W1 W2:List Nat)(A B:List UInt8)(n1 n2:Nat)(R:List Rn)(W3:List Nat)(C O:List UInt8)(n3:Nat):Prop where
 lW1:W1.length=286
 lW2:W2.length=30
 bW1:∀t,W1.getD t mb≤1073741824
 bW2:∀t,W2.getD t mb≤1073741824
 iW1:(gk W1 286).length≤2^15
 iW2:(gk W2 30).length≤2^15
 lA:A.length=286
 lB:B.length=30
 k1:257≤n1∧n1≤286
 k2:1≤n2∧n2≤30
 lA2:(A.take n1).length=n1
 lB2:(B.take n2).length=n2
 cA:aC (A.take n1) 15=0
 cB:aC (B.take n2) 15=0
 mA:(ae (A.take n1)).length=n1
 mB:(ae (B.take n2)).length=n2
 oA:pc (ae (A.take n1))
 oB:pc (ae (B.take n2))
 lQ:(A.take n1++B.take n2).length=n1+n2
 bQ:∀i,i<n1+n2→((A.take n1++B.take n2).getD i mb).toNat≤15
 lR:R.length≤316
 oR:∀i,(R.getD i mb).s≤18∧(R.getD i mb).x<2^rb (R.getD i mb).s
 lW3:W3.length=19
 bW3:∀t,W3.getD t mb≤1073741824
 iW3:(gk W3 19).length≤2^7
 lC:C.length=19
 cC:aC C 7=0
 mC:(ae C).length=19
 oC:pc (ae C)
 lO:O.length=19
 k3:4≤n3∧n3≤19
 lO2:(O.take n3).length=n3
 bO:∀i,(O.getD i mb).toNat≤7
theorem Su {l:List UInt8}{m n:Nat}(h:jx l m=n):l.take n=vn l m:=by rw[mF,h]
theorem nw (l:List UInt8):(ae l).length=l.length:=by rw[Cv,Ky]
theorem pP {l:List UInt8}{m:Nat}(h:aC l m=0)(i:Nat):(l.getD i mb).toNat≤m:=by
 rcases T5 i l.length with q|q
 ·exact dN (dw h).2.1 q
 ·rw[jX q];exact T7 _
theorem DyV.f {T1 T2:List Sy}{l:List Tn}{k:Nat}{W1 W2:List Nat}{A B:List UInt8}{n1 n2:Nat}{R:List Rn}{W3:List Nat}{C O:List UInt8}{n3:Nat}(D:DyV T1 T2 l k W1 W2 A B n1 n2 R W3 C O n3)(hk:k=l.length)(hk2:k≤65535):DyF W1 W2 A B n1 n2 R W3 C O n3:=by
 obtain⟨rfl,rfl,⟨rfl⟩,⟨rfl⟩,⟨t1⟩,⟨t2⟩,⟨r⟩,rfl,⟨rfl⟩,rfl,⟨t3⟩⟩:=D
 have a1:(dH T1 l k++[256]).length≤65536:=by rw[Tt];have:=sX (T1:=T1) (l:=l) (i:=k);simp;omega
 have a2:(fX T2 l k).length≤65535:=T6 (wT k (by omega)) hk2
 generalize dH T1 l k++[256]=S1 at *
 generalize fX T2 l k=S2 at *
 have lW1:=fU 286 S1
 have lW2:=fU 30 S2
 have i1:(gk (bx 286 S1) 286).length≤2^15:=T6 (kF _ _) (by decide)
 have i2:(gk (bx 30 S2) 30).length≤2^15:=T6 (kF _ _) (by decide)
 have cA0:=pq (bx 286 S1) (by rw[lW1];decide) 15 (by decide) (by rw[lW1];exact i1)
 have cB0:=pq (bx 30 S2) (by rw[lW2];decide) 15 (by decide) (by rw[lW2];exact i2)
 have lA:(b5 (bx 286 S1) 15).length=286:=by rw[lF,lW1]
 have lB:(b5 (bx 30 S2) 15).length=30:=by rw[lF,lW2]
 generalize b5 (bx 286 S1) 15=A at *
 generalize b5 (bx 30 S2) 15=B at *
 have h1:=mw A 257
 have h2:=mw B 1
 have cA:=yS (q:=257) cA0
 have cB:=yS (q:=1) cB0
 have lA2:=nP A 257
 have lB2:=nP B 1
 rw[←Su t1]at cA lA2
 rw[←Su t2]at cB lB2
 rw[t1]at h1 lA2
 rw[t2]at h2 lB2
 have bQ:∀i,((A.take n1++B.take n2).getD i mb).toNat≤15:=fun i=>by
  rw[To]
  rcases T5 i n1 with q|q
  ·rw[TQ (by omega),←To];exact pP cA i
  ·rw[TO (by omega),←To];exact pP cB _
 have lR:R.length≤316:=by
  rw[←r];refine T6 (FT _) ?_;rw[Tt];omega
 have oR:=fun i=>Ld bQ i
 rw[r]at oR
 have lS:(R.map Rn.s).length≤316:=by rw[TH];exact lR
 generalize R.map Rn.s=S3 at *
 have lW3:=fU 19 S3
 have i3:(gk (bx 19 S3) 19).length≤2^7:=T6 (kF _ _) (by decide)
 have cC:=pq (bx 19 S3) (by rw[lW3];decide) 7 (by decide) (by rw[lW3];exact i3)
 have lC:(b5 (bx 19 S3) 7).length=19:=by rw[lF,lW3]
 generalize b5 (bx 19 S3) 7=C at *
 have c15:=(iL (by decide) cC).1
 have lO:=yT C (TD 19)
 have h3:=mw (kL C 19) 4
 rw[t3]at h3
 refine⟨lW1,lW2,fun t=>T6 (gO _ _ _) (by omega),fun t=>T6 (gO _ _ _) (by omega),i1,i2,lA,lB,by omega,by omega,lA2,lB2,cA,cB,by rw[nw];exact lA2,by rw[nw];exact lB2,dW cA,dW cB,by rw[Tt];omega,fun i _=>bQ i,lR,oR,lW3,fun t=>T6 (gO _ _ _) (by omega),i3,lC,cC,by rw[nw];exact lC,dW c15,lO,by omega,by rw[TR];omega,fun i=>?_⟩
 rw[mG,To,TN]
 cases(pu.take 19)[i]? with
 |none=>exact T7 _
 |some j=>exact pP cC j
theorem DyV.inA {T1 T2:List Sy}{l:List Tn}{k:Nat}{W1 W2:List Nat}{A B:List UInt8}{n1 n2:Nat}{R:List Rn}{W3:List Nat}{C O:List UInt8}{n3:Nat}(D:DyV T1 T2 l k W1 W2 A B n1 n2 R W3 C O n3)(hk:k=l.length)(hk2:k≤65535)(hT1:T1=au)(hT2:T2=aA)(hl:∀i,ef (l.getD i mb)):(∀i,i<k→((l.getD i mb).long=0→(l.getD i mb).lit.toNat<n1)∧((l.getD i mb).long≠0→257+ao T1 (l.getD i mb).long<n1∧ao T2 (l.getD i mb).dist<n2))∧256<n1:=by
 have F:=D.f hk hk2
 obtain⟨w1,w2,⟨a⟩,⟨b⟩,⟨t1⟩,⟨t2⟩,-,-,-,-,-⟩:=D
 have p1:∀s,s<286→s∈dH T1 l k++[256]→s<n1:=fun s h hm=>by
  rw[←t1];refine Dr ?_
  rw[←a];refine jE W1 (by rw[F.lW1];decide) 15 (by decide) (by rw[F.lW1];exact F.iW1) ?_
  rw[←w1];exact yU h hm
 have p2:∀s,s<30→s∈fX T2 l k→s<n2:=fun s h hm=>by
  rw[←t2];refine Dr ?_
  rw[←b];refine jE W2 (by rw[F.lW2];decide) 15 (by decide) (by rw[F.lW2];exact F.iW2) ?_
  rw[←w2];exact yU h hm
 refine⟨fun i hi=>⟨fun h0=>?_,fun h0=>?_⟩,p1 256 (by decide) (Wj _ (List.mem_singleton.2 rfl))⟩
 ·have m:=Ds (T1:=T1) hk hi
  rw[DF,if_pos h0]at m
  have:=(l.getD i mb).lit.toNat_lt
  exact p1 _ (by omega) (U2 _ m)
 ·have te:=bK hT1 hT2 (hl i) h0
  have m:=Ds (T1:=T1) hk hi
  rw[DF,if_neg h0]at m
  exact⟨p1 _ (by omega) (U2 _ m),p2 _ te.2 (Lf hk hi h0)⟩
def nZ (R:List Rn)(i:Nat):List Nat:=lk R ((R.take i).map Rn.s)
theorem tF (R:List Rn)(i:Nat):nZ R i=(R.take i).map Rn.s:=aw _ _
theorem Qw (R:List Rn):nZ R 0=[]:=tF R 0
theorem Qx (R:List Rn):nZ R R.length=R.map Rn.s:=by rw[tF,T9 (TD _)]
theorem vF (R:List Rn)(i:Nat):(nZ R i).length≤i:=by rw[tF,TH,TR];omega
theorem Qy {R:List Rn}{i:Nat}(h:i<R.length):nZ R (i+1)=nZ R i++[(R.getD i mb).s]:=by
 have e1:R.take (i+1)=R.take i++[R.getD i mb]:=by
  rw[T8 h,To,Ts h];rfl
 rw[tF,tF,e1,Uq];rfl
theorem Ga (l:List Tn)(k:Nat)(hk:k=l.length)(hk2:k≤65535)(hl:∀i,ef (l.getD i mb))(T1 T2:List Sy)(hT1:T1=au)(hT2:T2=aA)(hl1:T1.length=29)(hl2:T2.length=30)(hz1:bW T1)(hz2:bW T2)(W1 W2:List Nat)(A B:List UInt8)(n1 n2:Nat)(R0:List Rn)(W3:List Nat)(C O:List UInt8)(n3:Nat)(D:DyV T1 T2 l k W1 W2 A B n1 n2 R0 W3 C O n3)(L F:List UInt8)(hL:L=bz)(hF:F=cU)(a:Nat)(ha:a≤7)(raw:List UInt8)(r:Nat)(hr:r=raw.length)(hr2:r≤65535)(H H3 H4 H5:List Nm)(hH:H=jW 1 2)(hH3:H3=H++[⟨n1-257,5⟩,⟨n2-1,5⟩,⟨n3-4,4⟩])(hH4:gi H3 jD (O.take n3) n3=H4)(hH5:gi H4 (lJ (ae C)) R0 R0.length=H5)(H' H3' H4' H5':List Nm)(hH':H'=jW 0 2)(hH3':H3'=H'++[⟨n1-257,5⟩,⟨n2-1,5⟩,⟨n3-4,4⟩])(hH4':gi H3' jD (O.take n3) n3=H4')(hH5':gi H4' (lJ (ae C)) R0 R0.length=H5'):(S0 29 [nD a,dG 2,.sl false r 1 (raw.map dB),.sl false k 3 (l.flatMap bm),.v (.bool true)] [] (.ptr 0 0 0) [⟨[.ref 1 1 0 ((aY T1 T2 (ae (A.take n1)) (ae (B.take n2)) H5 l k)++fW (ae (A.take n1)) 256 0 0).length 2], 78,false⟩,⟨((aY T1 T2 (ae (A.take n1)) (ae (B.take n2)) H5 l k)++fW (ae (A.take n1)) 256 0 0).flatMap bh, 81,true⟩])∧(S0 29 [nD a,dG 2,.sl false r 1 (raw.map dB),.sl false k 3 (l.flatMap bm),.v (.bool false)] [] (.ptr 0 0 0) [⟨[.ref 1 1 0 ((aY T1 T2 (ae (A.take n1)) (ae (B.take n2)) H5' l k)++fW (ae (A.take n1)) 256 0 0).length 2], 78,false⟩,⟨((aY T1 T2 (ae (A.take n1)) (ae (B.take n2)) H5' l k)++fW (ae (A.take n1)) 256 0 0).flatMap bh, 81,true⟩]):=by
 have inA:=D.inA hk hk2 hT1 hT2 hl
 obtain⟨lW1,lW2,bW1,bW2,iW1,iW2,lA,lB,g1,g2,lA2,lB2,cA,cB,mA,mB,oA,oB,lQ,bQ,lR,oR,lW3,bW3,iW3,lC,cC,mC,oC,lO,g3,lO2,bO⟩:=D.f hk hk2
 obtain⟨w1,w2,eA,eB,et1,et2,eR,w3,eC,eO,et3⟩:=D
 have c15:=(iL (by decide) cC).1
 refine SpecH.run2 (fun(d:Bool) (e:Nat) (H H3 H4 H5:List Nm) (hH:H=jW e 2) (hH3:H3=H++[⟨n1-257,5⟩,⟨n2-1,5⟩,⟨n3-4,4⟩]) (hH4:gi H3 jD (O.take n3) n3=H4) (hH5:gi H4 (lJ (ae C)) R0 R0.length=H5) (R:D→List Blk→Prop) (ok:∀r' bs',r'=(.ptr 0 0 0)→bs'=[⟨[.ref 1 1 0 ((aY T1 T2 (ae (A.take n1)) (ae (B.take n2)) H5 l k)++fW (ae (A.take n1)) 256 0 0).length 2], 78,false⟩,⟨((aY T1 T2 (ae (A.take n1)) (ae (B.take n2)) H5 l k)++fW (ae (A.take n1)) 256 0 0).flatMap bh, 81,true⟩]→R r' bs')=>have lH:H.length=2:=(by rw[hH];rfl);have lH3:H3.length=5:=(by rw[hH3,Tt,lH];rfl);have lX3:=fun i h=>lI (H:=H3) (g:=jD) (l:=O.take n3) (c:=1) (fun _=>rfl) i h;have lH4:H4.length=5+n3:=(by rw[←hH4,lX3 n3 om,lH3,XR]);have lX4:=fun i h=>lI (H:=H4) (g:=lJ (ae C)) (l:=R0) (c:=2) (fun _=>rfl) i h;have lH5:H5.length=5+n3+2*R0.length:=(by rw[←hH5,lX4 R0.length om,lH4]);((.cl 47 false [] (.fn NS (@lq (L) (F) aD aD)) (.s 33 (.blk (384+sh d) (384+sh d) (Tq (replicate 286 (zI 0)) 139 false) (Tq (map nD (bx 286 (dH T1 l 0))) 139 false) (by(refine ay ?_;rw[Sg,Dm,Vu];rfl)) (.blk (392+sh d) (392+sh d) (Tq (replicate 30 (zI 0)) 140 false) (Tq (map nD (bx 30 (fX T2 l 0))) 140 false) (by(refine ay ?_;rw[PS,Dm,Vu];rfl)) (Hn.inl T_ok ai false 53 (424+sh d) (ap Try.prog 74 0) (fun(x:(i:Nat)×'(hi:i≤k)×'Unit)=>match x with|⟨i,hi,_⟩=>TJ [(1,U9 (Ui 75) [] [TF (392+sh d) (392+sh d) 0,TF (384+sh d) (384+sh d) 0]),(10,TL false k 3 (flatMap bm l)),(11,zN k),(12,nD i)] [⟨16,16,16,16,.b ⟨[Tu (160+sh d) (160+sh d) 0 2 2],78,false⟩⟩,⟨(96+sh d),(96+sh d),(96+sh d),(96+sh d),.b ⟨[ak e,zI 1,uI 2,zI 2],81,false⟩⟩,⟨(160+sh d),(160+sh d),(160+sh d),(160+sh d),.b ⟨[ak e,zI 1,uI 2,zI 2],81,true⟩⟩,⟨(256+sh d),(256+sh d),(256+sh d),(256+sh d),.b ⟨map dB L,5,true⟩⟩,⟨(257+sh d),(257+sh d),(257+sh d),(257+sh d),.b ⟨map dB F,5,true⟩⟩,⟨(384+sh d),(384+sh d),(384+sh d),(384+sh d),.r ⟨(bx 286 (dH T1 l i)).map nD,139,true⟩⟩,⟨(392+sh d),(392+sh d),(392+sh d),(392+sh d),.r ⟨(bx 30 (fX T2 l i)).map nD,140,true⟩⟩] (480+sh d)) (fun(x:(i:Nat)×'(hi:i≤k)×'Unit)=>match x with|⟨i,hi,_⟩=>k-i) [⟨Unit,.exit 0,fun x=>match x with|()=>TJ [(1,U9 (Ui 75) [] [TF (392+sh d) (392+sh d) 0,TF (384+sh d) (384+sh d) 0]),(10,TL false k 3 (flatMap bm l)),(11,zN k),(12,nD k)] [⟨16,16,16,16,.b ⟨[Tu (160+sh d) (160+sh d) 0 2 2],78,false⟩⟩,⟨(96+sh d),(96+sh d),(96+sh d),(96+sh d),.b ⟨[ak e,zI 1,uI 2,zI 2],81,false⟩⟩,⟨(160+sh d),(160+sh d),(160+sh d),(160+sh d),.b ⟨[ak e,zI 1,uI 2,zI 2],81,true⟩⟩,⟨(256+sh d),(256+sh d),(256+sh d),(256+sh d),.b ⟨map dB L,5,true⟩⟩,⟨(257+sh d),(257+sh d),(257+sh d),(257+sh d),.b ⟨map dB F,5,true⟩⟩,⟨(384+sh d),(384+sh d),(384+sh d),(384+sh d),.r ⟨(bx 286 (dH T1 l k)).map nD,139,true⟩⟩,⟨(392+sh d),(392+sh d),(392+sh d),(392+sh d),.r ⟨W2.map nD,140,true⟩⟩] (480+sh d)⟩] 1000 64 (fun|⟨i,hi,_⟩,Q,next1,last1=>(.s 2 (.bd ((i:Int)<k) (fun p0 p0f=>(.s 1 (.chk (true&&decide ((i:Int)<k)&&true) w4 (.s 2 (.chk (Tz (i*3+3) (length (flatMap bm l))) DO (.lst (take 3 (drop (i*3) (flatMap bm l))) ([aQ (Tp (Tn.lit (getD l i mb))),zN (Tn.dist (getD l i mb)),zN (Tn.long (getD l i mb))]) (aB (k:=3) (i:=i) (fun _=>rfl) om om) (.s 13 (.br ((↑(Tn.long (getD l i mb)):Int)==0) (fun p1=>have p1f:=eq_of_beq p1;(.s 8 (.op (↑(Tp (Tn.lit (getD l i mb))):Int) Az (.s 6 (.chk (true&&decide ((↑(Tp (Tn.lit (getD l i mb))):Int)<(↑286:Int))) DP (.s 3 (.opt ((map nD (bx 286 (dH T1 l i)))[0+Tp (Tn.lit (getD l i mb))*1]?) (nD (getD (bx 286 (dH T1 l i)) (Tp (Tn.lit (getD l i mb))) mb)) (@lK 286 (dH T1 l i) (l.getD i mb).lit.toNat (0+Tp (Tn.lit (getD l i mb))*1) ib om) (.s 2 (.op ((↑(getD (bx 286 (dH T1 l i)) (Tp (Tn.lit (getD l i mb))) mb):Int)+1) (by(have z1:=gO 286 (dH T1 l i) (l.getD i mb).lit.toNat;have z2:=sX (T1:=T1) (l:=l) (i:=i);have h5:=UH (l.getD i mb).lit;have h2:=bK hT1 hT2 (hl i);omega)) (.s 1 (.chk (true&&decide ((↑(Tp (Tn.lit (getD l i mb))):Int)<(↑286:Int))) DP (.s 2 (.chk (true&&Tz (0+Tp (Tn.lit (getD l i mb))*1+1) (length (map nD (bx 286 (dH T1 l i))))) IC (.lst (aj (map nD (bx 286 (dH T1 l i))) (0+Tp (Tn.lit (getD l i mb))*1) [zI ((↑(getD (bx 286 (dH T1 l i)) (Tp (Tn.lit (getD l i mb))) mb):Int)+1)]) (map nD (bx 286 (dH T1 l i++[Tp (Tn.lit (getD l i mb))]))) (@nQ 286 (dH T1 l i) (l.getD i mb).lit.toNat (0+Tp (Tn.lit (getD l i mb))*1) (Tp (Tn.lit (getD l i mb))) ib om om) (.s 2 (.ow ((i:Int)+1) (.s 1 (.val 12 (zI ((i:Int)+1)) (zN (i+1)) DC (.blk (384+sh d) (384+sh d) (Tq (map nD (bx 286 (dH T1 l i++[Tp (Tn.lit (getD l i mb))]))) 139 true) (Tq (map nD (bx 286 (dH T1 l (i+1)))) 139 true) (by(refine ay ?_;rw[(Iu (T1:=T1) (T2:=T2) (i:=i) om om).1])) (.blk (392+sh d) (392+sh d) (Tq (map nD (bx 30 (fX T2 l i))) 140 true) (Tq (map nD (bx 30 (fX T2 l (i+1)))) 140 true) (by(refine ay ?_;rw[(Iu (T1:=T1) (T2:=T2) (i:=i) om om).2])) (Hn.next next1 ⟨(i+1),om,⟨⟩⟩ ze [(16,16),((96+sh d),(96+sh d)),((160+sh d),(160+sh d)),((256+sh d),(256+sh d)),((257+sh d),(257+sh d)),((384+sh d),(384+sh d)),((392+sh d),(392+sh d))] nv))))))))))))))))))))) (fun p1=>have p1f:=am p1;(.s 7 (.cl 98 false [] (.fn J5 (@kE (T1) aD om om (Tn.long (getD l i mb)) ib ib)) (.s 23 (.chk (true&&decide ((↑(257+ao T1 (Tn.long (getD l i mb))):Int)<(↑286:Int))) F8 (.s 3 (.opt ((map nD (bx 286 (dH T1 l i)))[0+(257+ao T1 (Tn.long (getD l i mb)))*1]?) (nD (getD (bx 286 (dH T1 l i)) (257+ao T1 (Tn.long (getD l i mb))) mb)) (@lK 286 (dH T1 l i) (257+ao T1 (l.getD i mb).long) (0+(257+ao T1 (Tn.long (getD l i mb)))*1) ib om) (.s 2 (.op ((↑(getD (bx 286 (dH T1 l i)) (257+ao T1 (Tn.long (getD l i mb))) mb):Int)+1) (by(have z1:=gO 286 (dH T1 l i) (257+ao T1 (l.getD i mb).long);have z2:=sX (T1:=T1) (l:=l) (i:=i);have h5:=UH (l.getD i mb).lit;have h2:=bK hT1 hT2 (hl i);omega)) (.s 1 (.chk (true&&decide ((↑(257+ao T1 (Tn.long (getD l i mb))):Int)<(↑286:Int))) F8 (.s 2 (.chk (true&&Tz (0+(257+ao T1 (Tn.long (getD l i mb)))*1+1) (length (map nD (bx 286 (dH T1 l i))))) IC (.lst (aj (map nD (bx 286 (dH T1 l i))) (0+(257+ao T1 (Tn.long (getD l i mb)))*1) [zI ((↑(getD (bx 286 (dH T1 l i)) (257+ao T1 (Tn.long (getD l i mb))) mb):Int)+1)]) (map nD (bx 286 (dH T1 l i++[257+ao T1 (Tn.long (getD l i mb))]))) (@nQ 286 (dH T1 l i) (257+ao T1 (l.getD i mb).long) (0+(257+ao T1 (Tn.long (getD l i mb)))*1) (257+ao T1 (Tn.long (getD l i mb))) ib om om) (.s 7 (.cl 99 false [] (.fn J6 (@pd (T2) aD om om (Tn.dist (getD l i mb)) ib ib)) (.s 22 (.chk (true&&decide ((↑(ao T2 (Tn.dist (getD l i mb))):Int)<(↑30:Int))) F8 (.s 3 (.opt ((map nD (bx 30 (fX T2 l i)))[0+ao T2 (Tn.dist (getD l i mb))*1]?) (nD (getD (bx 30 (fX T2 l i)) (ao T2 (Tn.dist (getD l i mb))) mb)) (@lK 30 (fX T2 l i) (ao T2 (l.getD i mb).dist) (0+ao T2 (Tn.dist (getD l i mb))*1) ib om) (.s 2 (.op ((↑(getD (bx 30 (fX T2 l i)) (ao T2 (Tn.dist (getD l i mb))) mb):Int)+1) (by(have z1:=gO 30 (fX T2 l i) (ao T2 (l.getD i mb).dist);have z2:=wT (T2:=T2) (l:=l) i om;have h5:=UH (l.getD i mb).lit;have h2:=bK hT1 hT2 (hl i);omega)) (.s 1 (.chk (true&&decide ((↑(ao T2 (Tn.dist (getD l i mb))):Int)<(↑30:Int))) F8 (.s 2 (.chk (true&&Tz (0+ao T2 (Tn.dist (getD l i mb))*1+1) (length (map nD (bx 30 (fX T2 l i))))) IC (.lst (aj (map nD (bx 30 (fX T2 l i))) (0+ao T2 (Tn.dist (getD l i mb))*1) [zI ((↑(getD (bx 30 (fX T2 l i)) (ao T2 (Tn.dist (getD l i mb))) mb):Int)+1)]) (map nD (bx 30 (fX T2 l i++[ao T2 (Tn.dist (getD l i mb))]))) (@nQ 30 (fX T2 l i) (ao T2 (l.getD i mb).dist) (0+ao T2 (Tn.dist (getD l i mb))*1) (ao T2 (Tn.dist (getD l i mb))) ib om om) (.s 2 (.ow ((i:Int)+1) (.s 1 (.val 12 (zI ((i:Int)+1)) (zN (i+1)) DC (.blk (384+sh d) (384+sh d) (Tq (map nD (bx 286 (dH T1 l i++[257+ao T1 (Tn.long (getD l i mb))]))) 139 true) (Tq (map nD (bx 286 (dH T1 l (i+1)))) 139 true) (by(refine ay ?_;rw[(Iv (T1:=T1) (T2:=T2) (i:=i) om om).1])) (.blk (392+sh d) (392+sh d) (Tq (map nD (bx 30 (fX T2 l i++[ao T2 (Tn.dist (getD l i mb))]))) 140 true) (Tq (map nD (bx 30 (fX T2 l (i+1)))) 140 true) (by(refine ay ?_;rw[(Iv (T1:=T1) (T2:=T2) (i:=i) om om).2])) (Hn.next next1 ⟨(i+1),om,⟨⟩⟩ ze [(16,16),((96+sh d),(96+sh d)),((160+sh d),(160+sh d)),((256+sh d),(256+sh d)),((257+sh d),(257+sh d)),((384+sh d),(384+sh d)),((392+sh d),(392+sh d))] nv)))))))))))))))))))))))))))))))))))))))))) (fun p0 p0f=>(.val 12 (zN i) (zN k) F9 (.blk (384+sh d) (384+sh d) (Tq (map nD (bx 286 (dH T1 l i))) 139 true) (Tq (map nD (bx 286 (dH T1 l k))) 139 true) F9 (.blk (392+sh d) (392+sh d) (Tq (map nD (bx 30 (fX T2 l i))) 140 true) (Tq (map nD W2) 140 true) (by(rw[show i=k from by omega,w2])) (Hn.last last1 0 (():Unit) rfl [(16,16),((96+sh d),(96+sh d)),((160+sh d),(160+sh d)),((256+sh d),(256+sh d)),((257+sh d),(257+sh d)),((384+sh d),(384+sh d)),((392+sh d),(392+sh d))] nv)))))))) (fun|⟨i,hi,_⟩=>by cases d<;>kernel_rfl) ⟨(0),om,⟨⟩⟩ [(16,16),((96+sh d),(96+sh d)),((160+sh d),(160+sh d)),((256+sh d),(256+sh d)),((257+sh d),(257+sh d)),((384+sh d),(384+sh d)),((392+sh d),(392+sh d))] nv (bY (fun|()=>(.s 11 (.opt ((map nD (bx 286 (dH T1 l k)))[256]?) (nD (getD (bx 286 (dH T1 l k)) 256 mb)) (@lK 286 (dH T1 l k) 256 (256) om om) (.s 2 (.op ((↑(getD (bx 286 (dH T1 l k)) 256 mb):Int)+1) (by(have z1:=gO 286 (dH T1 l k) 256;have z2:=sX (T1:=T1) (l:=l) (i:=k);omega)) (.s 4 (.chk (true&&Tz 257 (length (map nD (bx 286 (dH T1 l k))))) (by(rw[TH,fU];rfl)) (.lst (aj (map nD (bx 286 (dH T1 l k))) 256 [zI ((↑(getD (bx 286 (dH T1 l k)) 256 mb):Int)+1)]) (map nD W1) (@PX 286 (dH T1 l k) 256 W1 om (256) (256) om om om) (.s 1 (.chk (true&&Tz 286 (length (map nD W1))&&true) tb (.s 1 (.call 76 false [] (true&&(true&&Tz 286 (length (map nD W1))&&true&&af (bif true&&Tx 286 (length (map nD W1))then map nD W1 else take 286 (drop 0 (map nD W1))))&&true) tb ([TL true 286 1 (bif true&&Tx 286 (length (map nD W1))then map nD W1 else take 286 (drop 0 (map nD W1))),zI 15]) _ IB (true) wr _ _ _ (TW (az.of Try.func76 rfl rfl) (@AD (W1) (286) om om om (15) w4 om (A) aD)) (.s 7 (.chk (true&&Tz 30 (length (map nD W2))&&true) tb (.s 1 (.call 76 false [] (true&&(true&&Tz 30 (length (map nD W2))&&true&&af (bif true&&Tx 30 (length (map nD W2))then map nD W2 else take 30 (drop 0 (map nD W2))))&&true) tb ([TL true 30 1 (bif true&&Tx 30 (length (map nD W2))then map nD W2 else take 30 (drop 0 (map nD W2))),zI 15]) _ IB (true) wr _ _ _ (TW (az.of Try.func76 rfl rfl) (@AD (W2) (30) om om om (15) w4 om (B) aD)) (.s 10 (.call 77 false [] (true&&(true&&Tz 286 (length (map dB A))&&true&&af (bif true&&Tx 286 (length (map dB A))then map dB A else take 286 (drop 0 (map dB A))))&&true) tb ([TL true 286 1 (bif true&&Tx 286 (length (map dB A))then map dB A else take 286 (drop 0 (map dB A))),zI 257]) _ IB (true) wr _ _ _ (TW (az.of Try.func77 rfl rfl) (@vE (A) (286) om om (257) w4 (n1) aD)) (.s 1 (.chk (aZ none (some (n1:Int)) none 286&&true) tb (.s 3 (.call 77 false [] (true&&(true&&Tz 30 (length (map dB B))&&true&&af (bif true&&Tx 30 (length (map dB B))then map dB B else take 30 (drop 0 (map dB B))))&&true) tb ([TL true 30 1 (bif true&&Tx 30 (length (map dB B))then map dB B else take 30 (drop 0 (map dB B))),zI 1]) _ IB (true) wr _ _ _ (TW (az.of Try.func77 rfl rfl) (@vE (B) (30) om om (1) w4 (n2) aD)) (.s 1 (.chk (aZ none (some (n2:Int)) none 30&&true) tb (.s 7 (.call 67 false [] (true&&(true&&(true&&Tz (0+n1*1) (length (map dB A))&&true&&af (bif true&&Tx (n1*1) (length (map dB A))then map dB A else take (n1*1) (drop 0 (map dB A)))&&(true&&Tz (0+n2*1) (length (map dB B))&&true&&af (bif true&&Tx (n2*1) (length (map dB B))then map dB B else take (n2*1) (drop 0 (map dB B)))&&true)))&&true) tb ([TL true 2 1 [TL (Tz 1 n1) n1 1 (bif true&&Tx (n1*1) (length (map dB A))then map dB A else take (n1*1) (drop 0 (map dB A))),TL (Tz 1 n2) n2 1 (bif true&&Tx (n2*1) (length (map dB B))then map dB B else take (n2*1) (drop 0 (map dB B)))]]) _ (by exact(Ut (D.sim.slc (cells:=[TL (Tz 1 n1) n1 1 (bif true&&Tx (n1*1) (length (map dB A))then map dB A else take (n1*1) (drop 0 (map dB A))),TL (Tz 1 n2) n2 1 (bif true&&Tx (n2*1) (length (map dB B))then map dB B else take (n2*1) (drop 0 (map dB B)))]) (cells':=[TL false n1 1 (map dB (take n1 A)),TL false n2 1 (map dB (take n2 B))]) rfl (Ut (D.sim.slw rfl ((cO (A) (0) (n1*1)).trans (by(simp;done)))) (Ut (D.sim.slw rfl ((cO (B) (0) (n2*1)).trans (by(simp;done)))) trivial))) trivial)) (true) wr _ _ _ (TW (az.of Try.func67 rfl rfl) (@Ss (false) (false) (take n1 A) (take n2 B) (n1) (n2) om om om om)) (.s 1 (.call 78 false [] (true&&(true&&Tz (0+(n1+n2)*1) (length (map dB (take n1 A++take n2 B)))&&true&&af (bif true&&Tx ((n1+n2)*1) (length (map dB (take n1 A++take n2 B)))then map dB (take n1 A++take n2 B)else take ((n1+n2)*1) (drop 0 (map dB (take n1 A++take n2 B)))))&&true) tb ([TL (Tz 1 (n1+n2)) (n1+n2) 1 (bif true&&Tx ((n1+n2)*1) (length (map dB (take n1 A++take n2 B)))then map dB (take n1 A++take n2 B)else take ((n1+n2)*1) (drop 0 (map dB (take n1 A++take n2 B))))]) _ (by exact(Ut (D.sim.slw rfl (cn (by(simp;have y3:=oA 256;omega))|>.trans rfl)) trivial)) (true) wr _ _ _ (TW (az.of Try.func78 rfl rfl) (@Qv (take n1 A++take n2 B) (n1+n2) om om om (R0) aD)) (.s 12 (.blk (848+sh d) (848+sh d) (Tq [zI 0,zI 0,zI 0,zI 0,zI 0,zI 0,zI 0,zI 0,zI 0,zI 0,zI 0,zI 0,zI 0,zI 0,zI 0,zI 0,zI 0,zI 0,zI 0] 148 false) (Tq (map nD (bx 19 (nZ R0 0))) 148 false) (by(refine ay ?_;rw[Qw,Dm,Vu];rfl)) (Hn.inl T_ok ai false 149 (368+sh d) (ap Try.prog 49 0) (fun(x:(i:Nat)×'(hi:i≤R0.length)×'Unit)=>match x with|⟨i,hi,_⟩=>TJ [(0,TF 16 16 0),(4,Tu (408+sh d) (408+sh d) 0 n1 1),(5,Tu (416+sh d) (416+sh d) 0 n2 1),(8,Tu (424+sh d) (424+sh d) 0 (length R0) 2),(10,TF (432+sh d) (432+sh d) 0),(55,Tu (424+sh d) (424+sh d) 0 (length R0) 2),(56,zN (length R0)),(57,nD i)] [⟨16,16,16,16,.b ⟨[Tu (160+sh d) (160+sh d) 0 2 2],78,false⟩⟩,⟨(96+sh d),(96+sh d),(96+sh d),(96+sh d),.b ⟨[ak e,zI 1,uI 2,zI 2],81,false⟩⟩,⟨(160+sh d),(160+sh d),(160+sh d),(160+sh d),.b ⟨[ak e,zI 1,uI 2,zI 2],81,true⟩⟩,⟨(256+sh d),(256+sh d),(256+sh d),(256+sh d),.b ⟨map dB L,5,true⟩⟩,⟨(257+sh d),(257+sh d),(257+sh d),(257+sh d),.b ⟨map dB F,5,true⟩⟩,⟨(408+sh d),(408+sh d),(600+sh d),(600+sh d),.b ⟨map dB A,5,true⟩⟩,⟨(416+sh d),(416+sh d),(648+sh d),(648+sh d),.b ⟨map dB B,5,true⟩⟩,⟨(424+sh d),(424+sh d),(800+sh d),(800+sh d),.b ⟨flatMap b8 R0,150,true⟩⟩,⟨(432+sh d),(432+sh d),(848+sh d),(848+sh d),.r ⟨(bx 19 (nZ R0 i)).map nD,148,true⟩⟩] (440+sh d)) (fun(x:(i:Nat)×'(hi:i≤R0.length)×'Unit)=>match x with|⟨i,hi,_⟩=>R0.length-i) [⟨Unit,.exit 0,fun x=>match x with|()=>TJ [(0,TF 16 16 0),(4,Tu (408+sh d) (408+sh d) 0 n1 1),(5,Tu (416+sh d) (416+sh d) 0 n2 1),(8,Tu (424+sh d) (424+sh d) 0 (length R0) 2),(10,TF (432+sh d) (432+sh d) 0),(55,Tu (424+sh d) (424+sh d) 0 (length R0) 2),(56,zN (length R0))] [⟨16,16,16,16,.b ⟨[Tu (160+sh d) (160+sh d) 0 2 2],78,false⟩⟩,⟨(96+sh d),(96+sh d),(96+sh d),(96+sh d),.b ⟨[ak e,zI 1,uI 2,zI 2],81,false⟩⟩,⟨(160+sh d),(160+sh d),(160+sh d),(160+sh d),.b ⟨[ak e,zI 1,uI 2,zI 2],81,true⟩⟩,⟨(256+sh d),(256+sh d),(256+sh d),(256+sh d),.b ⟨map dB L,5,true⟩⟩,⟨(257+sh d),(257+sh d),(257+sh d),(257+sh d),.b ⟨map dB F,5,true⟩⟩,⟨(408+sh d),(408+sh d),(600+sh d),(600+sh d),.b ⟨map dB A,5,true⟩⟩,⟨(416+sh d),(416+sh d),(648+sh d),(648+sh d),.b ⟨map dB B,5,true⟩⟩,⟨(424+sh d),(424+sh d),(800+sh d),(800+sh d),.b ⟨flatMap b8 R0,150,true⟩⟩,⟨(432+sh d),(432+sh d),(848+sh d),(848+sh d),.r ⟨W3.map nD,148,true⟩⟩] (440+sh d)⟩] 1000 64 (fun|⟨i,hi,_⟩,Q,next1,last1=>(.s 2 (.bd ((i:Int)<(↑(length R0):Int)) (fun p2 p2f=>(.s 1 (.chk (true&&decide ((i:Int)<(↑(length R0):Int))) aD (.s 2 (.chk (Tz (0+i*2+2) (length (flatMap b8 R0))) LD (.lst (take 2 (drop (0+i*2) (flatMap b8 R0))) ([zN (Rn.s (getD R0 i mb)),zN (Rn.x (getD R0 i mb))]) (aB (k:=2) (i:=i) (fun _=>rfl) om om) (.s 12 (.chk (true&&decide ((↑(Rn.s (getD R0 i mb)):Int)<(↑19:Int))) ID (.s 3 (.opt ((map nD (bx 19 (nZ R0 i)))[0+Rn.s (getD R0 i mb)*1]?) (nD (getD (bx 19 (nZ R0 i)) (Rn.s (getD R0 i mb)) mb)) (@lK 19 (nZ R0 i) (R0.getD i mb).s (0+Rn.s (getD R0 i mb)*1) AA om) (.s 2 (.op ((↑(getD (bx 19 (nZ R0 i)) (Rn.s (getD R0 i mb)) mb):Int)+1) AA (.s 1 (.chk (true&&decide ((↑(Rn.s (getD R0 i mb)):Int)<(↑19:Int))) ID (.s 2 (.chk (true&&Tz (0+Rn.s (getD R0 i mb)*1+1) (length (map nD (bx 19 (nZ R0 i))))) (by(simp only[TH,fU,Ub,Uh];have z:=gO 19 (nZ R0 i) (R0.getD i mb).s;have z2:=vF R0 i;have z3:=oR i;refine Tv ?_;omega)) (.lst (aj (map nD (bx 19 (nZ R0 i))) (0+Rn.s (getD R0 i mb)*1) [zI ((↑(getD (bx 19 (nZ R0 i)) (Rn.s (getD R0 i mb)) mb):Int)+1)]) (map nD (bx 19 (nZ R0 i++[Rn.s (getD R0 i mb)]))) (@nQ 19 (nZ R0 i) (R0.getD i mb).s (0+Rn.s (getD R0 i mb)*1) (Rn.s (getD R0 i mb)) AA om om) (.s 2 (.ow ((i:Int)+1) (.s 1 (.val 57 (zI ((i:Int)+1)) (zN (i+1)) DC (.blk (432+sh d) (432+sh d) (Tq (map nD (bx 19 (nZ R0 i++[Rn.s (getD R0 i mb)]))) 148 true) (Tq (map nD (bx 19 (nZ R0 (i+1)))) 148 true) (by(refine ay ?_;rw[Qy (i:=i) om])) (Hn.next next1 ⟨(i+1),om,⟨⟩⟩ LF [(16,16),((96+sh d),(96+sh d)),((160+sh d),(160+sh d)),((256+sh d),(256+sh d)),((257+sh d),(257+sh d)),((408+sh d),(408+sh d)),((416+sh d),(416+sh d)),((424+sh d),(424+sh d)),((432+sh d),(432+sh d))] nv))))))))))))))))))))))) (fun p2 p2f=>(.blk (432+sh d) (432+sh d) (Tq (map nD (bx 19 (nZ R0 i))) 148 true) (Tq (map nD W3) 148 true) (by(rw[show i=R0.length from by omega,Qx,w3])) (Hn.last last1 0 (():Unit) rfl [(16,16),((96+sh d),(96+sh d)),((160+sh d),(160+sh d)),((256+sh d),(256+sh d)),((257+sh d),(257+sh d)),((408+sh d),(408+sh d)),((416+sh d),(416+sh d)),((424+sh d),(424+sh d)),((432+sh d),(432+sh d))] nv)))))) (fun|⟨i,hi,_⟩=>by cases d<;>kernel_rfl) ⟨(0),om,⟨⟩⟩ [(16,16),((96+sh d),(96+sh d)),((160+sh d),(160+sh d)),((256+sh d),(256+sh d)),((257+sh d),(257+sh d)),((600+sh d),(600+sh d)),((648+sh d),(648+sh d)),((800+sh d),(800+sh d)),((848+sh d),(848+sh d))] nv (bY (fun|()=>(.s 1 (.chk (true&&Tz 19 (length (map nD W3))&&true) tb (.s 1 (.call 76 false [] (true&&(true&&Tz 19 (length (map nD W3))&&true&&af (bif true&&Tx 19 (length (map nD W3))then map nD W3 else take 19 (drop 0 (map nD W3))))&&true) tb ([TL true 19 1 (bif true&&Tx 19 (length (map nD W3))then map nD W3 else take 19 (drop 0 (map nD W3))),zI 7]) _ IB (true) wr _ _ _ (TW (az.of Try.func76 rfl rfl) (@AD (W3) (19) om om om (7) w4 om (C) aD)) (.s 9 (.cl 79 false [] (.fn NU (@lr)) (.s 1 (.nils 15 (520+sh d) 1 5 (.blk (520+sh d) (520+sh d) (Tq [] 5 true) (Tq (map dB (kL C 0)) 5 true) (by(rw[PV];rfl)) (Hn.inl T_ok ai false 149 (368+sh d) (ap Try.prog 49 1) (fun(x:(i:Nat)×'(hi:i≤19)×'Unit)=>match x with|⟨i,hi,_⟩=>TJ [(0,TF 16 16 0),(4,Tu (408+sh d) (408+sh d) 0 n1 1),(5,Tu (416+sh d) (416+sh d) 0 n2 1),(8,Tu (424+sh d) (424+sh d) 0 (length R0) 2),(13,Tu (432+sh d) (432+sh d) 0 19 1),(15,(Tu (440+sh d) (440+sh d) (0) (i) 1)),(73,UA [zI 16,zI 17,zI 18,zI 0,zI 8,zI 7,zI 9,zI 6,zI 10,zI 5,zI 11,zI 4,zI 12,zI 3,zI 13,zI 2,zI 14,zI 1,zI 15]),(74,nD i)] [⟨16,16,16,16,.b ⟨[Tu (160+sh d) (160+sh d) 0 2 2],78,false⟩⟩,⟨(96+sh d),(96+sh d),(96+sh d),(96+sh d),.b ⟨[ak e,zI 1,uI 2,zI 2],81,false⟩⟩,⟨(160+sh d),(160+sh d),(160+sh d),(160+sh d),.b ⟨[ak e,zI 1,uI 2,zI 2],81,true⟩⟩,⟨(256+sh d),(256+sh d),(256+sh d),(256+sh d),.b ⟨map dB L,5,true⟩⟩,⟨(257+sh d),(257+sh d),(257+sh d),(257+sh d),.b ⟨map dB F,5,true⟩⟩,⟨(408+sh d),(408+sh d),(408+sh d),(408+sh d),.b ⟨map dB A,5,true⟩⟩,⟨(416+sh d),(416+sh d),(416+sh d),(416+sh d),.b ⟨map dB B,5,true⟩⟩,⟨(424+sh d),(424+sh d),(424+sh d),(424+sh d),.b ⟨flatMap b8 R0,150,true⟩⟩,⟨(432+sh d),(432+sh d),(448+sh d),(448+sh d),.b ⟨map dB C,5,true⟩⟩,⟨(440+sh d),(440+sh d),(520+sh d),(520+sh d),.b ⟨(kL C i).map dB,5,true⟩⟩] (448+sh d)) (fun(x:(i:Nat)×'(hi:i≤19)×'Unit)=>match x with|⟨i,hi,_⟩=>19-i) [⟨Unit,.exit 2,fun x=>match x with|()=>TJ [(0,TF 16 16 0),(4,Tu (408+sh d) (408+sh d) 0 n1 1),(5,Tu (416+sh d) (416+sh d) 0 n2 1),(8,Tu (424+sh d) (424+sh d) 0 (length R0) 2),(13,Tu (432+sh d) (432+sh d) 0 19 1),(15,(Tu (440+sh d) (440+sh d) (0) (19) 1)),(73,UA [zI 16,zI 17,zI 18,zI 0,zI 8,zI 7,zI 9,zI 6,zI 10,zI 5,zI 11,zI 4,zI 12,zI 3,zI 13,zI 2,zI 14,zI 1,zI 15])] [⟨16,16,16,16,.b ⟨[Tu (160+sh d) (160+sh d) 0 2 2],78,false⟩⟩,⟨(96+sh d),(96+sh d),(96+sh d),(96+sh d),.b ⟨[ak e,zI 1,uI 2,zI 2],81,false⟩⟩,⟨(160+sh d),(160+sh d),(160+sh d),(160+sh d),.b ⟨[ak e,zI 1,uI 2,zI 2],81,true⟩⟩,⟨(256+sh d),(256+sh d),(256+sh d),(256+sh d),.b ⟨map dB L,5,true⟩⟩,⟨(257+sh d),(257+sh d),(257+sh d),(257+sh d),.b ⟨map dB F,5,true⟩⟩,⟨(408+sh d),(408+sh d),(408+sh d),(408+sh d),.b ⟨map dB A,5,true⟩⟩,⟨(416+sh d),(416+sh d),(416+sh d),(416+sh d),.b ⟨map dB B,5,true⟩⟩,⟨(424+sh d),(424+sh d),(424+sh d),(424+sh d),.b ⟨flatMap b8 R0,150,true⟩⟩,⟨(432+sh d),(432+sh d),(448+sh d),(448+sh d),.b ⟨map dB C,5,true⟩⟩,⟨(440+sh d),(440+sh d),(520+sh d),(520+sh d),.b ⟨O.map dB,5,true⟩⟩] (448+sh d)⟩] 1000 64 (fun|⟨i,hi,_⟩,Q,next1,last1=>(.s 2 (.bd ((i:Int)<19) (fun p3 p3f=>(.s 1 (.chk (true&&decide ((i:Int)<(↑19:Int))) aD (.opt ((map nD pu)[i*1]?) (nD (Iw C (i*1))) (@PY C (i*1) om) (.s 5 (.chk (true&&decide ((↑(Iw C (i*1)):Int)<(↑19:Int))) (by(have y:=Dt C (i*1) om;rw[Ub];refine decide_eq_true ?_;omega)) (.s 2 (.opt ((map dB C)[0+Iw C (i*1)*1]?) (dB (getD C (0+Iw C (i*1)*1) mb)) (aq _ _ (by(have y:=Dt C (i*1) om;omega))) (.s 3 (.chk (true&&Tx (i*1) (length (map dB (kL C i)))&&true&&true&&true&&true&&Tz ((i+1)*1) 140737488355328) (by(rw[TH,yT C (i:=i) (by(omega))];simp only[TZ,Uz,Ub,Uh];refine Tv ?_;(omega))) (.s 3 (.ow ((i:Int)+1) (.s 1 (.val 74 (zI ((i:Int)+1)) (zN (i+1)) DC (.blk (520+sh d) (520+sh d) (Tq (map dB (kL C i)++[aQ (Tp (getD C (0+Iw C (i*1)*1) mb))]) 5 true) (Tq (map dB (kL C (i+1))) 5 true) (by(refine ay ?_;rw[PW C (i:=i) om,Uq];simp only[wU,TZ,T0];rfl)) (Hn.next next1 ⟨(i+1),om,⟨⟩⟩ (by show 19-(i+1)<19-i;clear next1 last1;omega) [(16,16),((96+sh d),(96+sh d)),((160+sh d),(160+sh d)),((256+sh d),(256+sh d)),((257+sh d),(257+sh d)),((408+sh d),(408+sh d)),((416+sh d),(416+sh d)),((424+sh d),(424+sh d)),((432+sh d),(432+sh d)),((520+sh d),(520+sh d))] nv)))))))))))))))) (fun p3 p3f=>(.val 15 (Tu (440+sh d) (440+sh d) 0 i 1) (Tu (440+sh d) (440+sh d) 0 19 1) tb (.blk (440+sh d) (440+sh d) (Tq (map dB (kL C i)) 5 true) (Tq (map dB O) 5 true) (by(rw[show i=19 from by omega,eO])) (Hn.last last1 0 (():Unit) rfl [(16,16),((96+sh d),(96+sh d)),((160+sh d),(160+sh d)),((256+sh d),(256+sh d)),((257+sh d),(257+sh d)),((408+sh d),(408+sh d)),((416+sh d),(416+sh d)),((424+sh d),(424+sh d)),((432+sh d),(432+sh d)),((440+sh d),(440+sh d))] nv))))))) (fun|⟨i,hi,_⟩=>by cases d<;>kernel_rfl) ⟨(0),om,⟨⟩⟩ [(16,16),((96+sh d),(96+sh d)),((160+sh d),(160+sh d)),((256+sh d),(256+sh d)),((257+sh d),(257+sh d)),((408+sh d),(408+sh d)),((416+sh d),(416+sh d)),((424+sh d),(424+sh d)),((448+sh d),(448+sh d)),((520+sh d),(520+sh d))] nv (bY (fun|()=>(.s 3 (.call 77 false [] (true&&(true&&Tz 19 (length (map dB O))&&true&&af (bif true&&Tx 19 (length (map dB O))then map dB O else take 19 (drop 0 (map dB O))))&&true) tb ([TL true 19 1 (bif true&&Tx 19 (length (map dB O))then map dB O else take 19 (drop 0 (map dB O))),zI 4]) _ IB (true) wr _ _ _ (TW (az.of Try.func77 rfl rfl) (@vE (O) (19) om om (4) w4 (n3) aD)) (.s 1 (.chk (aZ none (some (n3:Int)) none 19&&true) tb (.s 6 (.ow ((n1:Int)-256) (.s 2 (.ow ((n1:Int)-256-1) (.s 1 (.opt (ar .u32 ((n1:Int)-256-1)) (uI ((n1:Int)-256-1)) (aE om) (.s 6 (.ow ((n2:Int)-1) (.s 1 (.opt (ar .u32 ((n2:Int)-1)) (uI ((n2:Int)-1)) (aE om) (.s 6 (.ow ((n3:Int)-4) (.s 1 (.opt (ar .u32 ((n3:Int)-4)) (uI ((n3:Int)-4)) (aE om) (.s 28 (.blk 16 16 (Tq [Tu (688+sh d) (688+sh d) 0 5 2] 78 false) (Tq [Tu (688+sh d) (688+sh d) 0 (length (gi H3 jD (take n3 O) 0)) 2] 78 false) (by(rw[vo,lH3])) (.blk (688+sh d) (688+sh d) (Tq [ak e,zI 1,uI 2,zI 2,uI ((n1:Int)-256-1),zI 5,uI ((n2:Int)-1),zI 5,uI ((n3:Int)-4),zI 4] 81 true) (Tq (flatMap bh (gi H3 jD (take n3 O) 0)) 81 true) (by(refine ay ?_;rw[vo,hH3,hH];exact PZ om om om)) (Hn.inl T_ok ai false 149 (368+sh d) (ap Try.prog 49 2) (fun(x:(i:Nat)×'(hi:i≤n3)×'Unit)=>match x with|⟨i,hi,_⟩=>TJ [(0,TF 16 16 0),(4,Tu (400+sh d) (400+sh d) 0 n1 1),(5,Tu (408+sh d) (408+sh d) 0 n2 1),(8,Tu (416+sh d) (416+sh d) 0 (length R0) 2),(13,Tu (424+sh d) (424+sh d) 0 19 1),(108,Tu (432+sh d) (432+sh d) 0 n3 1),(109,zN n3),(110,nD i)] [⟨16,16,16,16,.b ⟨[(Tu (440+sh d) (440+sh d) (0) ((gi H3 jD (O.take n3) i).length) 2)],78,false⟩⟩,⟨(96+sh d),(96+sh d),(96+sh d),(96+sh d),.b ⟨[ak e,zI 1,uI 2,zI 2],81,false⟩⟩,⟨(256+sh d),(256+sh d),(256+sh d),(256+sh d),.b ⟨map dB L,5,true⟩⟩,⟨(257+sh d),(257+sh d),(257+sh d),(257+sh d),.b ⟨map dB F,5,true⟩⟩,⟨(400+sh d),(400+sh d),(408+sh d),(408+sh d),.b ⟨map dB A,5,true⟩⟩,⟨(408+sh d),(408+sh d),(416+sh d),(416+sh d),.b ⟨map dB B,5,true⟩⟩,⟨(416+sh d),(416+sh d),(424+sh d),(424+sh d),.b ⟨flatMap b8 R0,150,true⟩⟩,⟨(424+sh d),(424+sh d),(432+sh d),(432+sh d),.b ⟨map dB C,5,true⟩⟩,⟨(432+sh d),(432+sh d),(440+sh d),(440+sh d),.b ⟨map dB O,5,true⟩⟩,⟨(440+sh d),(440+sh d),(688+sh d),(688+sh d),.b ⟨(gi H3 jD (O.take n3) i).flatMap bh,81,true⟩⟩] (448+sh d)) (fun(x:(i:Nat)×'(hi:i≤n3)×'Unit)=>match x with|⟨i,hi,_⟩=>n3-i) [⟨Unit,.exit 4,fun x=>match x with|()=>TJ [(0,TF 16 16 0),(4,Tu (400+sh d) (400+sh d) 0 n1 1),(5,Tu (408+sh d) (408+sh d) 0 n2 1),(8,Tu (416+sh d) (416+sh d) 0 (length R0) 2),(13,Tu (424+sh d) (424+sh d) 0 19 1),(108,Tu (432+sh d) (432+sh d) 0 n3 1),(109,zN n3)] [⟨16,16,16,16,.b ⟨[(Tu (440+sh d) (440+sh d) (0) (H4.length) 2)],78,false⟩⟩,⟨(96+sh d),(96+sh d),(96+sh d),(96+sh d),.b ⟨[ak e,zI 1,uI 2,zI 2],81,false⟩⟩,⟨(256+sh d),(256+sh d),(256+sh d),(256+sh d),.b ⟨map dB L,5,true⟩⟩,⟨(257+sh d),(257+sh d),(257+sh d),(257+sh d),.b ⟨map dB F,5,true⟩⟩,⟨(400+sh d),(400+sh d),(408+sh d),(408+sh d),.b ⟨map dB A,5,true⟩⟩,⟨(408+sh d),(408+sh d),(416+sh d),(416+sh d),.b ⟨map dB B,5,true⟩⟩,⟨(416+sh d),(416+sh d),(424+sh d),(424+sh d),.b ⟨flatMap b8 R0,150,true⟩⟩,⟨(424+sh d),(424+sh d),(432+sh d),(432+sh d),.b ⟨map dB C,5,true⟩⟩,⟨(432+sh d),(432+sh d),(440+sh d),(440+sh d),.b ⟨map dB O,5,true⟩⟩,⟨(440+sh d),(440+sh d),(688+sh d),(688+sh d),.b ⟨H4.flatMap bh,81,true⟩⟩] (448+sh d)⟩] 1000 64 (fun|⟨i,hi,_⟩,Q,next1,last1=>(.s 2 (.bd ((i:Int)<n3) (fun p4 p4f=>(.s 1 (.chk (true&&decide ((i:Int)<n3)) aD (.s 2 (.opt ((map dB O)[0+i*1]?) (dB (getD O (0+i*1) mb)) (aq _ _ om) (.s 4 (.opt (ar .u32 (↑(Tp (getD O (0+i*1) mb)):Int)) (ak (Tp (getD O (0+i*1) mb))) (aE Az) (.s 17 (.chk (true&&Tx (length (gi H3 jD (take n3 O) i)*2) (length (flatMap bh (gi H3 jD (take n3 O) i)))&&true&&true&&true&&true&&Tz ((length (gi H3 jD (take n3 O) i)+1)*16) 140737488355328) (by(simp only[dA,lX3 i om,Uz,Ub,Uh];refine Tv ?_;(omega))) (.s 9 (.ow ((i:Int)+1) (.s 1 (.val 110 (zI ((i:Int)+1)) (zN (i+1)) DC (.blk 16 16 (Tq [Tu (576+sh d) (576+sh d) 0 (length (gi H3 jD (take n3 O) i)+1) 2] 78 false) (Tq [Tu (576+sh d) (576+sh d) 0 (length (gi H3 jD (take n3 O) (i+1))) 2] 78 false) (by(rw[vp (i:=i) om,Tt];rfl)) (.blk (576+sh d) (576+sh d) (Tq (flatMap bh (gi H3 jD (take n3 O) i)++[ak (Tp (getD O (0+i*1) mb)),zI 3]) 81 true) (Tq (flatMap bh (gi H3 jD (take n3 O) (i+1))) 81 true) (by(refine ay ?_;rw[vp (i:=i) om,cX];unfold jD;rw[FU om,T0,TZ];rfl)) (Hn.next next1 ⟨(i+1),om,⟨⟩⟩ (by show n3-(i+1)<n3-i;clear next1 last1;omega) [(16,16),((96+sh d),(96+sh d)),((256+sh d),(256+sh d)),((257+sh d),(257+sh d)),((400+sh d),(400+sh d)),((408+sh d),(408+sh d)),((416+sh d),(416+sh d)),((424+sh d),(424+sh d)),((432+sh d),(432+sh d)),((576+sh d),(576+sh d))] nv)))))))))))))))) (fun p4 p4f=>(.blk 16 16 (Tq [Tu (440+sh d) (440+sh d) 0 (length (gi H3 jD (take n3 O) i)) 2] 78 false) (Tq [Tu (440+sh d) (440+sh d) 0 (length H4) 2] 78 false) (by(rw[show i=n3 from by omega,hH4])) (.blk (440+sh d) (440+sh d) (Tq (flatMap bh (gi H3 jD (take n3 O) i)) 81 true) (Tq (flatMap bh H4) 81 true) (by(rw[show i=n3 from by omega,hH4])) (Hn.last last1 0 (():Unit) rfl [(16,16),((96+sh d),(96+sh d)),((256+sh d),(256+sh d)),((257+sh d),(257+sh d)),((400+sh d),(400+sh d)),((408+sh d),(408+sh d)),((416+sh d),(416+sh d)),((424+sh d),(424+sh d)),((432+sh d),(432+sh d)),((440+sh d),(440+sh d))] nv))))))) (fun|⟨i,hi,_⟩=>by cases d<;>kernel_rfl) ⟨(0),om,⟨⟩⟩ [(16,16),((96+sh d),(96+sh d)),((256+sh d),(256+sh d)),((257+sh d),(257+sh d)),((408+sh d),(408+sh d)),((416+sh d),(416+sh d)),((424+sh d),(424+sh d)),((432+sh d),(432+sh d)),((440+sh d),(440+sh d)),((688+sh d),(688+sh d))] nv (bY (fun|()=>(.s 2 (.call 80 false [] (true&&(true&&Tz 19 (length (map dB C))&&true&&af (bif true&&Tx 19 (length (map dB C))then map dB C else take 19 (drop 0 (map dB C))))&&true) tb ([TL true 19 1 (bif true&&Tx 19 (length (map dB C))then map dB C else take 19 (drop 0 (map dB C))),zI 7]) _ IB (true) wr _ _ _ (TW (az.of Try.func80 rfl rfl) (@lv (C) (19) om (7) w4 om)) (.s 10 (.blk 16 16 (Tq [Tu (440+sh d) (440+sh d) 0 (length H4) 2] 78 false) (Tq [Tu (440+sh d) (440+sh d) 0 (length (gi H4 (lJ (ae C)) R0 0)) 2] 78 false) (by(refine ay ?_;rw[vo])) (.blk (440+sh d) (440+sh d) (Tq (flatMap bh H4) 81 true) (Tq (flatMap bh (gi H4 (lJ (ae C)) R0 0)) 81 true) (by(refine ay ?_;rw[vo])) (Hn.inl T_ok ai false 149 (368+sh d) (ap Try.prog 49 3) (fun(x:(i:Nat)×'(hi:i≤R0.length)×'Unit)=>match x with|⟨i,hi,_⟩=>TJ [(0,TF 16 16 0),(4,Tu (400+sh d) (400+sh d) 0 n1 1),(5,Tu (408+sh d) (408+sh d) 0 n2 1),(20,Tu (432+sh d) (432+sh d) 0 19 2),(126,Tu (416+sh d) (416+sh d) 0 (length R0) 2),(127,zN (length R0)),(128,nD i)] [⟨16,16,16,16,.b ⟨[(Tu (424+sh d) (424+sh d) (0) ((gi H4 (lJ (ae C)) R0 i).length) 2)],78,false⟩⟩,⟨(96+sh d),(96+sh d),(96+sh d),(96+sh d),.b ⟨[ak e,zI 1,uI 2,zI 2],81,false⟩⟩,⟨(256+sh d),(256+sh d),(256+sh d),(256+sh d),.b ⟨map dB L,5,true⟩⟩,⟨(257+sh d),(257+sh d),(257+sh d),(257+sh d),.b ⟨map dB F,5,true⟩⟩,⟨(400+sh d),(400+sh d),(400+sh d),(400+sh d),.b ⟨map dB A,5,true⟩⟩,⟨(408+sh d),(408+sh d),(408+sh d),(408+sh d),.b ⟨map dB B,5,true⟩⟩,⟨(416+sh d),(416+sh d),(416+sh d),(416+sh d),.b ⟨flatMap b8 R0,150,true⟩⟩,⟨(424+sh d),(424+sh d),(440+sh d),(440+sh d),.b ⟨(gi H4 (lJ (ae C)) R0 i).flatMap bh,81,true⟩⟩,⟨(432+sh d),(432+sh d),(456+sh d),(456+sh d),.b ⟨flatMap dj (ae C),198,true⟩⟩] (440+sh d)) (fun(x:(i:Nat)×'(hi:i≤R0.length)×'Unit)=>match x with|⟨i,hi,_⟩=>R0.length-i) [⟨Unit,.exit 6,fun x=>match x with|()=>TJ [(0,TF 16 16 0),(4,Tu (400+sh d) (400+sh d) 0 n1 1),(5,Tu (408+sh d) (408+sh d) 0 n2 1),(20,Tu (432+sh d) (432+sh d) 0 19 2),(126,Tu (416+sh d) (416+sh d) 0 (length R0) 2),(127,zN (length R0))] [⟨16,16,16,16,.b ⟨[(Tu (424+sh d) (424+sh d) (0) (H5.length) 2)],78,false⟩⟩,⟨(96+sh d),(96+sh d),(96+sh d),(96+sh d),.b ⟨[ak e,zI 1,uI 2,zI 2],81,false⟩⟩,⟨(256+sh d),(256+sh d),(256+sh d),(256+sh d),.b ⟨map dB L,5,true⟩⟩,⟨(257+sh d),(257+sh d),(257+sh d),(257+sh d),.b ⟨map dB F,5,true⟩⟩,⟨(400+sh d),(400+sh d),(400+sh d),(400+sh d),.b ⟨map dB A,5,true⟩⟩,⟨(408+sh d),(408+sh d),(408+sh d),(408+sh d),.b ⟨map dB B,5,true⟩⟩,⟨(416+sh d),(416+sh d),(416+sh d),(416+sh d),.b ⟨flatMap b8 R0,150,true⟩⟩,⟨(424+sh d),(424+sh d),(440+sh d),(440+sh d),.b ⟨H5.flatMap bh,81,true⟩⟩,⟨(432+sh d),(432+sh d),(456+sh d),(456+sh d),.b ⟨flatMap dj (ae C),198,true⟩⟩] (440+sh d)⟩] 1000 64 (fun|⟨i,hi,_⟩,Q,next1,last1=>(.s 2 (.bd ((i:Int)<(↑(length R0):Int)) (fun p5 p5f=>(.s 1 (.chk (true&&decide ((i:Int)<(↑(length R0):Int))) aD (.s 2 (.chk (Tz (0+i*2+2) (length (flatMap b8 R0))) LD (.lst (take 2 (drop (0+i*2) (flatMap b8 R0))) ([zN (Rn.s (getD R0 i mb)),zN (Rn.x (getD R0 i mb))]) (aB (k:=2) (i:=i) (fun _=>rfl) om om) (.s 12 (.cl 81 false [] (.fn NV (@yj (Rn.s (getD R0 i mb)) AA)) (.s 27 (.chk (true&&decide ((↑(Rn.s (getD R0 i mb)):Int)<(↑19:Int))) ID (.s 2 (.chk (Tz (0+Rn.s (getD R0 i mb)*2+2) (length (flatMap dj (ae C)))) (by(rw[gC,mC];have y:=oR i;refine Tv ?_;omega)) (.lst (take 2 (drop (0+Rn.s (getD R0 i mb)*2) (flatMap dj (ae C)))) ([ak (Ty (getD (ae C) (Rn.s (getD R0 i mb)) mb)),aQ (Tm (getD (ae C) (Rn.s (getD R0 i mb)) mb))]) (aB (k:=2) (i:=Rn.s (getD R0 i mb)) (fun _=>rfl) AA om) (.s 18 (.op (↑(Tm (getD (ae C) (Rn.s (getD R0 i mb)) mb)):Int) LG (.s 1 (.cl 107 false [] (.fn fK (@bX (Ty (getD (ae C) (Rn.s (getD R0 i mb)) mb)) (Tm (getD (ae C) (Rn.s (getD R0 i mb)) mb)) (by(exact T6 (oC _).1 (by decide))) (by(exact(oC _).2)))) (.s 16 (.op (↑(Tm (getD (ae C) (Rn.s (getD R0 i mb)) mb)):Int) LG (.s 4 (.opt (ar .u32 (↑(Rn.x (getD R0 i mb)):Int)) (uI ((↑(Rn.x (getD R0 i mb)):Int)%4294967296)) (aL _ _) (.s 18 (.chk (true&&Tx (length (gi H4 (lJ (ae C)) R0 i)*2) (length (flatMap bh (gi H4 (lJ (ae C)) R0 i)))&&true&&true&&true&&true&&Tz ((length (gi H4 (lJ (ae C)) R0 i)+2)*16) 140737488355328) (by(simp only[dA,lX4 i om,Uz,Ub,Uh];refine Tv ?_;(omega))) (.s 9 (.ow ((i:Int)+1) (.s 1 (.val 128 (zI ((i:Int)+1)) (zN (i+1)) DC (.blk 16 16 (Tq [Tu (888+sh d) (888+sh d) 0 (length (gi H4 (lJ (ae C)) R0 i)+2) 2] 78 false) (Tq [Tu (888+sh d) (888+sh d) 0 (length (gi H4 (lJ (ae C)) R0 (i+1))) 2] 78 false) (by(rw[vp (i:=i) om,Tt];rfl)) (.blk (888+sh d) (888+sh d) (Tq (flatMap bh (gi H4 (lJ (ae C)) R0 i)++[ak (fL (Ty (getD (ae C) (Rn.s (getD R0 i mb)) mb)) (Tm (getD (ae C) (Rn.s (getD R0 i mb)) mb))),zN (Tm (getD (ae C) (Rn.s (getD R0 i mb)) mb)),uI ((↑(Rn.x (getD R0 i mb)):Int)%4294967296),zN (rb (Rn.s (getD R0 i mb)))]) 81 true) (Tq (flatMap bh (gi H4 (lJ (ae C)) R0 (i+1))) 81 true) (by(refine ay ?_;rw[vp (i:=i) om,cX];have y:=oR i;have y3:=di (R0.getD i mb).s;have y5:(R0.getD i mb).x<128:=Ug y.2 y3.1;rw[show((R0.getD i mb).x:Int)%4294967296=(((R0.getD i mb).x:Nat):Int)from by omega];rfl)) (Hn.next next1 ⟨(i+1),om,⟨⟩⟩ LF [(16,16),((96+sh d),(96+sh d)),((256+sh d),(256+sh d)),((257+sh d),(257+sh d)),((400+sh d),(400+sh d)),((408+sh d),(408+sh d)),((416+sh d),(416+sh d)),((888+sh d),(888+sh d)),((432+sh d),(432+sh d))] nv)))))))))))))))))))))))))))))) (fun p5 p5f=>(.blk 16 16 (Tq [Tu (424+sh d) (424+sh d) 0 (length (gi H4 (lJ (ae C)) R0 i)) 2] 78 false) (Tq [Tu (424+sh d) (424+sh d) 0 (length H5) 2] 78 false) (by(rw[show i=R0.length from by omega,hH5])) (.blk (424+sh d) (424+sh d) (Tq (flatMap bh (gi H4 (lJ (ae C)) R0 i)) 81 true) (Tq (flatMap bh H5) 81 true) (by(rw[show i=R0.length from by omega,hH5])) (Hn.last last1 0 (():Unit) rfl [(16,16),((96+sh d),(96+sh d)),((256+sh d),(256+sh d)),((257+sh d),(257+sh d)),((400+sh d),(400+sh d)),((408+sh d),(408+sh d)),((416+sh d),(416+sh d)),((424+sh d),(424+sh d)),((432+sh d),(432+sh d))] nv))))))) (fun|⟨i,hi,_⟩=>by cases d<;>kernel_rfl) ⟨(0),om,⟨⟩⟩ [(16,16),((96+sh d),(96+sh d)),((256+sh d),(256+sh d)),((257+sh d),(257+sh d)),((400+sh d),(400+sh d)),((408+sh d),(408+sh d)),((416+sh d),(416+sh d)),((440+sh d),(440+sh d)),((456+sh d),(456+sh d))] nv (bY (fun|()=>(.s 21 (.call 80 false [] (true&&(true&&Tz (0+n1*1) (length (map dB A))&&true&&af (bif true&&Tx (n1*1) (length (map dB A))then map dB A else take (n1*1) (drop 0 (map dB A))))&&true) tb ([TL (Tz 1 n1) n1 1 (bif true&&Tx (n1*1) (length (map dB A))then map dB A else take (n1*1) (drop 0 (map dB A))),zI 15]) _ (by exact(Ut (D.sim.slw rfl ((cO (A) (0) (n1*1)).trans (by(simp;done)))) (qr trivial))) (true) wr _ _ _ (TW (az.of Try.func80 rfl rfl) (@lv (take n1 A) (n1) om (15) w4 om)) (.s 13 (.call 80 false [] (true&&(true&&Tz (0+n2*1) (length (map dB B))&&true&&af (bif true&&Tx (n2*1) (length (map dB B))then map dB B else take (n2*1) (drop 0 (map dB B))))&&true) tb ([TL (Tz 1 n2) n2 1 (bif true&&Tx (n2*1) (length (map dB B))then map dB B else take (n2*1) (drop 0 (map dB B))),zI 15]) _ (by exact(Ut (D.sim.slw rfl ((cO (B) (0) (n2*1)).trans (by(simp;done)))) (qr trivial))) (true) wr _ _ _ (TW (az.of Try.func80 rfl rfl) (@lv (take n2 B) (n2) om (15) w4 om)) (.s 18 (.two (.s 2 (.bd (0<(k:Int)) (fun p6 p6f=>(.s 1 (.chk (true&&decide (0<(k:Int))&&true) w4 (.s 2 (.chk (Tz 3 (length (flatMap bm l))) DO (.lst (take 3 (drop 0 (flatMap bm l))) ([aQ (Tp (Tn.lit (getD l 0 mb))),zN (Tn.dist (getD l 0 mb)),zN (Tn.long (getD l 0 mb))]) (aB (k:=3) (i:=0) (fun _=>rfl) om om) (.s 13 (.br ((↑(Tn.long (getD l 0 mb)):Int)==0) (fun p7=>have p7f:=eq_of_beq p7;(.s 8 (.op (↑(Tp (Tn.lit (getD l 0 mb))):Int) Az (.s 18 (.chk (true&&decide ((↑(Tp (Tn.lit (getD l 0 mb))):Int)<(n1:Int))) IE (.s 2 (.chk (Tz (0+Tp (Tn.lit (getD l 0 mb))*2+2) (length (flatMap dj (ae (take n1 A))))) AB (.lst (take 2 (drop (0+Tp (Tn.lit (getD l 0 mb))*2) (flatMap dj (ae (take n1 A))))) ([ak (Ty (getD (ae (take n1 A)) (Tp (Tn.lit (getD l 0 mb))) mb)),aQ (Tm (getD (ae (take n1 A)) (Tp (Tn.lit (getD l 0 mb))) mb))]) (aB (k:=2) (i:=Tp (Tn.lit (getD l 0 mb))) (fun _=>rfl) q9 om) (.s 18 (.op (↑(Tm (getD (ae (take n1 A)) (Tp (Tn.lit (getD l 0 mb))) mb)):Int) q9 (.s 1 (.cl 107 false [] (.fn fK (@bX (Ty (getD (ae (take n1 A)) (Tp (Tn.lit (getD l 0 mb))) mb)) (Tm (getD (ae (take n1 A)) (Tp (Tn.lit (getD l 0 mb))) mb)) DN (by(exact(oA _).2)))) (.s 16 (.op (↑(Tm (getD (ae (take n1 A)) (Tp (Tn.lit (getD l 0 mb))) mb)):Int) q9 (.s 23 (.chk (true&&Tx (length H5*2) (length (flatMap bh H5))&&true&&true&&true&&true&&Tz ((length H5+2)*16) 140737488355328) AC (.s 11 (.blk 16 16 (Tq [Tu (1200+sh d) (1200+sh d) 0 (length H5+2) 2] 78 false) (Tq [Tu (1200+sh d) (1200+sh d) 0 (length (aY T1 T2 (ae (take n1 A)) (ae (take n2 B)) H5 l 1)) 2] 78 false) (by(rw[fN (i:=0) om om,jy,Tt];rfl)) (.blk (1200+sh d) (1200+sh d) (Tq (flatMap bh H5++[ak (fL (Ty (getD (ae (take n1 A)) (Tp (Tn.lit (getD l 0 mb))) mb)) (Tm (getD (ae (take n1 A)) (Tp (Tn.lit (getD l 0 mb))) mb))),zN (Tm (getD (ae (take n1 A)) (Tp (Tn.lit (getD l 0 mb))) mb)),uI 0,zI 0]) 81 true) (Tq (flatMap bh (aY T1 T2 (ae (take n1 A)) (ae (take n2 B)) H5 l 1)) 81 true) (by(refine ay ?_;rw[fN (i:=0) om om,jy,cX];rfl)) (Hn.inl T_ok ai false 53 (736+sh d) (ap Try.prog 74 0) (fun(x:(i:Nat)×'(hi:1≤i∧i≤k)×'Unit)=>match x with|⟨i,hi,_⟩=>TJ [(1,U9 (Ui 83) [] [TF (576+sh d) (576+sh d) 0,TF (688+sh d) (688+sh d) 0,TF (624+sh d) (624+sh d) 0]),(10,TL false k 3 (flatMap bm l)),(11,zN k),(12,nD i)] [⟨16,16,16,16,.b ⟨[(Tu (840+sh d) (840+sh d) (0) ((aY T1 T2 (ae (A.take n1)) (ae (B.take n2)) H5 l i).length) 2)],78,false⟩⟩,⟨(96+sh d),(96+sh d),(96+sh d),(96+sh d),.b ⟨[ak e,zI 1,uI 2,zI 2],81,false⟩⟩,⟨(256+sh d),(256+sh d),(256+sh d),(256+sh d),.b ⟨map dB L,5,true⟩⟩,⟨(257+sh d),(257+sh d),(257+sh d),(257+sh d),.b ⟨map dB F,5,true⟩⟩,⟨(400+sh d),(400+sh d),(400+sh d),(400+sh d),.b ⟨map dB A,5,true⟩⟩,⟨(408+sh d),(408+sh d),(408+sh d),(408+sh d),.b ⟨map dB B,5,true⟩⟩,⟨(416+sh d),(416+sh d),(416+sh d),(416+sh d),.b ⟨flatMap b8 R0,150,true⟩⟩,⟨(432+sh d),(432+sh d),(432+sh d),(432+sh d),.b ⟨flatMap dj (ae C),198,true⟩⟩,⟨(576+sh d),(576+sh d),(576+sh d),(576+sh d),.b ⟨[TF 16 16 0],73,false⟩⟩,⟨(592+sh d),(592+sh d),(592+sh d),(592+sh d),.b ⟨flatMap dj (ae (take n1 A)),198,true⟩⟩,⟨(624+sh d),(624+sh d),(624+sh d),(624+sh d),.b ⟨[Tu (592+sh d) (592+sh d) 0 n1 2],152,false⟩⟩,⟨(656+sh d),(656+sh d),(656+sh d),(656+sh d),.b ⟨flatMap dj (ae (take n2 B)),198,true⟩⟩,⟨(688+sh d),(688+sh d),(688+sh d),(688+sh d),.b ⟨[Tu (656+sh d) (656+sh d) 0 n2 2],152,false⟩⟩,⟨(840+sh d),(840+sh d),(1200+sh d),(1200+sh d),.b ⟨(aY T1 T2 (ae (A.take n1)) (ae (B.take n2)) H5 l i).flatMap bh,81,true⟩⟩] (848+sh d)) (fun(x:(i:Nat)×'(hi:1≤i∧i≤k)×'Unit)=>match x with|⟨i,hi,_⟩=>k-i) [⟨Unit,.exit 0,fun x=>match x with|()=>TJ [(1,U9 (Ui 83) [] [TF (576+sh d) (576+sh d) 0,TF (688+sh d) (688+sh d) 0,TF (624+sh d) (624+sh d) 0]),(10,TL false k 3 (flatMap bm l)),(11,zN k),(12,nD k)] [⟨16,16,16,16,.b ⟨[(Tu (840+sh d) (840+sh d) (0) ((aY T1 T2 (ae (A.take n1)) (ae (B.take n2)) H5 l k).length) 2)],78,false⟩⟩,⟨(96+sh d),(96+sh d),(96+sh d),(96+sh d),.b ⟨[ak e,zI 1,uI 2,zI 2],81,false⟩⟩,⟨(256+sh d),(256+sh d),(256+sh d),(256+sh d),.b ⟨map dB L,5,true⟩⟩,⟨(257+sh d),(257+sh d),(257+sh d),(257+sh d),.b ⟨map dB F,5,true⟩⟩,⟨(400+sh d),(400+sh d),(400+sh d),(400+sh d),.b ⟨map dB A,5,true⟩⟩,⟨(408+sh d),(408+sh d),(408+sh d),(408+sh d),.b ⟨map dB B,5,true⟩⟩,⟨(416+sh d),(416+sh d),(416+sh d),(416+sh d),.b ⟨flatMap b8 R0,150,true⟩⟩,⟨(432+sh d),(432+sh d),(432+sh d),(432+sh d),.b ⟨flatMap dj (ae C),198,true⟩⟩,⟨(576+sh d),(576+sh d),(576+sh d),(576+sh d),.b ⟨[TF 16 16 0],73,false⟩⟩,⟨(592+sh d),(592+sh d),(592+sh d),(592+sh d),.b ⟨flatMap dj (ae (take n1 A)),198,true⟩⟩,⟨(624+sh d),(624+sh d),(624+sh d),(624+sh d),.b ⟨[Tu (592+sh d) (592+sh d) 0 n1 2],152,false⟩⟩,⟨(656+sh d),(656+sh d),(656+sh d),(656+sh d),.b ⟨flatMap dj (ae (take n2 B)),198,true⟩⟩,⟨(688+sh d),(688+sh d),(688+sh d),(688+sh d),.b ⟨[Tu (656+sh d) (656+sh d) 0 n2 2],152,false⟩⟩,⟨(840+sh d),(840+sh d),(1200+sh d),(1200+sh d),.b ⟨(aY T1 T2 (ae (A.take n1)) (ae (B.take n2)) H5 l k).flatMap bh,81,true⟩⟩] (848+sh d)⟩] 1000 64 (fun|⟨i,hi,_⟩,Q,next1,last1=>(.s 2 (.bd ((i:Int)<k) (fun p8 p8f=>(.s 1 (.chk (true&&decide ((i:Int)<k)&&true) w4 (.s 2 (.chk (Tz (i*3+3) (length (flatMap bm l))) DO (.lst (take 3 (drop (i*3) (flatMap bm l))) ([aQ (Tp (Tn.lit (getD l i mb))),zN (Tn.dist (getD l i mb)),zN (Tn.long (getD l i mb))]) (aB (k:=3) (i:=i) (fun _=>rfl) om om) (.s 13 (.br ((↑(Tn.long (getD l i mb)):Int)==0) (fun p9=>have p9f:=eq_of_beq p9;(.s 8 (.op (↑(Tp (Tn.lit (getD l i mb))):Int) Az (.s 18 (.chk (true&&decide ((↑(Tp (Tn.lit (getD l i mb))):Int)<(n1:Int))) DP (.s 2 (.chk (Tz (0+Tp (Tn.lit (getD l i mb))*2+2) (length (flatMap dj (ae (take n1 A))))) zf (.lst (take 2 (drop (0+Tp (Tn.lit (getD l i mb))*2) (flatMap dj (ae (take n1 A))))) ([ak (Ty (getD (ae (take n1 A)) (Tp (Tn.lit (getD l i mb))) mb)),aQ (Tm (getD (ae (take n1 A)) (Tp (Tn.lit (getD l i mb))) mb))]) (aB (k:=2) (i:=Tp (Tn.lit (getD l i mb))) (fun _=>rfl) ib om) (.s 18 (.op (↑(Tm (getD (ae (take n1 A)) (Tp (Tn.lit (getD l i mb))) mb)):Int) ib (.s 1 (.cl 107 false [] (.fn fK (@bX (Ty (getD (ae (take n1 A)) (Tp (Tn.lit (getD l i mb))) mb)) (Tm (getD (ae (take n1 A)) (Tp (Tn.lit (getD l i mb))) mb)) DN (by(exact(oA _).2)))) (.s 16 (.op (↑(Tm (getD (ae (take n1 A)) (Tp (Tn.lit (getD l i mb))) mb)):Int) ib (.s 23 (.chk (true&&Tx (length (aY T1 T2 (ae (take n1 A)) (ae (take n2 B)) H5 l i)*2) (length (flatMap bh (aY T1 T2 (ae (take n1 A)) (ae (take n2 B)) H5 l i)))&&true&&true&&true&&true&&Tz ((length (aY T1 T2 (ae (take n1 A)) (ae (take n2 B)) H5 l i)+2)*16) 140737488355328) DQ (.s 9 (.ow ((i:Int)+1) (.s 1 (.val 12 (zI ((i:Int)+1)) (zN (i+1)) DC (.blk 16 16 (Tq [Tu (1288+sh d) (1288+sh d) 0 (length (aY T1 T2 (ae (take n1 A)) (ae (take n2 B)) H5 l i)+2) 2] 78 false) (Tq [Tu (1288+sh d) (1288+sh d) 0 (length (aY T1 T2 (ae (take n1 A)) (ae (take n2 B)) H5 l (i+1))) 2] 78 false) (by(rw[fN om om,Tt];rfl)) (.blk (1288+sh d) (1288+sh d) (Tq (flatMap bh (aY T1 T2 (ae (take n1 A)) (ae (take n2 B)) H5 l i)++[ak (fL (Ty (getD (ae (take n1 A)) (Tp (Tn.lit (getD l i mb))) mb)) (Tm (getD (ae (take n1 A)) (Tp (Tn.lit (getD l i mb))) mb))),zN (Tm (getD (ae (take n1 A)) (Tp (Tn.lit (getD l i mb))) mb)),uI 0,zI 0]) 81 true) (Tq (flatMap bh (aY T1 T2 (ae (take n1 A)) (ae (take n2 B)) H5 l (i+1))) 81 true) (by(refine ay ?_;rw[fN om om,cX];rfl)) (Hn.next next1 ⟨(i+1),om,⟨⟩⟩ ze [(16,16),((96+sh d),(96+sh d)),((256+sh d),(256+sh d)),((257+sh d),(257+sh d)),((400+sh d),(400+sh d)),((408+sh d),(408+sh d)),((416+sh d),(416+sh d)),((432+sh d),(432+sh d)),((576+sh d),(576+sh d)),((592+sh d),(592+sh d)),((624+sh d),(624+sh d)),((656+sh d),(656+sh d)),((688+sh d),(688+sh d)),((1288+sh d),(1288+sh d))] nv))))))))))))))))))))))) (fun p9=>have p9f:=am p9;(.s 7 (.cl 98 false [] (.fn J5 (@kE (T1) aD om om (Tn.long (getD l i mb)) ib ib)) (.s 35 (.chk (true&&decide ((↑(257+ao T1 (Tn.long (getD l i mb))):Int)<(n1:Int))) F8 (.s 2 (.chk (Tz (0+(257+ao T1 (Tn.long (getD l i mb)))*2+2) (length (flatMap dj (ae (take n1 A))))) zf (.lst (take 2 (drop (0+(257+ao T1 (Tn.long (getD l i mb)))*2) (flatMap dj (ae (take n1 A))))) ([ak (Ty (getD (ae (take n1 A)) (257+ao T1 (Tn.long (getD l i mb))) mb)),aQ (Tm (getD (ae (take n1 A)) (257+ao T1 (Tn.long (getD l i mb))) mb))]) (aB (k:=2) (i:=257+ao T1 (Tn.long (getD l i mb))) (fun _=>rfl) ib om) (.s 18 (.op (↑(Tm (getD (ae (take n1 A)) (257+ao T1 (Tn.long (getD l i mb))) mb)):Int) ib (.s 1 (.cl 107 false [] (.fn fK (@bX (Ty (getD (ae (take n1 A)) (257+ao T1 (Tn.long (getD l i mb))) mb)) (Tm (getD (ae (take n1 A)) (257+ao T1 (Tn.long (getD l i mb))) mb)) DN (by(exact(oA _).2)))) (.s 16 (.op (↑(Tm (getD (ae (take n1 A)) (257+ao T1 (Tn.long (getD l i mb))) mb)):Int) ib (.s 4 (.opt (ar .u32 (↑(Tn.long (getD l i mb)-Sy.least (getD T1 (ao T1 (Tn.long (getD l i mb))) mb)):Int)) (ak (Tn.long (getD l i mb)-Sy.least (getD T1 (ao T1 (Tn.long (getD l i mb))) mb))) (aE ib) (.s 18 (.chk (true&&Tx (length (aY T1 T2 (ae (take n1 A)) (ae (take n2 B)) H5 l i)*2) (length (flatMap bh (aY T1 T2 (ae (take n1 A)) (ae (take n2 B)) H5 l i)))&&true&&true&&true&&true&&Tz ((length (aY T1 T2 (ae (take n1 A)) (ae (take n2 B)) H5 l i)+2)*16) 140737488355328) DQ (.s 14 (.cl 99 false [] (.fn J6 (@pd (T2) aD om om (Tn.dist (getD l i mb)) ib ib)) (.s 34 (.chk (true&&decide ((↑(ao T2 (Tn.dist (getD l i mb))):Int)<(n2:Int))) F8 (.s 2 (.chk (Tz (0+ao T2 (Tn.dist (getD l i mb))*2+2) (length (flatMap dj (ae (take n2 B))))) zf (.lst (take 2 (drop (0+ao T2 (Tn.dist (getD l i mb))*2) (flatMap dj (ae (take n2 B))))) ([ak (Ty (getD (ae (take n2 B)) (ao T2 (Tn.dist (getD l i mb))) mb)),aQ (Tm (getD (ae (take n2 B)) (ao T2 (Tn.dist (getD l i mb))) mb))]) (aB (k:=2) (i:=ao T2 (Tn.dist (getD l i mb))) (fun _=>rfl) ib om) (.s 18 (.op (↑(Tm (getD (ae (take n2 B)) (ao T2 (Tn.dist (getD l i mb))) mb)):Int) ib (.s 1 (.cl 107 false [] (.fn fK (@bX (Ty (getD (ae (take n2 B)) (ao T2 (Tn.dist (getD l i mb))) mb)) (Tm (getD (ae (take n2 B)) (ao T2 (Tn.dist (getD l i mb))) mb)) IF (by(exact(oB _).2)))) (.s 16 (.op (↑(Tm (getD (ae (take n2 B)) (ao T2 (Tn.dist (getD l i mb))) mb)):Int) ib (.s 4 (.opt (ar .u32 (↑(Tn.dist (getD l i mb)-Sy.least (getD T2 (ao T2 (Tn.dist (getD l i mb))) mb)):Int)) (ak (Tn.dist (getD l i mb)-Sy.least (getD T2 (ao T2 (Tn.dist (getD l i mb))) mb))) (aE ib) (.s 18 (.chk (true&&Tx ((length (aY T1 T2 (ae (take n1 A)) (ae (take n2 B)) H5 l i)+2)*2) (length (flatMap bh (aY T1 T2 (ae (take n1 A)) (ae (take n2 B)) H5 l i)++[ak (fL (Ty (getD (ae (take n1 A)) (257+ao T1 (Tn.long (getD l i mb))) mb)) (Tm (getD (ae (take n1 A)) (257+ao T1 (Tn.long (getD l i mb))) mb))),zN (Tm (getD (ae (take n1 A)) (257+ao T1 (Tn.long (getD l i mb))) mb)),ak (Tn.long (getD l i mb)-Sy.least (getD T1 (ao T1 (Tn.long (getD l i mb))) mb)),zN (Sy.bits (getD T1 (ao T1 (Tn.long (getD l i mb))) mb))]))&&true&&true&&true&&true&&Tz ((length (aY T1 T2 (ae (take n1 A)) (ae (take n2 B)) H5 l i)+2+2)*16) 140737488355328) LH (.s 9 (.ow ((i:Int)+1) (.s 1 (.val 12 (zI ((i:Int)+1)) (zN (i+1)) DC (.blk 16 16 (Tq [Tu (2064+sh d) (2064+sh d) 0 (length (aY T1 T2 (ae (take n1 A)) (ae (take n2 B)) H5 l i)+2+2) 2] 78 false) (Tq [Tu (2064+sh d) (2064+sh d) 0 (length (aY T1 T2 (ae (take n1 A)) (ae (take n2 B)) H5 l (i+1))) 2] 78 false) (by(rw[gM om om,Tt];rfl)) (.blk (2064+sh d) (2064+sh d) (Tq (flatMap bh (aY T1 T2 (ae (take n1 A)) (ae (take n2 B)) H5 l i)++[ak (fL (Ty (getD (ae (take n1 A)) (257+ao T1 (Tn.long (getD l i mb))) mb)) (Tm (getD (ae (take n1 A)) (257+ao T1 (Tn.long (getD l i mb))) mb))),zN (Tm (getD (ae (take n1 A)) (257+ao T1 (Tn.long (getD l i mb))) mb)),ak (Tn.long (getD l i mb)-Sy.least (getD T1 (ao T1 (Tn.long (getD l i mb))) mb)),zN (Sy.bits (getD T1 (ao T1 (Tn.long (getD l i mb))) mb))]++[ak (fL (Ty (getD (ae (take n2 B)) (ao T2 (Tn.dist (getD l i mb))) mb)) (Tm (getD (ae (take n2 B)) (ao T2 (Tn.dist (getD l i mb))) mb))),zN (Tm (getD (ae (take n2 B)) (ao T2 (Tn.dist (getD l i mb))) mb)),ak (Tn.dist (getD l i mb)-Sy.least (getD T2 (ao T2 (Tn.dist (getD l i mb))) mb)),zN (Sy.bits (getD T2 (ao T2 (Tn.dist (getD l i mb))) mb))]) 81 true) (Tq (flatMap bh (aY T1 T2 (ae (take n1 A)) (ae (take n2 B)) H5 l (i+1))) 81 true) LI (Hn.next next1 ⟨(i+1),om,⟨⟩⟩ ze [(16,16),((96+sh d),(96+sh d)),((256+sh d),(256+sh d)),((257+sh d),(257+sh d)),((400+sh d),(400+sh d)),((408+sh d),(408+sh d)),((416+sh d),(416+sh d)),((432+sh d),(432+sh d)),((576+sh d),(576+sh d)),((592+sh d),(592+sh d)),((624+sh d),(624+sh d)),((656+sh d),(656+sh d)),((688+sh d),(688+sh d)),((2064+sh d),(2064+sh d))] nv)))))))))))))))))))))))))))))))))))))))))))))))))) (fun p8 p8f=>(.val 12 (zN i) (zN k) F9 (.blk 16 16 (Tq [Tu (840+sh d) (840+sh d) 0 (length (aY T1 T2 (ae (take n1 A)) (ae (take n2 B)) H5 l i)) 2] 78 false) (Tq [Tu (840+sh d) (840+sh d) 0 (length (aY T1 T2 (ae (take n1 A)) (ae (take n2 B)) H5 l k)) 2] 78 false) F9 (.blk (840+sh d) (840+sh d) (Tq (flatMap bh (aY T1 T2 (ae (take n1 A)) (ae (take n2 B)) H5 l i)) 81 true) (Tq (flatMap bh (aY T1 T2 (ae (take n1 A)) (ae (take n2 B)) H5 l k)) 81 true) F9 (Hn.last last1 0 (():Unit) rfl [(16,16),((96+sh d),(96+sh d)),((256+sh d),(256+sh d)),((257+sh d),(257+sh d)),((400+sh d),(400+sh d)),((408+sh d),(408+sh d)),((416+sh d),(416+sh d)),((432+sh d),(432+sh d)),((576+sh d),(576+sh d)),((592+sh d),(592+sh d)),((624+sh d),(624+sh d)),((656+sh d),(656+sh d)),((688+sh d),(688+sh d)),((840+sh d),(840+sh d))] nv)))))))) (fun|⟨i,hi,_⟩=>by cases d<;>kernel_rfl) ⟨(1),om,⟨⟩⟩ [(16,16),((96+sh d),(96+sh d)),((256+sh d),(256+sh d)),((257+sh d),(257+sh d)),((400+sh d),(400+sh d)),((408+sh d),(408+sh d)),((416+sh d),(416+sh d)),((432+sh d),(432+sh d)),((576+sh d),(576+sh d)),((592+sh d),(592+sh d)),((624+sh d),(624+sh d)),((656+sh d),(656+sh d)),((688+sh d),(688+sh d)),((1200+sh d),(1200+sh d))] nv (bY (fun|()=>(.s 19 (.chk (true&&decide (256<(n1:Int))) IG (.s 2 (.chk (Tz 514 (length (flatMap dj (ae (take n1 A))))) AB (.lst (take 2 (drop 512 (flatMap dj (ae (take n1 A))))) ([ak (Ty (getD (ae (take n1 A)) 256 mb)),aQ (Tm (getD (ae (take n1 A)) 256 mb))]) (aB (k:=2) (i:=256) (fun _=>rfl) om om) (.s 18 (.op (↑(Tm (getD (ae (take n1 A)) 256 mb)):Int) q9 (.s 1 (.cl 107 false [] (.fn fK (@bX (Ty (getD (ae (take n1 A)) 256 mb)) (Tm (getD (ae (take n1 A)) 256 mb)) DN (by(exact(oA _).2)))) (.s 16 (.op (↑(Tm (getD (ae (take n1 A)) 256 mb)):Int) q9 (.s 23 (.chk (true&&Tx (length (aY T1 T2 (ae (take n1 A)) (ae (take n2 B)) H5 l k)*2) (length (flatMap bh (aY T1 T2 (ae (take n1 A)) (ae (take n2 B)) H5 l k)))&&true&&true&&true&&true&&Tz ((length (aY T1 T2 (ae (take n1 A)) (ae (take n2 B)) H5 l k)+2)*16) 140737488355328) AC (.s 9 (.out [16,(1200+sh d)] [16,(1200+sh d)] (TF 0 0 0) [Tq [Tu 1 1 0 (length (aY T1 T2 (ae (take n1 A)) (ae (take n2 B)) H5 l k)+2) 2] 78 false,Tq (flatMap bh (aY T1 T2 (ae (take n1 A)) (ae (take n2 B)) H5 l k)++[ak (fL (Ty (getD (ae (take n1 A)) 256 mb)) (Tm (getD (ae (take n1 A)) 256 mb))),zN (Tm (getD (ae (take n1 A)) 256 mb)),uI 0,zI 0]) 81 true] R (ok _ _ wr (by(rw[Tt,cX];rfl)))))))))))))))))))))))))))))))))))))))) (fun p7=>have p7f:=am p7;(.s 7 (.cl 98 false [] (.fn J5 (@kE (T1) aD om om (Tn.long (getD l 0 mb)) q9 q9)) (.s 35 (.chk (true&&decide ((↑(257+ao T1 (Tn.long (getD l 0 mb))):Int)<(n1:Int))) IE (.s 2 (.chk (Tz (0+(257+ao T1 (Tn.long (getD l 0 mb)))*2+2) (length (flatMap dj (ae (take n1 A))))) AB (.lst (take 2 (drop (0+(257+ao T1 (Tn.long (getD l 0 mb)))*2) (flatMap dj (ae (take n1 A))))) ([ak (Ty (getD (ae (take n1 A)) (257+ao T1 (Tn.long (getD l 0 mb))) mb)),aQ (Tm (getD (ae (take n1 A)) (257+ao T1 (Tn.long (getD l 0 mb))) mb))]) (aB (k:=2) (i:=257+ao T1 (Tn.long (getD l 0 mb))) (fun _=>rfl) q9 om) (.s 18 (.op (↑(Tm (getD (ae (take n1 A)) (257+ao T1 (Tn.long (getD l 0 mb))) mb)):Int) q9 (.s 1 (.cl 107 false [] (.fn fK (@bX (Ty (getD (ae (take n1 A)) (257+ao T1 (Tn.long (getD l 0 mb))) mb)) (Tm (getD (ae (take n1 A)) (257+ao T1 (Tn.long (getD l 0 mb))) mb)) DN (by(exact(oA _).2)))) (.s 16 (.op (↑(Tm (getD (ae (take n1 A)) (257+ao T1 (Tn.long (getD l 0 mb))) mb)):Int) q9 (.s 4 (.opt (ar .u32 (↑(Tn.long (getD l 0 mb)-Sy.least (getD T1 (ao T1 (Tn.long (getD l 0 mb))) mb)):Int)) (ak (Tn.long (getD l 0 mb)-Sy.least (getD T1 (ao T1 (Tn.long (getD l 0 mb))) mb))) (aE q9) (.s 18 (.chk (true&&Tx (length H5*2) (length (flatMap bh H5))&&true&&true&&true&&true&&Tz ((length H5+2)*16) 140737488355328) AC (.s 14 (.cl 99 false [] (.fn J6 (@pd (T2) aD om om (Tn.dist (getD l 0 mb)) q9 q9)) (.s 34 (.chk (true&&decide ((↑(ao T2 (Tn.dist (getD l 0 mb))):Int)<(n2:Int))) IE (.s 2 (.chk (Tz (0+ao T2 (Tn.dist (getD l 0 mb))*2+2) (length (flatMap dj (ae (take n2 B))))) AB (.lst (take 2 (drop (0+ao T2 (Tn.dist (getD l 0 mb))*2) (flatMap dj (ae (take n2 B))))) ([ak (Ty (getD (ae (take n2 B)) (ao T2 (Tn.dist (getD l 0 mb))) mb)),aQ (Tm (getD (ae (take n2 B)) (ao T2 (Tn.dist (getD l 0 mb))) mb))]) (aB (k:=2) (i:=ao T2 (Tn.dist (getD l 0 mb))) (fun _=>rfl) q9 om) (.s 18 (.op (↑(Tm (getD (ae (take n2 B)) (ao T2 (Tn.dist (getD l 0 mb))) mb)):Int) q9 (.s 1 (.cl 107 false [] (.fn fK (@bX (Ty (getD (ae (take n2 B)) (ao T2 (Tn.dist (getD l 0 mb))) mb)) (Tm (getD (ae (take n2 B)) (ao T2 (Tn.dist (getD l 0 mb))) mb)) IF (by(exact(oB _).2)))) (.s 16 (.op (↑(Tm (getD (ae (take n2 B)) (ao T2 (Tn.dist (getD l 0 mb))) mb)):Int) q9 (.s 4 (.opt (ar .u32 (↑(Tn.dist (getD l 0 mb)-Sy.least (getD T2 (ao T2 (Tn.dist (getD l 0 mb))) mb)):Int)) (ak (Tn.dist (getD l 0 mb)-Sy.least (getD T2 (ao T2 (Tn.dist (getD l 0 mb))) mb))) (aE q9) (.s 18 (.chk (true&&Tx ((length H5+2)*2) (length (flatMap bh H5++[ak (fL (Ty (getD (ae (take n1 A)) (257+ao T1 (Tn.long (getD l 0 mb))) mb)) (Tm (getD (ae (take n1 A)) (257+ao T1 (Tn.long (getD l 0 mb))) mb))),zN (Tm (getD (ae (take n1 A)) (257+ao T1 (Tn.long (getD l 0 mb))) mb)),ak (Tn.long (getD l 0 mb)-Sy.least (getD T1 (ao T1 (Tn.long (getD l 0 mb))) mb)),zN (Sy.bits (getD T1 (ao T1 (Tn.long (getD l 0 mb))) mb))]))&&true&&true&&true&&true&&Tz ((length H5+2+2)*16) 140737488355328) w4 (.s 11 (.blk 16 16 (Tq [Tu (1976+sh d) (1976+sh d) 0 (length H5+2+2) 2] 78 false) (Tq [Tu (1976+sh d) (1976+sh d) 0 (length (aY T1 T2 (ae (take n1 A)) (ae (take n2 B)) H5 l 1)) 2] 78 false) (by(rw[gM (i:=0) om om,jy,Tt];rfl)) (.blk (1976+sh d) (1976+sh d) (Tq (flatMap bh H5++[ak (fL (Ty (getD (ae (take n1 A)) (257+ao T1 (Tn.long (getD l 0 mb))) mb)) (Tm (getD (ae (take n1 A)) (257+ao T1 (Tn.long (getD l 0 mb))) mb))),zN (Tm (getD (ae (take n1 A)) (257+ao T1 (Tn.long (getD l 0 mb))) mb)),ak (Tn.long (getD l 0 mb)-Sy.least (getD T1 (ao T1 (Tn.long (getD l 0 mb))) mb)),zN (Sy.bits (getD T1 (ao T1 (Tn.long (getD l 0 mb))) mb))]++[ak (fL (Ty (getD (ae (take n2 B)) (ao T2 (Tn.dist (getD l 0 mb))) mb)) (Tm (getD (ae (take n2 B)) (ao T2 (Tn.dist (getD l 0 mb))) mb))),zN (Tm (getD (ae (take n2 B)) (ao T2 (Tn.dist (getD l 0 mb))) mb)),ak (Tn.dist (getD l 0 mb)-Sy.least (getD T2 (ao T2 (Tn.dist (getD l 0 mb))) mb)),zN (Sy.bits (getD T2 (ao T2 (Tn.dist (getD l 0 mb))) mb))]) 81 true) (Tq (flatMap bh (aY T1 T2 (ae (take n1 A)) (ae (take n2 B)) H5 l 1)) 81 true) (by(refine ay ?_;rw[gM (i:=0) om om,jy,cX,cX,TG];rfl)) (Hn.inl T_ok ai false 53 (736+sh d) (ap Try.prog 74 0) (fun(x:(i:Nat)×'(hi:1≤i∧i≤k)×'Unit)=>match x with|⟨i,hi,_⟩=>TJ [(1,U9 (Ui 83) [] [TF (576+sh d) (576+sh d) 0,TF (688+sh d) (688+sh d) 0,TF (624+sh d) (624+sh d) 0]),(10,TL false k 3 (flatMap bm l)),(11,zN k),(12,nD i)] [⟨16,16,16,16,.b ⟨[(Tu (840+sh d) (840+sh d) (0) ((aY T1 T2 (ae (A.take n1)) (ae (B.take n2)) H5 l i).length) 2)],78,false⟩⟩,⟨(96+sh d),(96+sh d),(96+sh d),(96+sh d),.b ⟨[ak e,zI 1,uI 2,zI 2],81,false⟩⟩,⟨(256+sh d),(256+sh d),(256+sh d),(256+sh d),.b ⟨map dB L,5,true⟩⟩,⟨(257+sh d),(257+sh d),(257+sh d),(257+sh d),.b ⟨map dB F,5,true⟩⟩,⟨(400+sh d),(400+sh d),(400+sh d),(400+sh d),.b ⟨map dB A,5,true⟩⟩,⟨(408+sh d),(408+sh d),(408+sh d),(408+sh d),.b ⟨map dB B,5,true⟩⟩,⟨(416+sh d),(416+sh d),(416+sh d),(416+sh d),.b ⟨flatMap b8 R0,150,true⟩⟩,⟨(432+sh d),(432+sh d),(432+sh d),(432+sh d),.b ⟨flatMap dj (ae C),198,true⟩⟩,⟨(576+sh d),(576+sh d),(576+sh d),(576+sh d),.b ⟨[TF 16 16 0],73,false⟩⟩,⟨(592+sh d),(592+sh d),(592+sh d),(592+sh d),.b ⟨flatMap dj (ae (take n1 A)),198,true⟩⟩,⟨(624+sh d),(624+sh d),(624+sh d),(624+sh d),.b ⟨[Tu (592+sh d) (592+sh d) 0 n1 2],152,false⟩⟩,⟨(656+sh d),(656+sh d),(656+sh d),(656+sh d),.b ⟨flatMap dj (ae (take n2 B)),198,true⟩⟩,⟨(688+sh d),(688+sh d),(688+sh d),(688+sh d),.b ⟨[Tu (656+sh d) (656+sh d) 0 n2 2],152,false⟩⟩,⟨(840+sh d),(840+sh d),(1976+sh d),(1976+sh d),.b ⟨(aY T1 T2 (ae (A.take n1)) (ae (B.take n2)) H5 l i).flatMap bh,81,true⟩⟩] (848+sh d)) (fun(x:(i:Nat)×'(hi:1≤i∧i≤k)×'Unit)=>match x with|⟨i,hi,_⟩=>k-i) [⟨Unit,.exit 0,fun x=>match x with|()=>TJ [(1,U9 (Ui 83) [] [TF (576+sh d) (576+sh d) 0,TF (688+sh d) (688+sh d) 0,TF (624+sh d) (624+sh d) 0]),(10,TL false k 3 (flatMap bm l)),(11,zN k),(12,nD k)] [⟨16,16,16,16,.b ⟨[(Tu (840+sh d) (840+sh d) (0) ((aY T1 T2 (ae (A.take n1)) (ae (B.take n2)) H5 l k).length) 2)],78,false⟩⟩,⟨(96+sh d),(96+sh d),(96+sh d),(96+sh d),.b ⟨[ak e,zI 1,uI 2,zI 2],81,false⟩⟩,⟨(256+sh d),(256+sh d),(256+sh d),(256+sh d),.b ⟨map dB L,5,true⟩⟩,⟨(257+sh d),(257+sh d),(257+sh d),(257+sh d),.b ⟨map dB F,5,true⟩⟩,⟨(400+sh d),(400+sh d),(400+sh d),(400+sh d),.b ⟨map dB A,5,true⟩⟩,⟨(408+sh d),(408+sh d),(408+sh d),(408+sh d),.b ⟨map dB B,5,true⟩⟩,⟨(416+sh d),(416+sh d),(416+sh d),(416+sh d),.b ⟨flatMap b8 R0,150,true⟩⟩,⟨(432+sh d),(432+sh d),(432+sh d),(432+sh d),.b ⟨flatMap dj (ae C),198,true⟩⟩,⟨(576+sh d),(576+sh d),(576+sh d),(576+sh d),.b ⟨[TF 16 16 0],73,false⟩⟩,⟨(592+sh d),(592+sh d),(592+sh d),(592+sh d),.b ⟨flatMap dj (ae (take n1 A)),198,true⟩⟩,⟨(624+sh d),(624+sh d),(624+sh d),(624+sh d),.b ⟨[Tu (592+sh d) (592+sh d) 0 n1 2],152,false⟩⟩,⟨(656+sh d),(656+sh d),(656+sh d),(656+sh d),.b ⟨flatMap dj (ae (take n2 B)),198,true⟩⟩,⟨(688+sh d),(688+sh d),(688+sh d),(688+sh d),.b ⟨[Tu (656+sh d) (656+sh d) 0 n2 2],152,false⟩⟩,⟨(840+sh d),(840+sh d),(1976+sh d),(1976+sh d),.b ⟨(aY T1 T2 (ae (A.take n1)) (ae (B.take n2)) H5 l k).flatMap bh,81,true⟩⟩] (848+sh d)⟩] 1000 64 (fun|⟨i,hi,_⟩,Q,next1,last1=>(.s 2 (.bd ((i:Int)<k) (fun p10 p10f=>(.s 1 (.chk (true&&decide ((i:Int)<k)&&true) w4 (.s 2 (.chk (Tz (i*3+3) (length (flatMap bm l))) DO (.lst (take 3 (drop (i*3) (flatMap bm l))) ([aQ (Tp (Tn.lit (getD l i mb))),zN (Tn.dist (getD l i mb)),zN (Tn.long (getD l i mb))]) (aB (k:=3) (i:=i) (fun _=>rfl) om om) (.s 13 (.br ((↑(Tn.long (getD l i mb)):Int)==0) (fun p11=>have p11f:=eq_of_beq p11;(.s 8 (.op (↑(Tp (Tn.lit (getD l i mb))):Int) Az (.s 18 (.chk (true&&decide ((↑(Tp (Tn.lit (getD l i mb))):Int)<(n1:Int))) DP (.s 2 (.chk (Tz (0+Tp (Tn.lit (getD l i mb))*2+2) (length (flatMap dj (ae (take n1 A))))) zf (.lst (take 2 (drop (0+Tp (Tn.lit (getD l i mb))*2) (flatMap dj (ae (take n1 A))))) ([ak (Ty (getD (ae (take n1 A)) (Tp (Tn.lit (getD l i mb))) mb)),aQ (Tm (getD (ae (take n1 A)) (Tp (Tn.lit (getD l i mb))) mb))]) (aB (k:=2) (i:=Tp (Tn.lit (getD l i mb))) (fun _=>rfl) ib om) (.s 18 (.op (↑(Tm (getD (ae (take n1 A)) (Tp (Tn.lit (getD l i mb))) mb)):Int) ib (.s 1 (.cl 107 false [] (.fn fK (@bX (Ty (getD (ae (take n1 A)) (Tp (Tn.lit (getD l i mb))) mb)) (Tm (getD (ae (take n1 A)) (Tp (Tn.lit (getD l i mb))) mb)) DN (by(exact(oA _).2)))) (.s 16 (.op (↑(Tm (getD (ae (take n1 A)) (Tp (Tn.lit (getD l i mb))) mb)):Int) ib (.s 23 (.chk (true&&Tx (length (aY T1 T2 (ae (take n1 A)) (ae (take n2 B)) H5 l i)*2) (length (flatMap bh (aY T1 T2 (ae (take n1 A)) (ae (take n2 B)) H5 l i)))&&true&&true&&true&&true&&Tz ((length (aY T1 T2 (ae (take n1 A)) (ae (take n2 B)) H5 l i)+2)*16) 140737488355328) DQ (.s 9 (.ow ((i:Int)+1) (.s 1 (.val 12 (zI ((i:Int)+1)) (zN (i+1)) DC (.blk 16 16 (Tq [Tu (1288+sh d) (1288+sh d) 0 (length (aY T1 T2 (ae (take n1 A)) (ae (take n2 B)) H5 l i)+2) 2] 78 false) (Tq [Tu (1288+sh d) (1288+sh d) 0 (length (aY T1 T2 (ae (take n1 A)) (ae (take n2 B)) H5 l (i+1))) 2] 78 false) (by(rw[fN om om,Tt];rfl)) (.blk (1288+sh d) (1288+sh d) (Tq (flatMap bh (aY T1 T2 (ae (take n1 A)) (ae (take n2 B)) H5 l i)++[ak (fL (Ty (getD (ae (take n1 A)) (Tp (Tn.lit (getD l i mb))) mb)) (Tm (getD (ae (take n1 A)) (Tp (Tn.lit (getD l i mb))) mb))),zN (Tm (getD (ae (take n1 A)) (Tp (Tn.lit (getD l i mb))) mb)),uI 0,zI 0]) 81 true) (Tq (flatMap bh (aY T1 T2 (ae (take n1 A)) (ae (take n2 B)) H5 l (i+1))) 81 true) (by(refine ay ?_;rw[fN om om,cX];rfl)) (Hn.next next1 ⟨(i+1),om,⟨⟩⟩ ze [(16,16),((96+sh d),(96+sh d)),((256+sh d),(256+sh d)),((257+sh d),(257+sh d)),((400+sh d),(400+sh d)),((408+sh d),(408+sh d)),((416+sh d),(416+sh d)),((432+sh d),(432+sh d)),((576+sh d),(576+sh d)),((592+sh d),(592+sh d)),((624+sh d),(624+sh d)),((656+sh d),(656+sh d)),((688+sh d),(688+sh d)),((1288+sh d),(1288+sh d))] nv))))))))))))))))))))))) (fun p11=>have p11f:=am p11;(.s 7 (.cl 98 false [] (.fn J5 (@kE (T1) aD om om (Tn.long (getD l i mb)) ib ib)) (.s 35 (.chk (true&&decide ((↑(257+ao T1 (Tn.long (getD l i mb))):Int)<(n1:Int))) F8 (.s 2 (.chk (Tz (0+(257+ao T1 (Tn.long (getD l i mb)))*2+2) (length (flatMap dj (ae (take n1 A))))) zf (.lst (take 2 (drop (0+(257+ao T1 (Tn.long (getD l i mb)))*2) (flatMap dj (ae (take n1 A))))) ([ak (Ty (getD (ae (take n1 A)) (257+ao T1 (Tn.long (getD l i mb))) mb)),aQ (Tm (getD (ae (take n1 A)) (257+ao T1 (Tn.long (getD l i mb))) mb))]) (aB (k:=2) (i:=257+ao T1 (Tn.long (getD l i mb))) (fun _=>rfl) ib om) (.s 18 (.op (↑(Tm (getD (ae (take n1 A)) (257+ao T1 (Tn.long (getD l i mb))) mb)):Int) ib (.s 1 (.cl 107 false [] (.fn fK (@bX (Ty (getD (ae (take n1 A)) (257+ao T1 (Tn.long (getD l i mb))) mb)) (Tm (getD (ae (take n1 A)) (257+ao T1 (Tn.long (getD l i mb))) mb)) DN (by(exact(oA _).2)))) (.s 16 (.op (↑(Tm (getD (ae (take n1 A)) (257+ao T1 (Tn.long (getD l i mb))) mb)):Int) ib (.s 4 (.opt (ar .u32 (↑(Tn.long (getD l i mb)-Sy.least (getD T1 (ao T1 (Tn.long (getD l i mb))) mb)):Int)) (ak (Tn.long (getD l i mb)-Sy.least (getD T1 (ao T1 (Tn.long (getD l i mb))) mb))) (aE ib) (.s 18 (.chk (true&&Tx (length (aY T1 T2 (ae (take n1 A)) (ae (take n2 B)) H5 l i)*2) (length (flatMap bh (aY T1 T2 (ae (take n1 A)) (ae (take n2 B)) H5 l i)))&&true&&true&&true&&true&&Tz ((length (aY T1 T2 (ae (take n1 A)) (ae (take n2 B)) H5 l i)+2)*16) 140737488355328) DQ (.s 14 (.cl 99 false [] (.fn J6 (@pd (T2) aD om om (Tn.dist (getD l i mb)) ib ib)) (.s 34 (.chk (true&&decide ((↑(ao T2 (Tn.dist (getD l i mb))):Int)<(n2:Int))) F8 (.s 2 (.chk (Tz (0+ao T2 (Tn.dist (getD l i mb))*2+2) (length (flatMap dj (ae (take n2 B))))) zf (.lst (take 2 (drop (0+ao T2 (Tn.dist (getD l i mb))*2) (flatMap dj (ae (take n2 B))))) ([ak (Ty (getD (ae (take n2 B)) (ao T2 (Tn.dist (getD l i mb))) mb)),aQ (Tm (getD (ae (take n2 B)) (ao T2 (Tn.dist (getD l i mb))) mb))]) (aB (k:=2) (i:=ao T2 (Tn.dist (getD l i mb))) (fun _=>rfl) ib om) (.s 18 (.op (↑(Tm (getD (ae (take n2 B)) (ao T2 (Tn.dist (getD l i mb))) mb)):Int) ib (.s 1 (.cl 107 false [] (.fn fK (@bX (Ty (getD (ae (take n2 B)) (ao T2 (Tn.dist (getD l i mb))) mb)) (Tm (getD (ae (take n2 B)) (ao T2 (Tn.dist (getD l i mb))) mb)) IF (by(exact(oB _).2)))) (.s 16 (.op (↑(Tm (getD (ae (take n2 B)) (ao T2 (Tn.dist (getD l i mb))) mb)):Int) ib (.s 4 (.opt (ar .u32 (↑(Tn.dist (getD l i mb)-Sy.least (getD T2 (ao T2 (Tn.dist (getD l i mb))) mb)):Int)) (ak (Tn.dist (getD l i mb)-Sy.least (getD T2 (ao T2 (Tn.dist (getD l i mb))) mb))) (aE ib) (.s 18 (.chk (true&&Tx ((length (aY T1 T2 (ae (take n1 A)) (ae (take n2 B)) H5 l i)+2)*2) (length (flatMap bh (aY T1 T2 (ae (take n1 A)) (ae (take n2 B)) H5 l i)++[ak (fL (Ty (getD (ae (take n1 A)) (257+ao T1 (Tn.long (getD l i mb))) mb)) (Tm (getD (ae (take n1 A)) (257+ao T1 (Tn.long (getD l i mb))) mb))),zN (Tm (getD (ae (take n1 A)) (257+ao T1 (Tn.long (getD l i mb))) mb)),ak (Tn.long (getD l i mb)-Sy.least (getD T1 (ao T1 (Tn.long (getD l i mb))) mb)),zN (Sy.bits (getD T1 (ao T1 (Tn.long (getD l i mb))) mb))]))&&true&&true&&true&&true&&Tz ((length (aY T1 T2 (ae (take n1 A)) (ae (take n2 B)) H5 l i)+2+2)*16) 140737488355328) LH (.s 9 (.ow ((i:Int)+1) (.s 1 (.val 12 (zI ((i:Int)+1)) (zN (i+1)) DC (.blk 16 16 (Tq [Tu (2064+sh d) (2064+sh d) 0 (length (aY T1 T2 (ae (take n1 A)) (ae (take n2 B)) H5 l i)+2+2) 2] 78 false) (Tq [Tu (2064+sh d) (2064+sh d) 0 (length (aY T1 T2 (ae (take n1 A)) (ae (take n2 B)) H5 l (i+1))) 2] 78 false) (by(rw[gM om om,Tt];rfl)) (.blk (2064+sh d) (2064+sh d) (Tq (flatMap bh (aY T1 T2 (ae (take n1 A)) (ae (take n2 B)) H5 l i)++[ak (fL (Ty (getD (ae (take n1 A)) (257+ao T1 (Tn.long (getD l i mb))) mb)) (Tm (getD (ae (take n1 A)) (257+ao T1 (Tn.long (getD l i mb))) mb))),zN (Tm (getD (ae (take n1 A)) (257+ao T1 (Tn.long (getD l i mb))) mb)),ak (Tn.long (getD l i mb)-Sy.least (getD T1 (ao T1 (Tn.long (getD l i mb))) mb)),zN (Sy.bits (getD T1 (ao T1 (Tn.long (getD l i mb))) mb))]++[ak (fL (Ty (getD (ae (take n2 B)) (ao T2 (Tn.dist (getD l i mb))) mb)) (Tm (getD (ae (take n2 B)) (ao T2 (Tn.dist (getD l i mb))) mb))),zN (Tm (getD (ae (take n2 B)) (ao T2 (Tn.dist (getD l i mb))) mb)),ak (Tn.dist (getD l i mb)-Sy.least (getD T2 (ao T2 (Tn.dist (getD l i mb))) mb)),zN (Sy.bits (getD T2 (ao T2 (Tn.dist (getD l i mb))) mb))]) 81 true) (Tq (flatMap bh (aY T1 T2 (ae (take n1 A)) (ae (take n2 B)) H5 l (i+1))) 81 true) LI (Hn.next next1 ⟨(i+1),om,⟨⟩⟩ ze [(16,16),((96+sh d),(96+sh d)),((256+sh d),(256+sh d)),((257+sh d),(257+sh d)),((400+sh d),(400+sh d)),((408+sh d),(408+sh d)),((416+sh d),(416+sh d)),((432+sh d),(432+sh d)),((576+sh d),(576+sh d)),((592+sh d),(592+sh d)),((624+sh d),(624+sh d)),((656+sh d),(656+sh d)),((688+sh d),(688+sh d)),((2064+sh d),(2064+sh d))] nv)))))))))))))))))))))))))))))))))))))))))))))))))) (fun p10 p10f=>(.val 12 (zN i) (zN k) F9 (.blk 16 16 (Tq [Tu (840+sh d) (840+sh d) 0 (length (aY T1 T2 (ae (take n1 A)) (ae (take n2 B)) H5 l i)) 2] 78 false) (Tq [Tu (840+sh d) (840+sh d) 0 (length (aY T1 T2 (ae (take n1 A)) (ae (take n2 B)) H5 l k)) 2] 78 false) F9 (.blk (840+sh d) (840+sh d) (Tq (flatMap bh (aY T1 T2 (ae (take n1 A)) (ae (take n2 B)) H5 l i)) 81 true) (Tq (flatMap bh (aY T1 T2 (ae (take n1 A)) (ae (take n2 B)) H5 l k)) 81 true) F9 (Hn.last last1 0 (():Unit) rfl [(16,16),((96+sh d),(96+sh d)),((256+sh d),(256+sh d)),((257+sh d),(257+sh d)),((400+sh d),(400+sh d)),((408+sh d),(408+sh d)),((416+sh d),(416+sh d)),((432+sh d),(432+sh d)),((576+sh d),(576+sh d)),((592+sh d),(592+sh d)),((624+sh d),(624+sh d)),((656+sh d),(656+sh d)),((688+sh d),(688+sh d)),((840+sh d),(840+sh d))] nv)))))))) (fun|⟨i,hi,_⟩=>by cases d<;>kernel_rfl) ⟨(1),om,⟨⟩⟩ [(16,16),((96+sh d),(96+sh d)),((256+sh d),(256+sh d)),((257+sh d),(257+sh d)),((400+sh d),(400+sh d)),((408+sh d),(408+sh d)),((416+sh d),(416+sh d)),((432+sh d),(432+sh d)),((576+sh d),(576+sh d)),((592+sh d),(592+sh d)),((624+sh d),(624+sh d)),((656+sh d),(656+sh d)),((688+sh d),(688+sh d)),((1976+sh d),(1976+sh d))] nv (bY (fun|()=>(.s 19 (.chk (true&&decide (256<(n1:Int))) IG (.s 2 (.chk (Tz 514 (length (flatMap dj (ae (take n1 A))))) AB (.lst (take 2 (drop 512 (flatMap dj (ae (take n1 A))))) ([ak (Ty (getD (ae (take n1 A)) 256 mb)),aQ (Tm (getD (ae (take n1 A)) 256 mb))]) (aB (k:=2) (i:=256) (fun _=>rfl) om om) (.s 18 (.op (↑(Tm (getD (ae (take n1 A)) 256 mb)):Int) q9 (.s 1 (.cl 107 false [] (.fn fK (@bX (Ty (getD (ae (take n1 A)) 256 mb)) (Tm (getD (ae (take n1 A)) 256 mb)) DN (by(exact(oA _).2)))) (.s 16 (.op (↑(Tm (getD (ae (take n1 A)) 256 mb)):Int) q9 (.s 23 (.chk (true&&Tx (length (aY T1 T2 (ae (take n1 A)) (ae (take n2 B)) H5 l k)*2) (length (flatMap bh (aY T1 T2 (ae (take n1 A)) (ae (take n2 B)) H5 l k)))&&true&&true&&true&&true&&Tz ((length (aY T1 T2 (ae (take n1 A)) (ae (take n2 B)) H5 l k)+2)*16) 140737488355328) AC (.s 9 (.out [16,(1200+sh d)] [16,(1200+sh d)] (TF 0 0 0) [Tq [Tu 1 1 0 (length (aY T1 T2 (ae (take n1 A)) (ae (take n2 B)) H5 l k)+2) 2] 78 false,Tq (flatMap bh (aY T1 T2 (ae (take n1 A)) (ae (take n2 B)) H5 l k)++[ak (fL (Ty (getD (ae (take n1 A)) 256 mb)) (Tm (getD (ae (take n1 A)) 256 mb))),zN (Tm (getD (ae (take n1 A)) 256 mb)),uI 0,zI 0]) 81 true] R (ok _ _ wr (by(rw[Tt,cX];rfl))))))))))))))))))))))))))))))))))))))))))))))))))))))))))))))))))) (fun p6 p6f=>(.s 19 (.chk (true&&decide (256<(n1:Int))) IG (.s 2 (.chk (Tz 514 (length (flatMap dj (ae (take n1 A))))) (by(rw[gC];refine Tv ?_;(omega))) (.lst (take 2 (drop 512 (flatMap dj (ae (take n1 A))))) ([ak (Ty (getD (ae (take n1 A)) 256 mb)),aQ (Tm (getD (ae (take n1 A)) 256 mb))]) (aB (k:=2) (i:=256) (fun _=>rfl) om om) (.s 18 (.op (↑(Tm (getD (ae (take n1 A)) 256 mb)):Int) (by(have y3:=oA 256;omega)) (.s 1 (.cl 107 false [] (.fn fK (@bX (Ty (getD (ae (take n1 A)) 256 mb)) (Tm (getD (ae (take n1 A)) 256 mb)) DN (by(exact(oA _).2)))) (.s 16 (.op (↑(Tm (getD (ae (take n1 A)) 256 mb)):Int) (by(have y3:=oA 256;omega)) (.s 23 (.chk (true&&Tx (length H5*2) (length (flatMap bh H5))&&true&&true&&true&&true&&Tz ((length H5+2)*16) 140737488355328) AC (.s 9 (.out [16,(1120+sh d)] [16,(1120+sh d)] (TF 0 0 0) [Tq [Tu 1 1 0 (length H5+2) 2] 78 false,Tq (flatMap bh H5++[ak (fL (Ty (getD (ae (take n1 A)) 256 mb)) (Tm (getD (ae (take n1 A)) 256 mb))),zN (Tm (getD (ae (take n1 A)) 256 mb)),uI 0,zI 0]) 81 true] R (ok _ _ wr (by(rw[show k=0 from by omega,jy,Tt,cX];rfl))))))))))))))))))))) .nil))))))))))))))))))))))))))))))))))))))))))))))))))))))))))))))))))))))))))))))))))))))))):Hn Try.prog)) (fun t h=>SpecH.run T_ok ai Try.func29 rfl rfl rfl ⟨rfl,iT (fun _=>rfl) _,trivial⟩ rfl 1000 64 (fun R ok=>.s 43 (t true 1 H H3 H4 H5 hH hH3 hH4 hH5 R ok)) h) (fun t h=>SpecH.run T_ok ai Try.func29 rfl rfl rfl ⟨rfl,iT (fun _=>rfl) _,trivial⟩ rfl 1000 64 (fun R ok=>.s 42 (t false 0 H' H3' H4' H5' hH' hH3' hH4' hH5' R ok)) h) kr kr
theorem LJ (l:List Tn)(k:Nat)(hk:k=l.length)(hk2:k≤65535)(hl:∀i,ef (l.getD i mb))(T1 T2:List Sy)(hT1:T1=au)(hT2:T2=aA)(hl1:T1.length=29)(hl2:T2.length=30)(hz1:bW T1)(hz2:bW T2)(W1 W2:List Nat)(A B:List UInt8)(n1 n2:Nat)(R0:List Rn)(W3:List Nat)(C O:List UInt8)(n3:Nat)(D:DyV T1 T2 l k W1 W2 A B n1 n2 R0 W3 C O n3)(L F:List UInt8)(hL:L=bz)(hF:F=cU)(H H3 H4 H5:List Nm)(hH:H=jW 1 2)(hH3:H3=H++[⟨n1-257,5⟩,⟨n2-1,5⟩,⟨n3-4,4⟩])(hH4:gi H3 jD (O.take n3) n3=H4)(hH5:gi H4 (lJ (ae C)) R0 R0.length=H5)(a:Nat)(ha:a≤7)(raw:List UInt8)(r:Nat)(hr:r=raw.length)(hr2:r≤65535):S0 29 [nD a,dG 2,.sl false r 1 (raw.map dB),.sl false k 3 (l.flatMap bm),.v (.bool true)] [] (.ptr 0 0 0) [⟨[.ref 1 1 0 ((aY T1 T2 (ae (A.take n1)) (ae (B.take n2)) H5 l k)++fW (ae (A.take n1)) 256 0 0).length 2], 78,false⟩,⟨((aY T1 T2 (ae (A.take n1)) (ae (B.take n2)) H5 l k)++fW (ae (A.take n1)) 256 0 0).flatMap bh, 81,true⟩]:=(Ga l k hk hk2 hl T1 T2 hT1 hT2 hl1 hl2 hz1 hz2 W1 W2 A B n1 n2 R0 W3 C O n3 D L F hL hF a ha raw r hr hr2 H H3 H4 H5 hH hH3 hH4 hH5 _ _ _ _ rfl rfl rfl rfl).1
theorem LK (l:List Tn)(k:Nat)(hk:k=l.length)(hk2:k≤65535)(hl:∀i,ef (l.getD i mb))(T1 T2:List Sy)(hT1:T1=au)(hT2:T2=aA)(hl1:T1.length=29)(hl2:T2.length=30)(hz1:bW T1)(hz2:bW T2)(W1 W2:List Nat)(A B:List UInt8)(n1 n2:Nat)(R0:List Rn)(W3:List Nat)(C O:List UInt8)(n3:Nat)(D:DyV T1 T2 l k W1 W2 A B n1 n2 R0 W3 C O n3)(L F:List UInt8)(hL:L=bz)(hF:F=cU)(H H3 H4 H5:List Nm)(hH:H=jW 0 2)(hH3:H3=H++[⟨n1-257,5⟩,⟨n2-1,5⟩,⟨n3-4,4⟩])(hH4:gi H3 jD (O.take n3) n3=H4)(hH5:gi H4 (lJ (ae C)) R0 R0.length=H5)(a:Nat)(ha:a≤7)(raw:List UInt8)(r:Nat)(hr:r=raw.length)(hr2:r≤65535):S0 29 [nD a,dG 2,.sl false r 1 (raw.map dB),.sl false k 3 (l.flatMap bm),.v (.bool false)] [] (.ptr 0 0 0) [⟨[.ref 1 1 0 ((aY T1 T2 (ae (A.take n1)) (ae (B.take n2)) H5 l k)++fW (ae (A.take n1)) 256 0 0).length 2], 78,false⟩,⟨((aY T1 T2 (ae (A.take n1)) (ae (B.take n2)) H5 l k)++fW (ae (A.take n1)) 256 0 0).flatMap bh, 81,true⟩]:=(Ga l k hk hk2 hl T1 T2 hT1 hT2 hl1 hl2 hz1 hz2 W1 W2 A B n1 n2 R0 W3 C O n3 D L F hL hF a ha raw r hr hr2 _ _ _ _ rfl rfl rfl rfl H H3 H4 H5 hH hH3 hH4 hH5).2
end Vp
end Go.Proofs.Ytefjnofhgkjpmaa
namespace Go.Proofs.Ytefjnofhgkjpmaa
open Go.RowKit Go.Bw Go.Vx
namespace Vp
theorem P6 {p:Prop}(h:p:=by rw[nw];decide+kernel):p:=h
def Qz (e:Nat)(l:List Tn):List Nm:=lk l (aY au aA (ae bz) (ae cU) (jW e 1) l l.length++fW (ae bz) 256 0 0)
theorem i8 (e:Nat)(l:List Tn):Qz e l=aY au aA (ae bz) (ae cU) (jW e 1) l l.length++fW (ae bz) 256 0 0:=aw _ _
def dc (l:List Tn):List UInt8:=lk l (vn (b5 (bx 286 (dH au l l.length++[256])) 15) 257)
def eV (l:List Tn):List UInt8:=lk l (vn (b5 (bx 30 (fX aA l l.length)) 15) 1)
def lV (l:List Tn):List Rn:=lk l (yk (dc l++eV l))
def iW (l:List Tn):List UInt8:=lk l (b5 (bx 19 ((lV l).map Rn.s)) 7)
def mM (l:List Tn):List UInt8:=lk l (vn (kL (iW l) 19) 4)
def tG (e:Nat)(l:List Tn):List Nm:=lk l (gi (gi (jW e 2++[⟨(dc l).length-257,5⟩,⟨(eV l).length-1,5⟩,⟨(mM l).length-4,4⟩]) jD (mM l) (mM l).length) (lJ (ae (iW l))) (lV l) (lV l).length)
def QA (e:Nat)(l:List Tn):List Nm:=lk l (aY au aA (ae (dc l)) (ae (eV l)) (tG e l) l l.length++fW (ae (dc l)) 256 0 0)
theorem ra (l:List Tn):dc l=vn (b5 (bx 286 (dH au l l.length++[256])) 15) 257:=aw _ _
theorem rc (l:List Tn):eV l=vn (b5 (bx 30 (fX aA l l.length)) 15) 1:=aw _ _
theorem AE (l:List Tn):lV l=yk (dc l++eV l):=aw _ _
theorem AF (l:List Tn):iW l=b5 (bx 19 ((lV l).map Rn.s)) 7:=aw _ _
theorem n0 (l:List Tn):mM l=vn (kL (iW l) 19) 4:=aw _ _
theorem rf (e:Nat)(l:List Tn):tG e l=gi (gi (jW e 2++[⟨(dc l).length-257,5⟩,⟨(eV l).length-1,5⟩,⟨(mM l).length-4,4⟩]) jD (mM l) (mM l).length) (lJ (ae (iW l))) (lV l) (lV l).length:=aw _ _
theorem i9 (e:Nat)(l:List Tn):QA e l=aY au aA (ae (dc l)) (ae (eV l)) (tG e l) l l.length++fW (ae (dc l)) 256 0 0:=aw _ _
theorem ii (l:List UInt8)(m:Nat):vn l m=l.take (jx l m):=mF l m
theorem vG (l:List Tn):DyV au aA l l.length (bx 286 (dH au l l.length++[256])) (bx 30 (fX aA l l.length)) (b5 (bx 286 (dH au l l.length++[256])) 15) (b5 (bx 30 (fX aA l l.length)) 15) (jx (b5 (bx 286 (dH au l l.length++[256])) 15) 257) (jx (b5 (bx 30 (fX aA l l.length)) 15) 1) (lV l) (bx 19 ((lV l).map Rn.s)) (iW l) (kL (iW l) 19) (jx (kL (iW l) 19) 4):=
 ⟨rfl,rfl,⟨rfl⟩,⟨rfl⟩,⟨rfl⟩,⟨rfl⟩,⟨by rw[AE,ra,rc,ii,ii]⟩,rfl,⟨(AF l).symm⟩,rfl,⟨rfl⟩⟩
def kI (a kd:Nat)(raw:List UInt8)(l:List Tn)(e:Nat):List Nm:=lk [()] (if kd=0 then nL e a raw else if kd=1 then Qz e l else QA e l)
theorem ko (a kd:Nat)(raw:List UInt8)(l:List Tn)(e:Nat):kI a kd raw l e=if kd=0 then nL e a raw else if kd=1 then Qz e l else QA e l:=aw _ _
theorem cr:aC bz 15=0:=by decide+kernel
theorem ez:aC cU 15=0:=by decide+kernel
def tH (X:List Nm):Prop:=∀x∈X,x.v<2^x.n∧x.n≤32
theorem gu {X Y:List Nm}(h1:tH X)(h2:tH Y):tH (X++Y):=fun x hx=>(List.mem_append.1 hx).elim (h1 x) (h2 x)
theorem vH {α:Type}{g:α→List Nm}:∀{l:List α},(∀x∈l,tH (g x))→tH (l.flatMap g):=fun{l} h x hx=>by
 obtain⟨y,hy,hx⟩:=List.mem_flatMap.1 hx;exact h y hy x hx
theorem cJ {x:Nm}{X:List Nm}(h:x.v<2^x.n∧x.n≤32)(h2:tH X):tH (x::X):=fun y hy=>(List.mem_cons.1 hy).elim (fun e=>by rw[e];exact h) (h2 y)
theorem kP:tH []:=fun x hx=>absurd hx Wv
theorem IH {X:List Nm}(h:tH X)(i:Nat):(X.getD i mb).v<2^(X.getD i mb).n∧(X.getD i mb).n≤32:=by
 rw[To]
 cases hq:X[i]? with
 |none=>exact⟨by decide,TC rfl⟩
 |some x=>exact h x (UB hq)
theorem lW {C:List (Nat×Nat)}(hC:pc C)(s:Nat){n x:Nat}(hx:x<2^n)(hn:n≤32):tH (fW C s n x):=
 cJ ⟨wI _ _,T6 (hC s).1 (by decide)⟩ (cJ ⟨hx,hn⟩ kP)
theorem AG {e k:Nat}(he:e≤1)(hk:k≤3):tH (jW e k):=cJ ⟨show e<2^1 by omega,TC rfl⟩ (cJ ⟨show k<2^2 by omega,TC rfl⟩ kP)
theorem II {T:List Sy}(h:T.all (fun y=>decide (y.many≤2^y.bits))=true)(i:Nat):i<T.length→(T.getD i mb).many≤2^(T.getD i mb).bits:=fun hi=>by
 rw[To,Ts hi]
 exact of_decide_eq_true (List.all_eq_true.1 h _ (Uo hi))
theorem tI {T:List Sy}(h:T.all (fun y=>decide (y.many≤2^y.bits))=true){n:Nat}(hi:ao T n<T.length):n-(T.getD (ao T n) mb).least<2^(T.getD (ao T n) mb).bits:=by
 have q:=Cm (T:=T) (n:=n) T.length 0 (by rw[←kA];omega)
 rw[←kA]at q
 have p:=II h _ hi
 omega
theorem lX:au.all (fun y=>decide (y.many≤2^y.bits))=true:=by decide+kernel
theorem n5:aA.all (fun y=>decide (y.many≤2^y.bits))=true:=by decide+kernel
theorem IJ {A B:List (Nat×Nat)}(hA:pc A)(hB:pc B){t:Tn}(h:ef t):tH (my au aA A B t):=by
 unfold my
 split
 ·exact lW hA _ (by decide) (by decide)
 ·next h0=>
  have te:=bK rfl rfl h h0
  have s1:=cb (ao au t.long)
  have s2:=cv (ao aA t.dist)
  exact gu (lW hA _ (tI lX te.1) (by omega)) (lW hB _ (tI n5 te.2) (by omega))
theorem w5 {A B:List (Nat×Nat)}(hA:pc A)(hB:pc B){H:List Nm}(hH:tH H){l:List Tn}(hl:∀t∈l,ef t):tH (aY au aA A B H l l.length):=by
 rw[iN]
 exact gu hH (vH fun t ht=>IJ hA hB (hl t (U1 ht)))
theorem w6 {l:List Tn}(hl:∀i,ef (l.getD i mb)):∀t∈l,ef t:=fun t ht=>by
 obtain⟨i,hi⟩:=Ux ht
 have:=hl i
 rwa [To,hi]at this
theorem rg (a:Nat):hU a≤7:=by rw[nK];omega
theorem AH {e a:Nat}{raw:List UInt8}(he:e≤1)(hr:raw.length≤65535):tH (nL e a raw):=by
 unfold nL;rw[iM]
 have:=rg a
 refine gu (cJ ⟨show e<2^1 by omega,TC rfl⟩ (cJ ⟨by decide,TC rfl⟩ (cJ ⟨UY _,by show hU a≤32;omega⟩ (cJ ⟨show raw.length<2^16 by omega,TC rfl⟩ (cJ ⟨show 65535-raw.length<2^16 by omega,TC rfl⟩ kP))))) fun x hx=>?_
 obtain⟨y,hy,rfl⟩:=List.mem_map.1 hx
 exact⟨y.toNat_lt,TC rfl⟩
structure DyG (l:List Tn):Prop where
 f:DyF (bx 286 (dH au l l.length++[256])) (bx 30 (fX aA l l.length)) (b5 (bx 286 (dH au l l.length++[256])) 15) (b5 (bx 30 (fX aA l l.length)) 15) (jx (b5 (bx 286 (dH au l l.length++[256])) 15) 257) (jx (b5 (bx 30 (fX aA l l.length)) 15) 1) (lV l) (bx 19 ((lV l).map Rn.s)) (iW l) (kL (iW l) 19) (jx (kL (iW l) 19) 4)
 lL:(dc l).length=jx (b5 (bx 286 (dH au l l.length++[256])) 15) 257
 lB:(eV l).length=jx (b5 (bx 30 (fX aA l l.length)) 15) 1
 lO:(mM l).length=jx (kL (iW l) 19) 4
 cL:aC (dc l) 15=0
 cB:aC (eV l) 15=0
 oL:pc (ae (dc l))
 oB:pc (ae (eV l))
theorem Ak (l:List Tn)(hk:l.length≤65535):DyG l:=by
 have F:=(vG l).f rfl hk
 have eL:dc l=(b5 (bx 286 (dH au l l.length++[256])) 15).take (jx (b5 (bx 286 (dH au l l.length++[256])) 15) 257):=by rw[ra,ii]
 have eB:eV l=(b5 (bx 30 (fX aA l l.length)) 15).take (jx (b5 (bx 30 (fX aA l l.length)) 15) 1):=by rw[rc,ii]
 have eO:mM l=(kL (iW l) 19).take (jx (kL (iW l) 19) 4):=by rw[n0,ii]
 exact⟨F,by rw[eL];exact F.lA2,by rw[eB];exact F.lB2,by rw[eO];exact F.lO2,by rw[eL];exact F.cA,by rw[eB];exact F.cB,by rw[eL];exact F.oA,by rw[eB];exact F.oB⟩
theorem ny {e:Nat}{l:List Tn}(he:e≤1)(hk:l.length≤65535):tH (tG e l):=by
 have G:=Ak l hk
 have F:=G.f
 rw[rf,kH,kH]
 have k1:=F.k1
 have k2:=F.k2
 have k3:=F.k3
 refine gu (gu (gu (AG he (by decide)) (cJ ⟨show(dc l).length-257<2^5 by rw[G.lL];omega,TC rfl⟩ (cJ ⟨show(eV l).length-1<2^5 by rw[G.lB];omega,TC rfl⟩ (cJ ⟨show(mM l).length-4<2^4 by rw[G.lO];omega,TC rfl⟩ kP)))) (vH fun x hx=>cJ ⟨?_,TC rfl⟩ kP)) (vH fun r hr=>?_)
 ·obtain⟨i,hi⟩:=Ux (U1 hx)
  have q:=F.bO i
  have e1:(kL (iW l) 19).getD i mb=x:=by
   rw[n0,ii]at hi
   have hi2:=(Un▸hi:(if i<_ then(kL (iW l) 19)[i]? else none)=some x)
   split at hi2
   ·rw[To,hi2];rfl
   ·cases hi2
  rw[e1]at q
  show x.toNat<2^3
  omega
 ·obtain⟨i,hi⟩:=Ux (U1 hr)
  have q:=F.oR i
  have e1:(lV l).getD i mb=r:=by rw[To,hi];rfl
  rw[e1]at q
  exact lW F.oC _ q.2 (T6 (di _).2 (by decide))
theorem IK {a kd:Nat}{raw:List UInt8}{l:List Tn}{e:Nat}(he:e≤1)(hr:raw.length≤65535)(hk:l.length≤65535)(hl:∀i,ef (l.getD i mb)):tH (kI a kd raw l e):=by
 rw[ko]
 split
 ·exact AH he hr
 ·split
  ·rw[i8]
   exact gu (w5 (dW cr) (dW ez) (AG he (by decide)) (w6 hl)) (lW (dW cr) _ (by decide) (by decide))
  ·have G:=Ak l hk
   rw[i9]
   exact gu (w5 G.oL G.oB (ny he hk) (w6 hl)) (lW G.oL _ (by decide) (by decide))
theorem rh {e:Nat}{l:List Tn}(hk:l.length≤65535):(tG e l).length≤1000:=by
 have G:=Ak l hk
 have F:=G.f
 rw[rf,lI (c:=2) (fun _=>rfl) _ (TD _),lI (c:=1) (fun _=>rfl) _ (TD _),Tt]
 have:=F.lR
 have:=F.k3
 have:=G.lO
 show 2+3+_+_≤_
 omega
theorem DR {a kd:Nat}{raw:List UInt8}{l:List Tn}{e:Nat}(hr:raw.length≤65535)(hk:l.length≤65535):(kI a kd raw l e).length≤1000000:=by
 rw[ko]
 split
 ·unfold nL;rw[lu (TD _)];omega
 ·split
  ·rw[i8,Tt]
   have:=cw (T1:=au) (T2:=aA) (A:=ae bz) (B:=ae cU) (H:=jW e 1) (l:=l) l.length (TD _)
   have e2:(jW e 1).length=2:=rfl
   have e3:(fW (ae bz) 256 0 0).length=2:=rfl
   omega
  ·rw[i9,Tt]
   have:=cw (T1:=au) (T2:=aA) (A:=ae (dc l)) (B:=ae (eV l)) (H:=tG e l) (l:=l) l.length (TD _)
   have e2:=rh (e:=e) hk
   have e3:(fW (ae (dc l)) 256 0 0).length=2:=rfl
   omega
theorem QB (a kd:Nat)(ha:a≤7)(hkd:kd≤2)(raw:List UInt8)(hr2:raw.length≤65535)(l:List Tn)(hk2:l.length≤65535)(hl:∀i,ef (l.getD i mb))(last:Bool):S0 29 [nD a,dG kd,.sl false raw.length 1 (raw.map dB),.sl false l.length 3 (l.flatMap bm),bD last] [] (.ptr 0 0 0) [⟨[.ref 1 1 0 (kI a kd raw l (if last then 1 else 0)).length 2], 78,false⟩,⟨(kI a kd raw l (if last then 1 else 0)).flatMap bh, 81,true⟩]:=by
 rw[ko]
 by_cases h0:kd=0
 ·subst h0
  rw[if_pos rfl]
  have e5:(nL (if last then 1 else 0) a raw).length=5+raw.length:=by unfold nL;exact lu (TD _)
  rw[e5]
  cases last
  ·exact O0 l.length (l.flatMap bm) (cP l) a ha raw _ rfl hr2 _ _ rfl rfl
  ·exact OZ l.length (l.flatMap bm) (cP l) a ha raw _ rfl hr2 _ _ rfl rfl
 ·rw[if_neg h0]
  by_cases h1:kd=1
  ·subst h1
   rw[if_pos rfl,i8]
   have q1:=dW cr
   have q2:=dW ez
   cases last
   ·exact O9 l _ rfl hk2 hl _ _ rfl rfl (by decide) (by decide) cb cv _ _ rfl rfl (by decide+kernel) (by decide+kernel) cr ez P6 P6 q1 q2 _ rfl rfl a ha raw _ rfl hr2
   ·exact O8 l _ rfl hk2 hl _ _ rfl rfl (by decide) (by decide) cb cv _ _ rfl rfl (by decide+kernel) (by decide+kernel) cr ez P6 P6 q1 q2 _ rfl rfl a ha raw _ rfl hr2
  ·have h2:kd=2:=by omega
   subst h2
   rw[if_neg h1,i9]
   have G:=Ak l hk2
   have e1:tG (if last then 1 else 0) l=gi (gi (jW (if last then 1 else 0) 2++[⟨jx (b5 (bx 286 (dH au l l.length++[256])) 15) 257-257,5⟩,⟨jx (b5 (bx 30 (fX aA l l.length)) 15) 1-1,5⟩,⟨jx (kL (iW l) 19) 4-4,4⟩]) jD ((kL (iW l) 19).take (jx (kL (iW l) 19) 4)) (jx (kL (iW l) 19) 4)) (lJ (ae (iW l))) (lV l) (lV l).length:=by
    rw[rf,G.lL,G.lB,G.lO,n0,ii]
   have eL:dc l=(b5 (bx 286 (dH au l l.length++[256])) 15).take (jx (b5 (bx 286 (dH au l l.length++[256])) 15) 257):=by rw[ra,ii]
   have eB:eV l=(b5 (bx 30 (fX aA l l.length)) 15).take (jx (b5 (bx 30 (fX aA l l.length)) 15) 1):=by rw[rc,ii]
   rw[eL,eB]
   cases last
   ·exact LK l _ rfl hk2 hl _ _ rfl rfl (by decide) (by decide) cb cv _ _ _ _ _ _ _ _ _ _ _ (vG l) _ _ rfl rfl _ _ _ _ rfl rfl rfl e1.symm a ha raw _ rfl hr2
   ·exact LJ l _ rfl hk2 hl _ _ rfl rfl (by decide) (by decide) cb cv _ _ _ _ _ _ _ _ _ _ _ (vG l) _ _ rfl rfl _ _ _ _ rfl rfl rfl e1.symm a ha raw _ rfl hr2
end Vp
end Go.Proofs.Ytefjnofhgkjpmaa
namespace Go.Proofs.Ytefjnofhgkjpmaa
open Go.RowKit Go.Bw Go.Vx
namespace Vp
def bt (b:List UInt8)(p:Nat):Bool:=(b.getD (p/8) mb).toNat.testBit (p%8)
theorem w7 (b:List UInt8)(p:Nat):mi b p=(bt b p).toNat:=by
 unfold mi bt
 rw[V7]
 have:=Xk ((b.getD (p/8) mb).toNat/2^(p%8)) (show 0<2 by decide)
 by_cases h:(b.getD (p/8) mb).toNat/2^(p%8)%2=1
 ·rw[h];rfl
 ·rw[show(b.getD (p/8) mb).toNat/2^(p%8)%2=0 from by omega];rfl
def Sb (b:List UInt8):Nat→List Bool→Prop
 |_,[]=>True
 |p,x::X=>bt b p=x∧Sb b (p+1) X
structure St (b:List UInt8)(p:Nat)(X:List Bool):Prop where
 n:p+X.length≤8*b.length
 s:Sb b p X
theorem Sb.app {b:List UInt8}:∀{p:Nat} {X Y:List Bool},Sb b p (X++Y)→Sb b p X∧Sb b (p+X.length) Y
 |_,[],_,h=>⟨trivial,h⟩
 |p,x::X,Y,h=>by
  obtain⟨h1,h2⟩:=h
  obtain⟨h3,h4⟩:=Sb.app h2
  refine⟨⟨h1,h3⟩,?_⟩
  rw[T3,show p+(X.length+1)=p+1+X.length from by omega];exact h4
theorem Sb.at {b:List UInt8}:∀{p:Nat} {X:List Bool} {i:Nat},Sb b p X→i<X.length→bt b (p+i)=X.getD i false
 |_,[],_,_,h=>absurd h (UR _)
 |p,x::X,0,h,_=>h.1
 |p,x::X,i+1,h,hi=>by
  have:=Sb.at (i:=i) h.2 (by simpa using hi)
  rw[show p+(i+1)=p+1+i from by omega,this];rfl
theorem Sb.of {b:List UInt8}:∀{p:Nat} {X:List Bool},(∀i,i<X.length→bt b (p+i)=X.getD i false)→Sb b p X
 |_,[],_=>trivial
 |p,x::X,h=>⟨h 0 (Nat.zero_lt_succ _),Sb.of fun i hi=>by
   have:=h (i+1) (by rw[T3];omega)
   rw[show p+1+i=p+(i+1)from by omega,this];rfl⟩
theorem St.app {b:List UInt8}{p:Nat}{X Y:List Bool}(h:St b p (X++Y)):St b p X∧St b (p+X.length) Y:=by
 have h1:=h.n
 rw[Tt]at h1
 exact⟨⟨by omega,h.s.app.1⟩,⟨by omega,h.s.app.2⟩⟩
theorem tJ:∀(X:List Bool) (i:Nat),(cT X).testBit i=X.getD i false
 |[],i=>by rw[cT,Nat.zero_testBit];rfl
 |x::X,0=>by
  rw[cT,Yw]
  cases x
  ·simp
  ·simp
 |x::X,i+1=>by
  have hx:=Wh x
  rw[cT,Yx,show(x.toNat+2*cT X)/2=cT X from by omega,tJ X i];rfl
theorem LL (l:List Bool)(more:List UInt8):St (pk l++more) 0 l:=by
 refine⟨by rw[Tt,aG];omega,Sb.of fun i hi=>?_⟩
 rw[T0]
 unfold bt
 have h1:(pk l++more).getD (i/8) mb=z0 l (i/8):=by
  rw[To,TQ (by rw[aG];omega),kB (by omega)];rfl
 have h2:=wG l (i/8)
 rw[h1]
 unfold z0
 rw[U6,UZ (show cT ((l.drop (8*(i/8))).take 8)<2^8 from h2),tJ,To,To,Un,if_pos (by omega),UM,show 8*(i/8)+i%8=i from by omega]
section
variable {b:List UInt8} {p:Nat}
theorem w8 {v:Nat}:∀{n:Nat},Sb b p (nb v n)→fR b p n=v%2^n
 |0,_=>by rw[fR,Xd,YK]
 |n+1,h=>by
  rw[sn]at h
  obtain⟨h1,h2⟩:=h.app
  rw[bb]at h2
  have h3:mi b (p+n)=v/2^n%2:=by
   rw[w7,h2.1,V7]
   have:=Xk (v/2^n) (show 0<2 by decide)
   by_cases q:v/2^n%2=1
   ·rw[q];rfl
   ·rw[show v/2^n%2=0 from by omega];rfl
  rw[fR,w8 h1,h3,Us,Nat.mod_mul]
theorem LM {v n:Nat}(hv:v<2^n)(h:St b p (nb v n)):gA b p n=v∧kJ b p n=0:=by
 have h1:=h.n
 rw[bb]at h1
 exact⟨by rw[yc (by omega),w8 h.s,UZ hv],Cc (by omega)⟩
theorem Gb (l:List UInt8)(n:Nat):∀k,2^k*iZ l n≤iZ l (n+k)
 |0=>by rw[Xd,XR];exact TD _
 |k+1=>by
  have:=Gb l n k
  rw[Us,Ve _ 2,UU,←UF,iZ]
  omega
theorem IL (l:List UInt8)(n k:Nat)(hk:0<k):2^k*(iZ l n+aa l n)≤iZ l (n+k):=by
 obtain⟨j,rfl⟩:∃j,k=j+1:=⟨k-1,by omega⟩
 have:=Gb l (n+1) j
 rw[iZ]at this
 rw[show n+(j+1)=n+1+j from by omega,Us,UU]
 exact this
theorem LN {l:List UInt8}{s L:Nat}(ho:dh l 15=false)(hs:s<l.length)(hL:(l.getD s mb).toNat=L)(h0:0<L)(hc:kC l s<2^L)(h:St b p (nb (fL (kC l s) L) L)):ee b l p=(s,p+L,0):=by
 have hL15:L≤15:=hL▸dN ho hs
 have hca:=yu hL (by omega) hL15
 have hn:=h.n
 rw[bb]at hn
 have hbit:∀k,k<L→gA b (p+k) 1=kC l s/2^(L-1-k)%2:=fun k hk=>by
  have e:=h.s.at (i:=k) (by rw[bb];exact hk)
  rw[HL,To,List.getElem?_reverse (by rw[bb];exact hk),bb,o5,TN,UO (by omega)]at e
  rw[yc (by omega),fR,fR,T0,Xd,XR,VD,w7,e]
  show(YL (kC l s) (L-1-k)).toNat=_
  rw[V7]
  have:=Xk (kC l s/2^(L-1-k)) (show 0<2 by decide)
  by_cases q:kC l s/2^(L-1-k)%2=1
  ·rw[q];rfl
  ·rw[show kC l s/2^(L-1-k)%2=0 from by omega];rfl
 have key:∀k,k≤L→∃d,KI b l k d (p+k)=ee b l p∧kC l s/2^(L-k)=iZ l k+d:=by
  intro k
  induction k with
  |zero=>intro _;exact⟨0,OC b l p,by rw[WK,WQ hc];rfl⟩
  |succ k ih=>
   intro hk
   obtain⟨d,h1,h2⟩:=ih (by omega)
   have h3:=IL l k (L-k) (by omega)
   rw[show k+(L-k)=L from by omega]at h3
   have h4:iZ l k+aa l k≤kC l s/2^(L-k):=by
    rw[Nat.le_div_iff_mul_le (UY _),Ve];omega
   have hm:(aI l k).length+aa l k≠(ab l).length:=(wM ho (by omega)).2 ⟨s,hs,by omega⟩
   obtain⟨_,h5⟩:=OD (n:=k) (by omega) (by omega) h1 hm (Cc (by omega))
   refine⟨_,h5,?_⟩
   have h6:=RC (b:=b) (c:=p+k) h2 (by omega)
   rw[←h6,hbit k (by omega)]
   have h7:kC l s/2^(L-k)=kC l s/2^(L-1-k)/2:=by
    rw[show L-k=L-1-k+1 from by omega,Us,XB]
   rw[h7,show L-(k+1)=L-1-k from by omega]
   omega
 obtain⟨d,h1,h2⟩:=key L (TD _)
 rw[UJ,Xd,YI]at h2
 exact RB hL15 h2 h1 hs hL h0 rfl
end
def bs (X:List Nm):List Bool:=X.flatMap fun x=>nb x.v x.n
theorem b6 (X Y:List Nm):bs (X++Y)=bs X++bs Y:=UV
theorem bw (x:Nm)(X:List Nm):bs (x::X)=nb x.v x.n++bs X:=UC
theorem gE:bs []=[]:=rfl
end Vp
end Go.Proofs.Ytefjnofhgkjpmaa
namespace Go.Proofs.Ytefjnofhgkjpmaa
open Go.RowKit Go.Bw Go.Vx
namespace Vp
theorem w9 {l:List UInt8}{a:Nat}:∀(f n:Nat),(∀i,i<n→l.getD (a+i) mb=l.getD a mb)→∀i,i<uN l a f n→l.getD (a+i) mb=l.getD a mb
 |0,_,h=>h
 |f+1,n,h=>by
  rw[uN]
  split
  ·next q=>
   refine w9 f (n+1) fun i hi=>?_
   rcases T5 i n with z|z
   ·exact h i z
   ·rw[show i=n from by omega];exact q.2
  ·exact h
theorem DS {l:List UInt8}{a i:Nat}(h:i<cE l a):l.getD (a+i) mb=l.getD a mb:=by
 rw[wD]at h
 exact w9 _ 0 (fun i hi=>absurd hi (UR _)) i h
theorem tK {l:List UInt8}{a:Nat}{v:UInt8}:∀{k:Nat},a+k≤l.length→(∀i,i<k→l.getD (a+i) mb=v)→l.take (a+k)=l.take a++TK k v
 |0,_,_=>by rw[VD,List.replicate_zero,Ue]
 |k+1,h,h2=>by
  have e:=h2 k (by omega)
  rw[To,Ts (by omega)]at e
  have e:l[a+k]=v:=e
  rw[←UF,T8 (by omega),tK (k:=k) (by omega) (fun i hi=>h2 i (by omega)),XS,e,TG]
theorem IM {N:Nat}{r:Rn}{q:List Rn}{o:List UInt8}(h1:r.s≤18)(h2:r.x<p2 r.s)(h3:r.s=16→0<o.length)(h4:o.length+bf r≤N):ck N (r::q) o=ck N q (o++TK (bf r) (aO r o)):=by
 rw[ck,if_neg (by omega),if_neg (fun z=>by have:=h3 z.1;omega),if_neg (by omega)]
theorem zg {l:List UInt8}{a i:Nat}(h:i<a):(l.take a).getD i mb=l.getD i mb:=by
 rw[To,To,Un,if_pos h]
theorem tL (x:UInt8):Um x.toNat=x:=UInt8.ofNat_toNat
def AI (r:Rn):Prop:=r.s≤18∧r.x<p2 r.s
theorem AJ {l:List UInt8}{N:Nat}(hN:N=l.length)(hl:∀i,i<N→(l.getD i mb).toNat≤15):∀(f a:Nat),N≤a+f→a≤N→ck N (j6 l f a) (l.take a)=(l,0)∧∀r∈j6 l f a,AI r
 |0,a,h1,h2=>by
  refine⟨?_,fun r h=>by cases h⟩
  rw[j6,ck,TR,if_pos (by omega),T9 (by omega)]
 |f+1,a,h1,h2=>by
  have tl:(l.take a).length=a:=by rw[TR];omega
  rw[j6]
  by_cases c0:l.length≤a
  ·rw[if_pos c0]
   refine⟨?_,fun r h=>by cases h⟩
   rw[ck,tl,if_pos (by omega),T9 (by omega)]
  rw[if_neg c0]
  have hb:=mY (l:=l) (a:=a) (by omega)
  have e18:p2 18=128:=rfl
  have e17:p2 17=8:=rfl
  have e16:p2 16=4:=rfl
  have hall:=fun i (h:i<cE l a)=>DS h
  have step:∀(r:Rn) (k:Nat),bf r=k→k≤cE l a→1≤k→r.s≤18→r.x<p2 r.s→(r.s=16→0<a)→aO r (l.take a)=l.getD a mb→ck N (r::j6 l f (a+k)) (l.take a)=(l,0)∧∀x∈r::j6 l f (a+k),AI x:=fun r k e1 e2 e3 e4 e5 e6 e7=>by
   have ih:=AJ hN hl f (a+k) (by omega) (by omega)
   refine⟨?_,fun x hx=>?_⟩
   ·rw[IM e4 e5 (by rw[tl];exact e6) (by rw[tl];omega),e1,e7,←tK (by omega) (fun i hi=>hall i (by omega))]
    exact ih.1
   ·rcases List.mem_cons.1 hx with rfl|q
    ·exact⟨e4,e5⟩
    ·exact ih.2 x q
  by_cases c1:(l.getD a mb).toNat=0∧11≤cE l a
  ·rw[if_pos c1]
   have e0:l.getD a mb=0:=UInt8.toNat_inj.1 (c1.1.trans rfl)
   exact step _ _ (by show min (cE l a) 138-11+11=_;omega) (by omega) (by omega) (by show 18≤18;omega) (by show min (cE l a) 138-11<p2 18;omega) (fun q=>by cases q) (by rw[e0];rfl)
  rw[if_neg c1]
  by_cases c2:(l.getD a mb).toNat=0∧3≤cE l a
  ·rw[if_pos c2]
   have e0:l.getD a mb=0:=UInt8.toNat_inj.1 (c2.1.trans rfl)
   exact step _ _ (by show cE l a-3+3=_;omega) (by omega) (by omega) (by show 17≤18;omega) (by show cE l a-3<p2 17;omega) (fun q=>by cases q) (by rw[e0];rfl)
  rw[if_neg c2]
  by_cases c3:0<(l.getD a mb).toNat∧0<a∧(l.getD (a-1) mb).toNat=(l.getD a mb).toNat∧3≤cE l a
  ·rw[if_pos c3]
   refine step _ _ (by show min (cE l a) 6-3+3=_;omega) (by omega) (by omega) (by show 16≤18;omega) (by show min (cE l a) 6-3<p2 16;omega) (fun _=>c3.2.1) ?_
   show(l.take a).getD ((l.take a).length-1) mb=_
   rw[tl,zg (by omega)]
   exact UInt8.toNat_inj.1 c3.2.2.1
  rw[if_neg c3]
  have h15:=hl a (by omega)
  have e1:bf ⟨(l.getD a mb).toNat,0⟩=1:=by unfold bf;rw[if_neg (by show¬(l.getD a mb).toNat=16;omega),if_neg (by show¬(l.getD a mb).toNat=17;omega),if_neg (by show¬(l.getD a mb).toNat=18;omega)]
  refine step _ 1 e1 (by omega) (by omega) (by show(l.getD a mb).toNat≤18;omega) (by show 0<2^_;exact UY _) (fun q=>by have q:(l.getD a mb).toNat=16:=q;omega) ?_
  unfold aO
  rw[if_neg (by show¬(l.getD a mb).toNat=16;omega),if_pos (by show(l.getD a mb).toNat<16;omega)]
  exact tL _
theorem IN {l:List UInt8}{N:Nat}(hN:N=l.length)(hl:∀i,i<N→(l.getD i mb).toNat≤15):cq N (yk l)=(l,0)∧∀r∈yk l,AI r:=by
 rw[iJ,sg]
 have h:=AJ hN hl l.length 0 (by omega) (T7 _)
 rwa [XT]at h
end Vp
end Go.Proofs.Ytefjnofhgkjpmaa

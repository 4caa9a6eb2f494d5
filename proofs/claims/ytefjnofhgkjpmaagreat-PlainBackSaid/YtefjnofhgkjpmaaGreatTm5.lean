/- Part 5. -/
import Derived.Test.YtefjnofhgkjpmaaGreatTm4
import Derived.Test.YtefjnofhgkjpmaaGreatTm3
import Derived.Test.YtefjnofhgkjpmaaGreatTm2
set_option linter.unusedVariables false
set_option linter.unusedSimpArgs false
set_option maxRecDepth 100000
set_option maxHeartbeats 4000000
open And renaming intro → VR
open Bool renaming and_eq_true → U9, and_true → VV, true_and → VM
open Classical renaming em → Yb
open Go.Fn renaming func → VU
open Go.IntKind renaming i64 → VN, wrap → Vo
open Go.LoopState renaming busy → X8, done → ZG, ready → WE
open Go.Vx.Blk renaming mk → U1
open Go.Vx.CallOk renaming fn → VC
open Go.Vx.CutS renaming mk → Vn
open Go.Vx.D renaming agg → Wp, fn → WJ, ptr → Vh, ref → U6, sl → Vl, tup → V2
open Inhabited renaming default → mq
open Int renaming eq_ofNat_of_zero_le → V5, toNat → AB, toNat_natCast → Wx
open List renaming append_assoc → Ve, append_nil → VS, drop → VW, drop_zero → Wm, getD → ZI, getD_eq_getElem?_getD → UZ, getElem?_append_left → Vz, getElem?_append_right → Vs, getElem?_eq_getElem → U4, getElem?_eq_none → VF, getElem?_map → Vu, getElem?_of_mem → Wc, getElem?_take → V0, getElem_mem → V3, length_append → U2, length_cons → VE, length_map → Vj, length_nil → WZ, length_replicate → VJ, length_singleton → VP, length_take → Vg, map → WY, map_append → V4, map_replicate → W7, mem_append_left → WG, mem_of_getElem? → We, mem_of_mem_take → Ww, replicate → Vk, take → VX, take_of_length_le → VB, take_succ_eq_append_getElem → VT
open Nat renaming add_assoc → Wh, add_zero → Xe, beq → U5, beq_eq → Xk, beq_refl → Wo, ble → U7, ble_eq → W8, ble_eq_true_of_le → U8, le_add_right → XF, le_of_ble_eq_true → Vf, le_of_eq → Zd, le_refl → Vd, le_trans → Vq, lt_of_lt_of_le → VZ, lt_or_ge → VL, lt_succ_of_lt → aah, lt_trichotomy → Xp, mod_eq_of_lt → Wq, mod_lt → Yw, mul_assoc → WA, mul_comm → WR, mul_one → VG, not_lt_zero → Ws, one_mul → Zu, pow_le_pow_right → VD, pow_succ → V8, pow_zero → YT, sub_self → Wn, testBit_eq_decide_div_mod_eq → XL, two_pow_pos → WD, zero_add → VK, zero_le → VI
open Prod renaming fst → Va, snd → U0
open UInt8 renaming ofNat → V6, toNat → U3, toNat_lt → Wl, toNat_ofNat' → WQ
namespace Go.Proofs.YtefjnofhgkjpmaaGreat
open Go.RowKit Go.Bw Go.Vx
open List (length getD map take drop flatMap replicate)
namespace Vp
theorem iq {p:Prop}(h:p:=by(have h9:=hl i;have h5:=Wl (l.getD i mq).lit;have h2:=bK hT1 hT2 (hl i);have h1:=inA.1 i om;have h8:=oA (l.getD i mq).lit.toNat;have h4:=oA (257+ao T1 (l.getD i mq).long);have h3:=oB (ao T2 (l.getD i mq).dist);have y1:=hz1 (ao T1 (l.getD i mq).long);have y2:=hz2 (ao T2 (l.getD i mq).dist);have y3:=oA 256;have h7:=cH (T1:=T1) (T2:=T2) (A:=ac (A.take n1)) (B:=ac (B.take n2)) (H:=H5) (l:=l) i om;unfold ef at h9;omega)):p:=h
theorem n7 {p:Prop}(h:p:=by cases d<;>repeat' first|exact trivial|exact rfl|exact(λ _=>cR _)|exact(λ _=>by assumption)|exact(λ _=>cE _ (λ _=>rfl) _)|exact(λ _=>fO (λ _=>rfl) _)|(intro h;cases h;done)|(intro _;rfl)|(intro _;exact dM _ (cE _ (λ _=>rfl) _))|exact mr _ (cE _ (λ _=>rfl) _)|refine VR ?_ ?_|refine iL ?_ ?_|(intro _;refine eg ?_ ?_)|refine eg ?_ ?_|(intro _;refine js ?_ ?_)|exact dM _ (cE _ (λ _=>rfl) _)|exact cE _ (λ _=>rfl) _):p:=h
theorem tA {p:Prop}(h:p:=by(have h9:=hl 0;have h5:=Wl (l.getD 0 mq).lit;have h2:=bK hT1 hT2 (hl 0);have h1:=inA.1 0 om;have h8:=oA (l.getD 0 mq).lit.toNat;have h4:=oA (257+ao T1 (l.getD 0 mq).long);have h3:=oB (ao T2 (l.getD 0 mq).dist);have y1:=hz1 (ao T1 (l.getD 0 mq).long);have y2:=hz2 (ao T2 (l.getD 0 mq).dist);have y3:=oA 256;have h7:=cH (T1:=T1) (T2:=T2) (A:=ac (A.take n1)) (B:=ac (B.take n2)) (H:=H5) (l:=l) 0 om;unfold ef at h9;omega)):p:=h
theorem tS {p:Prop}(h:p:=by(simp;have y3:=oA 256;omega)):p:=h
theorem zy {p:Prop}(h:p:=by(first|omega|(simp only[U2,dc,VE,WZ,VM,VV,U9,Xk,W8];omega))):p:=h
theorem EW {p:Prop}(h:p:=by(refine aR ?_;(omega))):p:=h
theorem GK {p:Prop}(h:p:=by(exact Vq (oA _).1 (by decide))):p:=h
theorem Jr {p:Prop}(h:p:=by(refine decide_eq_true ?_;have h9:=hl i;have h5:=Wl (l.getD i mq).lit;have h2:=bK hT1 hT2 (hl i);have h1:=inA.1 i om;have h8:=oA (l.getD i mq).lit.toNat;have h4:=oA (257+ao T1 (l.getD i mq).long);have h3:=oB (ao T2 (l.getD i mq).dist);have y1:=hz1 (ao T1 (l.getD i mq).long);have y2:=hz2 (ao T2 (l.getD i mq).dist);have y3:=oA 256;have h7:=cH (T1:=T1) (T2:=T2) (A:=ac (A.take n1)) (B:=ac (B.take n2)) (H:=H5) (l:=l) i om;unfold ef at h9;omega)):p:=h
theorem Js {p:Prop}(h:p:=by(rw[show i=k from by omega])):p:=h
theorem LW {p:Prop}(h:p:=by exact(VR (D.sim.slw rfl (bW (by(simp;have y3:=oA 256;omega))|>.trans rfl)) (qr trivial))):p:=h
theorem A5 {p:Prop}(h:p:=by show k-(i+1)<k-i;clear ZA ZD;omega):p:=h
theorem A6 {p:Prop}(h:p:=by(rw[gI];have h9:=hl i;have h5:=Wl (l.getD i mq).lit;have h2:=bK hT1 hT2 (hl i);have h1:=inA.1 i om;have h8:=oA (l.getD i mq).lit.toNat;have h4:=oA (257+ao T1 (l.getD i mq).long);have h3:=oB (ao T2 (l.getD i mq).dist);have y1:=hz1 (ao T1 (l.getD i mq).long);have y2:=hz2 (ao T2 (l.getD i mq).dist);have y3:=oA 256;have h7:=cH (T1:=T1) (T2:=T2) (A:=ac (A.take n1)) (B:=ac (B.take n2)) (H:=H5) (l:=l) i om;unfold ef at h9;refine U8 ?_;omega)):p:=h
theorem DH {p:Prop}(h:p:=by(exact iP _ (by decide) (by decide))):p:=h
theorem DI {p:Prop}(h:p:=by(have z:=gV 19 (pI R0 i) (R0.getD i mq).s;have z2:=xb R0 i;have z3:=oR i;omega)):p:=h
theorem DJ {p:Prop}(h:p:=by(rw[gI];have h9:=hl 0;have h5:=Wl (l.getD 0 mq).lit;have h2:=bK hT1 hT2 (hl 0);have h1:=inA.1 0 om;have h8:=oA (l.getD 0 mq).lit.toNat;have h4:=oA (257+ao T1 (l.getD 0 mq).long);have h3:=oB (ao T2 (l.getD 0 mq).dist);have y1:=hz1 (ao T1 (l.getD 0 mq).long);have y2:=hz2 (ao T2 (l.getD 0 mq).dist);have y3:=oA 256;have h7:=cH (T1:=T1) (T2:=T2) (A:=ac (A.take n1)) (B:=ac (B.take n2)) (H:=H5) (l:=l) 0 om;unfold ef at h9;refine U8 ?_;omega)):p:=h
theorem DK {p:Prop}(h:p:=by(have h7:=cH (T1:=T1) (T2:=T2) (A:=ac (A.take n1)) (B:=ac (B.take n2)) (H:=H5) (l:=l) k om;simp only[dc,Wo,VM,VV];refine U8 ?_;omega)):p:=h
theorem GL {p:Prop}(h:p:=by(rw[gk];refine U8 ?_;(omega))):p:=h
theorem GM {p:Prop}(h:p:=by(rw[VM];refine decide_eq_true ?_;have h5:=Wl (l.getD i mq).lit;omega)):p:=h
theorem GN {p:Prop}(h:p:=by(have h7:=cH (T1:=T1) (T2:=T2) (A:=ac (A.take n1)) (B:=ac (B.take n2)) (H:=H5) (l:=l) i om;simp only[dc,Wo,VM,VV];refine U8 ?_;omega)):p:=h
theorem LX {p:Prop}(h:p:=by(simp only[U2,Vj,fX,dc,VM,VV];have h5:=Wl (l.getD i mq).lit;have h2:=bK hT1 hT2 (hl i);refine U8 ?_;omega)):p:=h
theorem LY {p:Prop}(h:p:=by(refine decide_eq_true ?_;have z:=gV 19 (pI R0 i) (R0.getD i mq).s;have z2:=xb R0 i;have z3:=oR i;omega)):p:=h
theorem LZ {p:Prop}(h:p:=by(refine decide_eq_true ?_;have h9:=hl 0;have h5:=Wl (l.getD 0 mq).lit;have h2:=bK hT1 hT2 (hl 0);have h1:=inA.1 0 om;have h8:=oA (l.getD 0 mq).lit.toNat;have h4:=oA (257+ao T1 (l.getD 0 mq).long);have h3:=oB (ao T2 (l.getD 0 mq).dist);have y1:=hz1 (ao T1 (l.getD 0 mq).long);have y2:=hz2 (ao T2 (l.getD 0 mq).dist);have y3:=oA 256;have h7:=cH (T1:=T1) (T2:=T2) (A:=ac (A.take n1)) (B:=ac (B.take n2)) (H:=H5) (l:=l) 0 om;unfold ef at h9;omega)):p:=h
theorem L0 {p:Prop}(h:p:=by(exact Vq (oB _).1 (by decide))):p:=h
theorem L4 {p:Prop}(h:p:=by(refine decide_eq_true ?_;(omega))):p:=h
theorem Qo {p:Prop}(h:p:=by(rw[ba (k:=2) (λ(x:Rn)=>(rfl:(ce x).length=2))];refine U8 ?_;(omega))):p:=h
theorem Qp {p:Prop}(h:p:=by show length R0-(i+1)<length R0-i;clear ZA ZD;omega):p:=h
theorem Qq {p:Prop}(h:p:=by(have y1:=oR i;have y2:=oC (R0.getD i mq).s;have y3:=dp (R0.getD i mq).s;have y4:=lX4 i om;omega)):p:=h
theorem Qr {p:Prop}(h:p:=by(have h7:=cH (T1:=T1) (T2:=T2) (A:=ac (A.take n1)) (B:=ac (B.take n2)) (H:=H5) (l:=l) i om;simp only[U2,dc,VE,WZ,VM,VV,U9,Xk,W8];omega)):p:=h
theorem Qs {p:Prop}(h:p:=by(refine aB ?_;rw[gT om om,de,de,Ve];rfl)):p:=h
structure EqV {α:Type}(a b:α):Prop where
 h:a=b
theorem xa (l:Z1)(L:Nat)(hL:L=l.length)(hL2:L<=320)(m:Nat)(hm:m<=1000)(T:Nat)(hT:EqV (jE l m) T):S0 109 [.sl false L 1 (l.map dB),nD m] [] (nD T) []:=Ld l L hL hL2 m hm T hT.h
theorem TH (l:Z1)(n:Nat)(hn:n=l.length)(hn2:n<=320)(ho:∀i,i<n->(l.getD i mq).toNat<=15)(T:List Rn)(hT:EqV (yE l) T):S0 110 [.sl false n 1 (l.map dB)] [] (.tup [.ref 0 0 0 T.length 2,iD 0]) [⟨T.flatMap ce, 187,true⟩]:=SE l n hn hn2 ho T hT.h
theorem DL (W:List Nat)(L:Nat)(hL:L=W.length)(hL2:L<=320)(hB:∀t,W.getD t mq<=1073741824)(m:Nat)(hm:1<=m∧m<=15)(hNm:(gw W L).length<=2^m)(T:Z1)(hT:EqV (b9 W m) T):S0 108 [.sl false L 1 (W.map nD),nD m] [] (.tup [.ref 0 0 0 L 1,iD 0]) [⟨T.map dB, 5,true⟩]:=by
 obtain⟨hT⟩:=hT;subst hT;exact P4 W L hL hL2 hB m hm hNm
structure DyV (T1 T2:List Sy)(l:List Tn)(k:Nat)(W1 W2:List Nat)(A B:Z1)(n1 n2:Nat)(R:List Rn)(W3:List Nat)(C O:Z1)(n3:Nat):Prop where
 w1:bB 286 (dI T1 l k++[256])=W1
 w2:bB 30 (f7 T2 l k)=W2
 a:EqV (b9 W1 15) A
 b:EqV (b9 W2 15) B
 t1:EqV (jE A 257) n1
 t2:EqV (jE B 1) n2
 r:EqV (yE (A.take n1++B.take n2)) R
 w3:bB 19 (R.map Rn.s)=W3
 c:EqV (b9 W3 7) C
 o:kX C 19=O
 t3:EqV (jE O 4) n3
structure DyF (W1 W2:List Nat)(A B:Z1)(n1 n2:Nat)(R:List Rn)(W3:List Nat)(C O:Z1)(n3:Nat):Prop where
 lW1:W1.length=286
 lW2:W2.length=30
 bW1:∀t,W1.getD t mq<=1073741824
 bW2:∀t,W2.getD t mq<=1073741824
 iW1:(gw W1 286).length<=2^15
 iW2:(gw W2 30).length<=2^15
 lA:A.length=286
 lB:B.length=30
 k1:257<=n1∧n1<=286
 k2:1<=n2∧n2<=30
 lA2:(A.take n1).length=n1
 lB2:(B.take n2).length=n2
 cA:aG (A.take n1) 15=0
 cB:aG (B.take n2) 15=0
 mA:(ac (A.take n1)).length=n1
 mB:(ac (B.take n2)).length=n2
 oA:pm (ac (A.take n1))
 oB:pm (ac (B.take n2))
 lQ:(A.take n1++B.take n2).length=n1+n2
 bQ:∀i,i<n1+n2->((A.take n1++B.take n2).getD i mq).toNat<=15
 lR:R.length<=316
 oR:∀i,(R.getD i mq).s<=18∧(R.getD i mq).x<2^rb (R.getD i mq).s
 lW3:W3.length=19
 bW3:∀t,W3.getD t mq<=1073741824
 iW3:(gw W3 19).length<=2^7
 lC:C.length=19
 cC:aG C 7=0
 mC:(ac C).length=19
 oC:pm (ac C)
 lO:O.length=19
 k3:4<=n3∧n3<=19
 lO2:(O.take n3).length=n3
 bO:∀i,(O.getD i mq).toNat<=7
theorem UE {l:Z1}{m n:Nat}(h:jE l m=n):l.take n=vq l m:=by rw[mK,h]
theorem n8 (l:Z1):(ac l).length=l.length:=by rw[Cw,KV]
theorem rz {l:Z1}{m:Nat}(h:aG l m=0)(i:Nat):(l.getD i mq).toNat<=m:=by
 rcases VL i l.length with q|q
 ·exact dN (dD h).2.1 q
 ·rw[ki q];exact VI _
theorem DyV.f {T1 T2:List Sy}{l:List Tn}{k:Nat}{W1 W2:List Nat}{A B:Z1}{n1 n2:Nat}{R:List Rn}{W3:List Nat}{C O:Z1}{n3:Nat}(D:DyV T1 T2 l k W1 W2 A B n1 n2 R W3 C O n3)(hk:k=l.length)(hk2:k<=65535):DyF W1 W2 A B n1 n2 R W3 C O n3:=by
 obtain⟨rfl,rfl,⟨rfl⟩,⟨rfl⟩,⟨t1⟩,⟨t2⟩,⟨r⟩,rfl,⟨rfl⟩,rfl,⟨t3⟩⟩:=D;have a1:(dI T1 l k++[256]).length<=65536:=by rw[U2];have:=tv (T1:=T1) (l:=l) (i:=k);simp;omega
 have a2:(f7 T2 l k).length<=65535:=Vq (w6 k om) hk2;generalize dI T1 l k++[256]=S1 at *;generalize f7 T2 l k=S2 at *;have lW1:=fX 286 S1;have lW2:=fX 30 S2;have i1:(gw (bB 286 S1) 286).length<=2^15:=Vq (kT _ _) (by decide);have i2:(gw (bB 30 S2) 30).length<=2^15:=Vq (kT _ _) (by decide);have cA0:=px (bB 286 S1) (by rw[lW1];decide) 15 (by decide) (by rw[lW1];exact i1);have cB0:=px (bB 30 S2) (by rw[lW2];decide) 15 (by decide) (by rw[lW2];exact i2);have lA:(b9 (bB 286 S1) 15).length=286:=by rw[lU,lW1]
 have lB:(b9 (bB 30 S2) 15).length=30:=by rw[lU,lW2]
 generalize b9 (bB 286 S1) 15=A at *;generalize b9 (bB 30 S2) 15=B at *;have h1:=mF A 257;have h2:=mF B 1;have cA:=zj (q:=257) cA0;have cB:=zj (q:=1) cB0;have lA2:=n5 A 257;have lB2:=n5 B 1;rw[<-UE t1]at cA lA2;rw[<-UE t2]at cB lB2;rw[t1]at h1 lA2;rw[t2]at h2 lB2;have bQ:∀i,((A.take n1++B.take n2).getD i mq).toNat<=15:=λ i=>by
  rw[UZ];rcases VL i n1 with q|q
  ·rw[Vz om,<-UZ];exact rz cA i
  ·rw[Vs om,<-UZ];exact rz cB _
 have lR:R.length<=316:=by
  rw[<-r];refine Vq (Gj _) ?_;rw[U2];omega
 have oR:=λ i=>LF bQ i
 rw[r]at oR;have lS:(R.map Rn.s).length<=316:=by rw[Vj];exact lR
 generalize R.map Rn.s=S3 at *;have lW3:=fX 19 S3;have i3:(gw (bB 19 S3) 19).length<=2^7:=Vq (kT _ _) (by decide);have cC:=px (bB 19 S3) (by rw[lW3];decide) 7 (by decide) (by rw[lW3];exact i3);have lC:(b9 (bB 19 S3) 7).length=19:=by rw[lU,lW3]
 generalize b9 (bB 19 S3) 7=C at *;have c15:=(iV (by decide) cC).1;have lO:=zk C (Vd 19);have h3:=mF (kX C 19) 4;rw[t3]at h3;refine⟨lW1,lW2,λ t=>Vq (gV _ _ _) om,λ t=>Vq (gV _ _ _) om,i1,i2,lA,lB,by omega,by omega,lA2,lB2,cA,cB,by rw[n8];exact lA2,by rw[n8];exact lB2,fj cA,fj cB,by rw[U2];omega,λ i _=>bQ i,lR,oR,lW3,λ t=>Vq (gV _ _ _) om,i3,lC,cC,by rw[n8];exact lC,fj c15,lO,by omega,by rw[Vg];omega,λ i=>?_⟩;rw[mL,UZ,Vu]
 cases(pz.take 19)[i]? with
 |none=>exact VI _
 |some j=>exact rz cC j
theorem DyV.inA {T1 T2:List Sy}{l:List Tn}{k:Nat}{W1 W2:List Nat}{A B:Z1}{n1 n2:Nat}{R:List Rn}{W3:List Nat}{C O:Z1}{n3:Nat}(D:DyV T1 T2 l k W1 W2 A B n1 n2 R W3 C O n3)(hk:k=l.length)(hk2:k<=65535)(hT1:T1=aw)(hT2:T2=aC)(hl:∀i,ef (l.getD i mq)):(∀i,i<k->((l.getD i mq).long=0->(l.getD i mq).lit.toNat<n1)∧((l.getD i mq).long≠0->257+ao T1 (l.getD i mq).long<n1∧ao T2 (l.getD i mq).dist<n2))∧256<n1:=by
 have F:=D.f hk hk2;obtain⟨w1,w2,⟨a⟩,⟨b⟩,⟨t1⟩,⟨t2⟩,-,-,-,-,-⟩:=D;have p1:∀s,s<286->s∈dI T1 l k++[256]->s<n1:=λ s h hm=>by
  rw[<-t1];refine Du ?_;rw[<-a];refine jM W1 (by rw[F.lW1];decide) 15 (by decide) (by rw[F.lW1];exact F.iW1) ?_;rw[<-w1];exact zm h hm
 have p2:∀s,s<30->s∈f7 T2 l k->s<n2:=λ s h hm=>by
  rw[<-t2];refine Du ?_;rw[<-b];refine jM W2 (by rw[F.lW2];decide) 15 (by decide) (by rw[F.lW2];exact F.iW2) ?_;rw[<-w2];exact zm h hm
 refine⟨λ i hi=>⟨λ h0=>?_,λ h0=>?_⟩,p1 256 (by decide) (List.mem_append_right _ (List.mem_singleton.2 rfl))⟩
 ·have m:=Dv (T1:=T1) hk hi
  rw[EU,ZF h0]at m;have:=(l.getD i mq).lit.toNat_lt;exact p1 _ om (WG _ m)
 ·have te:=bK hT1 hT2 (hl i) h0
  have m:=Dv (T1:=T1) hk hi;rw[EU,ZE h0]at m;exact⟨p1 _ om (WG _ m),p2 _ te.2 (LG hk hi h0)⟩
def pI (R:List Rn)(i:Nat):List Nat:=lk R ((R.take i).map Rn.s)
theorem vF (R:List Rn)(i:Nat):pI R i=(R.take i).map Rn.s:=au _ _
theorem TJ (R:List Rn):pI R 0=[]:=vF R 0
theorem TK (R:List Rn):pI R R.length=R.map Rn.s:=by rw[vF,VB (Vd _)]
theorem xb (R:List Rn)(i:Nat):(pI R i).length<=i:=by rw[vF,Vj,Vg];omega
theorem TL {R:List Rn}{i:Nat}(h:i<R.length):pI R (i+1)=pI R i++[(R.getD i mq).s]:=by
 have e1:R.take (i+1)=R.take i++[R.getD i mq]:=by
  rw[VT h,UZ,U4 h];rfl
 rw[vF,vF,e1,V4];rfl
theorem Jt (l:List Tn)(k:Nat)(hk:k=l.length)(hk2:k<=65535)(hl:∀i,ef (l.getD i mq))(T1 T2:List Sy)(hT1:T1=aw)(hT2:T2=aC)(hl1:T1.length=29)(hl2:T2.length=30)(hz1:b6 T1)(hz2:b6 T2)(W1 W2:List Nat)(A B:Z1)(n1 n2:Nat)(R0:List Rn)(W3:List Nat)(C O:Z1)(n3:Nat)(D:DyV T1 T2 l k W1 W2 A B n1 n2 R0 W3 C O n3)(L F:Z1)(hL:L=bE)(hF:F=cY)(a:Nat)(ha:a<=7)(raw:Z1)(r:Nat)(hr:r=raw.length)(hr2:r<=65535)(H H3 H4 H5:List Nm)(hH:H=kx 1 2)(hH3:H3=H++[⟨n1-257,5⟩,⟨n2-1,5⟩,⟨n3-4,4⟩])(hH4:f8 H3 jL (O.take n3) n3=H4)(hH5:f8 H4 (lX (ac C)) R0 R0.length=H5)(H' H3' H4' H5':List Nm)(hH':H'=kx 0 2)(hH3':H3'=H'++[⟨n1-257,5⟩,⟨n2-1,5⟩,⟨n3-4,4⟩])(hH4':f8 H3' jL (O.take n3) n3=H4')(hH5':f8 H4' (lX (ac C)) R0 R0.length=H5'):(S0 65 [nD a,fP 2,.sl false r 1 (raw.map dB),.sl false k 3 (l.flatMap b5),.v (.bool true)] [] (.ptr 0 0 0) [⟨[.ref 1 1 0 ((a9 T1 T2 (ac (A.take n1)) (ac (B.take n2)) H5 l k)++f6 (ac (A.take n1)) 256 0 0).length 2], 123,false⟩,⟨((a9 T1 T2 (ac (A.take n1)) (ac (B.take n2)) H5 l k)++f6 (ac (A.take n1)) 256 0 0).flatMap bb, 126,true⟩])∧(S0 65 [nD a,fP 2,.sl false r 1 (raw.map dB),.sl false k 3 (l.flatMap b5),.v (.bool false)] [] (.ptr 0 0 0) [⟨[.ref 1 1 0 ((a9 T1 T2 (ac (A.take n1)) (ac (B.take n2)) H5' l k)++f6 (ac (A.take n1)) 256 0 0).length 2], 123,false⟩,⟨((a9 T1 T2 (ac (A.take n1)) (ac (B.take n2)) H5' l k)++f6 (ac (A.take n1)) 256 0 0).flatMap bb, 126,true⟩]):=by
 have inA:=D.inA hk hk2 hT1 hT2 hl;obtain⟨lW1,lW2,bW1,bW2,iW1,iW2,lA,lB,g1,g2,lA2,lB2,cA,cB,mA,mB,oA,oB,lQ,bQ,lR,oR,lW3,bW3,iW3,lC,cC,mC,oC,lO,g3,lO2,bO⟩:=D.f hk hk2;obtain⟨w1,w2,eA,eB,et1,et2,eR,w3,eC,eO,et3⟩:=D;have c15:=(iV (by decide) cC).1;refine SpecH.run2 (λ(d:Bool) (e:Nat) (H H3 H4 H5:List Nm) (hH:H=kx e 2) (hH3:H3=H++[⟨n1-257,5⟩,⟨n2-1,5⟩,⟨n3-4,4⟩]) (hH4:f8 H3 jL (O.take n3) n3=H4) (hH5:f8 H4 (lX (ac C)) R0 R0.length=H5) (R:D->List Blk->Prop) (ok:∀r' bs',r'=(.ptr 0 0 0)->bs'=[⟨[.ref 1 1 0 ((a9 T1 T2 (ac (A.take n1)) (ac (B.take n2)) H5 l k)++f6 (ac (A.take n1)) 256 0 0).length 2], 123,false⟩,⟨((a9 T1 T2 (ac (A.take n1)) (ac (B.take n2)) H5 l k)++f6 (ac (A.take n1)) 256 0 0).flatMap bb, 126,true⟩]->R r' bs')=>have lH:H.length=2:=(by rw[hH];rfl);have lH3:H3.length=5:=(by rw[hH3,U2,lH];rfl);have lX3:=λ i h=>lW (H:=H3) (g:=jL) (l:=O.take n3) (c:=1) (λ _=>rfl) i h;have lH4:H4.length=5+n3:=(by rw[<-hH4,lX3 n3 om,lH3,Zu]);have lX4:=λ i h=>lW (H:=H4) (g:=lX (ac C)) (l:=R0) (c:=2) (λ _=>rfl) i h;have lH5:H5.length=5+n3+2*R0.length:=(by rw[<-hH5,lX4 R0.length om,lH4]);((.cl 86 false [] (.fn N2 (@ly (L) (F) aF aF)) (.s 33 (.blk (384+sh d) (384+sh d) (U1 (replicate 286 (zI 0)) 176 false) (U1 (map nD (bB 286 (dI T1 l 0))) 176 false) (by(refine aB ?_;rw[Tu,Dp,W7];rfl)) (.blk (392+sh d) (392+sh d) (U1 (replicate 30 (zI 0)) 177 false) (U1 (map nD (bB 30 (f7 T2 l 0))) 177 false) (by(refine aB ?_;rw[P7,Dp,W7];rfl)) (Hn.inl T_ok ah false 53 (424+sh d) (aq Tryz.prog 106 0) (λ(x:(i:Nat)×'(hi:i<=k)×'Unit)=>match x with|⟨i,hi,_⟩=>Vn [(1,WJ (VU 107) [] [Vh (392+sh d) (392+sh d) 0,Vh (384+sh d) (384+sh d) 0]),(10,Vl false k 3 (flatMap b5 l)),(11,zN k),(12,nD i)] [⟨16,16,16,16,.b ⟨[U6 (160+sh d) (160+sh d) 0 2 2],123,false⟩⟩,⟨(96+sh d),(96+sh d),(96+sh d),(96+sh d),.b ⟨[ak e,zI 1,uI 2,zI 2],126,false⟩⟩,⟨(160+sh d),(160+sh d),(160+sh d),(160+sh d),.b ⟨[ak e,zI 1,uI 2,zI 2],126,true⟩⟩,⟨(256+sh d),(256+sh d),(256+sh d),(256+sh d),.b ⟨map dB L,5,true⟩⟩,⟨(257+sh d),(257+sh d),(257+sh d),(257+sh d),.b ⟨map dB F,5,true⟩⟩,⟨(384+sh d),(384+sh d),(384+sh d),(384+sh d),.r ⟨(bB 286 (dI T1 l i)).map nD,176,true⟩⟩,⟨(392+sh d),(392+sh d),(392+sh d),(392+sh d),.r ⟨(bB 30 (f7 T2 l i)).map nD,177,true⟩⟩] (480+sh d)) (λ(x:(i:Nat)×'(hi:i<=k)×'Unit)=>match x with|⟨i,hi,_⟩=>k-i) [⟨Unit,.exit 0,λ x=>match x with|()=>Vn [(1,WJ (VU 107) [] [Vh (392+sh d) (392+sh d) 0,Vh (384+sh d) (384+sh d) 0]),(10,Vl false k 3 (flatMap b5 l)),(11,zN k),(12,nD k)] [⟨16,16,16,16,.b ⟨[U6 (160+sh d) (160+sh d) 0 2 2],123,false⟩⟩,⟨(96+sh d),(96+sh d),(96+sh d),(96+sh d),.b ⟨[ak e,zI 1,uI 2,zI 2],126,false⟩⟩,⟨(160+sh d),(160+sh d),(160+sh d),(160+sh d),.b ⟨[ak e,zI 1,uI 2,zI 2],126,true⟩⟩,⟨(256+sh d),(256+sh d),(256+sh d),(256+sh d),.b ⟨map dB L,5,true⟩⟩,⟨(257+sh d),(257+sh d),(257+sh d),(257+sh d),.b ⟨map dB F,5,true⟩⟩,⟨(384+sh d),(384+sh d),(384+sh d),(384+sh d),.r ⟨(bB 286 (dI T1 l k)).map nD,176,true⟩⟩,⟨(392+sh d),(392+sh d),(392+sh d),(392+sh d),.r ⟨W2.map nD,177,true⟩⟩] (480+sh d)⟩] 1000 64 (fun|⟨i,hi,_⟩,Q,ZA,ZD=>(.s 2 (.bd ((i:Int)<k) (λ p0 Z7=>(.s 1 (.chk (true&&decide ((i:Int)<k)&&true) zy (.s 2 (.chk (U7 (i*3+3) (length (flatMap b5 l))) GL (.lst (take 3 (drop (i*3) (flatMap b5 l))) ([bl (U3 (Tn.lit (getD l i mq))),zN (Tn.dist (getD l i mq)),zN (Tn.long (getD l i mq))]) (aD (k:=3) (i:=i) (λ _=>rfl) om om) (.s 13 (.br ((↑(Tn.long (getD l i mq)):Int)==0) (λ p1=>have Z6:=eq_of_beq p1;(.s 8 (.op (↑(U3 (Tn.lit (getD l i mq))):Int) DH (.s 6 (.chk (true&&decide ((↑(U3 (Tn.lit (getD l i mq))):Int)<(↑286:Int))) GM (.s 3 (.opt ((map nD (bB 286 (dI T1 l i)))[0+U3 (Tn.lit (getD l i mq))*1]?) (nD (getD (bB 286 (dI T1 l i)) (U3 (Tn.lit (getD l i mq))) mq)) (@lY 286 (dI T1 l i) (l.getD i mq).lit.toNat (0+U3 (Tn.lit (getD l i mq))*1) iq om) (.s 2 (.op ((↑(getD (bB 286 (dI T1 l i)) (U3 (Tn.lit (getD l i mq))) mq):Int)+1) (by(have z1:=gV 286 (dI T1 l i) (l.getD i mq).lit.toNat;have z2:=tv (T1:=T1) (l:=l) (i:=i);have h5:=Wl (l.getD i mq).lit;have h2:=bK hT1 hT2 (hl i);omega)) (.s 1 (.chk (true&&decide ((↑(U3 (Tn.lit (getD l i mq))):Int)<(↑286:Int))) GM (.s 2 (.chk (true&&U7 (0+U3 (Tn.lit (getD l i mq))*1+1) (length (map nD (bB 286 (dI T1 l i))))) LX (.lst (ai (map nD (bB 286 (dI T1 l i))) (0+U3 (Tn.lit (getD l i mq))*1) [zI ((↑(getD (bB 286 (dI T1 l i)) (U3 (Tn.lit (getD l i mq))) mq):Int)+1)]) (map nD (bB 286 (dI T1 l i++[U3 (Tn.lit (getD l i mq))]))) (@n6 286 (dI T1 l i) (l.getD i mq).lit.toNat (0+U3 (Tn.lit (getD l i mq))*1) (U3 (Tn.lit (getD l i mq))) iq om om) (.s 2 (.ow (i+1) (.s 1 (.val 12 (zI (i+1)) (zN (i+1)) EW (.blk (384+sh d) (384+sh d) (U1 (map nD (bB 286 (dI T1 l i++[U3 (Tn.lit (getD l i mq))]))) 176 true) (U1 (map nD (bB 286 (dI T1 l (i+1)))) 176 true) (by(refine aB ?_;rw[(Jk (T1:=T1) (T2:=T2) (i:=i) om om).1])) (.blk (392+sh d) (392+sh d) (U1 (map nD (bB 30 (f7 T2 l i))) 177 true) (U1 (map nD (bB 30 (f7 T2 l (i+1)))) 177 true) (by(refine aB ?_;rw[(Jk (T1:=T1) (T2:=T2) (i:=i) om om).2])) (Hn.next ZA ⟨(i+1),om,⟨⟩⟩ A5 [(16,16),((96+sh d),(96+sh d)),((160+sh d),(160+sh d)),((256+sh d),(256+sh d)),((257+sh d),(257+sh d)),((384+sh d),(384+sh d)),((392+sh d),(392+sh d))] n7))))))))))))))))))))) (λ p1=>have Z6:=ap p1;(.s 7 (.cl 142 false [] (.fn wG (@kS (T1) aF om om (Tn.long (getD l i mq)) iq iq)) (.s 23 (.chk (true&&decide ((↑(257+ao T1 (Tn.long (getD l i mq))):Int)<(↑286:Int))) Jr (.s 3 (.opt ((map nD (bB 286 (dI T1 l i)))[0+(257+ao T1 (Tn.long (getD l i mq)))*1]?) (nD (getD (bB 286 (dI T1 l i)) (257+ao T1 (Tn.long (getD l i mq))) mq)) (@lY 286 (dI T1 l i) (257+ao T1 (l.getD i mq).long) (0+(257+ao T1 (Tn.long (getD l i mq)))*1) iq om) (.s 2 (.op ((↑(getD (bB 286 (dI T1 l i)) (257+ao T1 (Tn.long (getD l i mq))) mq):Int)+1) (by(have z1:=gV 286 (dI T1 l i) (257+ao T1 (l.getD i mq).long);have z2:=tv (T1:=T1) (l:=l) (i:=i);have h5:=Wl (l.getD i mq).lit;have h2:=bK hT1 hT2 (hl i);omega)) (.s 1 (.chk (true&&decide ((↑(257+ao T1 (Tn.long (getD l i mq))):Int)<(↑286:Int))) Jr (.s 2 (.chk (true&&U7 (0+(257+ao T1 (Tn.long (getD l i mq)))*1+1) (length (map nD (bB 286 (dI T1 l i))))) LX (.lst (ai (map nD (bB 286 (dI T1 l i))) (0+(257+ao T1 (Tn.long (getD l i mq)))*1) [zI ((↑(getD (bB 286 (dI T1 l i)) (257+ao T1 (Tn.long (getD l i mq))) mq):Int)+1)]) (map nD (bB 286 (dI T1 l i++[257+ao T1 (Tn.long (getD l i mq))]))) (@n6 286 (dI T1 l i) (257+ao T1 (l.getD i mq).long) (0+(257+ao T1 (Tn.long (getD l i mq)))*1) (257+ao T1 (Tn.long (getD l i mq))) iq om om) (.s 7 (.cl 143 false [] (.fn wH (@pn (T2) aF om om (Tn.dist (getD l i mq)) iq iq)) (.s 22 (.chk (true&&decide ((↑(ao T2 (Tn.dist (getD l i mq))):Int)<(↑30:Int))) Jr (.s 3 (.opt ((map nD (bB 30 (f7 T2 l i)))[0+ao T2 (Tn.dist (getD l i mq))*1]?) (nD (getD (bB 30 (f7 T2 l i)) (ao T2 (Tn.dist (getD l i mq))) mq)) (@lY 30 (f7 T2 l i) (ao T2 (l.getD i mq).dist) (0+ao T2 (Tn.dist (getD l i mq))*1) iq om) (.s 2 (.op ((↑(getD (bB 30 (f7 T2 l i)) (ao T2 (Tn.dist (getD l i mq))) mq):Int)+1) (by(have z1:=gV 30 (f7 T2 l i) (ao T2 (l.getD i mq).dist);have z2:=w6 (T2:=T2) (l:=l) i om;have h5:=Wl (l.getD i mq).lit;have h2:=bK hT1 hT2 (hl i);omega)) (.s 1 (.chk (true&&decide ((↑(ao T2 (Tn.dist (getD l i mq))):Int)<(↑30:Int))) Jr (.s 2 (.chk (true&&U7 (0+ao T2 (Tn.dist (getD l i mq))*1+1) (length (map nD (bB 30 (f7 T2 l i))))) LX (.lst (ai (map nD (bB 30 (f7 T2 l i))) (0+ao T2 (Tn.dist (getD l i mq))*1) [zI ((↑(getD (bB 30 (f7 T2 l i)) (ao T2 (Tn.dist (getD l i mq))) mq):Int)+1)]) (map nD (bB 30 (f7 T2 l i++[ao T2 (Tn.dist (getD l i mq))]))) (@n6 30 (f7 T2 l i) (ao T2 (l.getD i mq).dist) (0+ao T2 (Tn.dist (getD l i mq))*1) (ao T2 (Tn.dist (getD l i mq))) iq om om) (.s 2 (.ow (i+1) (.s 1 (.val 12 (zI (i+1)) (zN (i+1)) EW (.blk (384+sh d) (384+sh d) (U1 (map nD (bB 286 (dI T1 l i++[257+ao T1 (Tn.long (getD l i mq))]))) 176 true) (U1 (map nD (bB 286 (dI T1 l (i+1)))) 176 true) (by(refine aB ?_;rw[(Jl (T1:=T1) (T2:=T2) (i:=i) om om).1])) (.blk (392+sh d) (392+sh d) (U1 (map nD (bB 30 (f7 T2 l i++[ao T2 (Tn.dist (getD l i mq))]))) 177 true) (U1 (map nD (bB 30 (f7 T2 l (i+1)))) 177 true) (by(refine aB ?_;rw[(Jl (T1:=T1) (T2:=T2) (i:=i) om om).2])) (Hn.next ZA ⟨(i+1),om,⟨⟩⟩ A5 [(16,16),((96+sh d),(96+sh d)),((160+sh d),(160+sh d)),((256+sh d),(256+sh d)),((257+sh d),(257+sh d)),((384+sh d),(384+sh d)),((392+sh d),(392+sh d))] n7)))))))))))))))))))))))))))))))))))))))))) (λ p0 Z7=>(.val 12 (zN i) (zN k) Js (.blk (384+sh d) (384+sh d) (U1 (map nD (bB 286 (dI T1 l i))) 176 true) (U1 (map nD (bB 286 (dI T1 l k))) 176 true) Js (.blk (392+sh d) (392+sh d) (U1 (map nD (bB 30 (f7 T2 l i))) 177 true) (U1 (map nD W2) 177 true) (by(rw[show i=k from by omega,w2])) (Hn.last ZD 0 (():Unit) rfl [(16,16),((96+sh d),(96+sh d)),((160+sh d),(160+sh d)),((256+sh d),(256+sh d)),((257+sh d),(257+sh d)),((384+sh d),(384+sh d)),((392+sh d),(392+sh d))] n7)))))))) (fun|⟨i,hi,_⟩=>by cases d<;>kernel_rfl) ⟨(0),om,⟨⟩⟩ [(16,16),((96+sh d),(96+sh d)),((160+sh d),(160+sh d)),((256+sh d),(256+sh d)),((257+sh d),(257+sh d)),((384+sh d),(384+sh d)),((392+sh d),(392+sh d))] n7 (ck (fun|()=>(.s 11 (.opt ((map nD (bB 286 (dI T1 l k)))[256]?) (nD (getD (bB 286 (dI T1 l k)) 256 mq)) (@lY 286 (dI T1 l k) 256 (256) om om) (.s 2 (.op ((↑(getD (bB 286 (dI T1 l k)) 256 mq):Int)+1) (by(have z1:=gV 286 (dI T1 l k) 256;have z2:=tv (T1:=T1) (l:=l) (i:=k);omega)) (.s 4 (.chk (true&&U7 257 (length (map nD (bB 286 (dI T1 l k))))) (by(rw[Vj,fX];rfl)) (.lst (ai (map nD (bB 286 (dI T1 l k))) 256 [zI ((↑(getD (bB 286 (dI T1 l k)) 256 mq):Int)+1)]) (map nD W1) (@Qc 286 (dI T1 l k) 256 W1 om (256) (256) om om om) (.s 1 (.chk (true&&U7 286 (length (map nD W1))&&true) tS (.s 1 (.call 108 false [] (true&&(true&&U7 286 (length (map nD W1))&&true&&ab (bif true&&U5 286 (length (map nD W1))then map nD W1 else take 286 (drop 0 (map nD W1))))&&true) tS ([Vl true 286 1 (bif true&&U5 286 (length (map nD W1))then map nD W1 else take 286 (drop 0 (map nD W1))),zI 15]) _ LW (true) wr _ _ _ (VC (az.of Tryz.func108 rfl rfl) (@DL (W1) (286) om om om (15) zy om (A) aF)) (.s 7 (.chk (true&&U7 30 (length (map nD W2))&&true) tS (.s 1 (.call 108 false [] (true&&(true&&U7 30 (length (map nD W2))&&true&&ab (bif true&&U5 30 (length (map nD W2))then map nD W2 else take 30 (drop 0 (map nD W2))))&&true) tS ([Vl true 30 1 (bif true&&U5 30 (length (map nD W2))then map nD W2 else take 30 (drop 0 (map nD W2))),zI 15]) _ LW (true) wr _ _ _ (VC (az.of Tryz.func108 rfl rfl) (@DL (W2) (30) om om om (15) zy om (B) aF)) (.s 10 (.call 109 false [] (true&&(true&&U7 286 (length (map dB A))&&true&&ab (bif true&&U5 286 (length (map dB A))then map dB A else take 286 (drop 0 (map dB A))))&&true) tS ([Vl true 286 1 (bif true&&U5 286 (length (map dB A))then map dB A else take 286 (drop 0 (map dB A))),zI 257]) _ LW (true) wr _ _ _ (VC (az.of Tryz.func109 rfl rfl) (@xa (A) (286) om om (257) zy (n1) aF)) (.s 1 (.chk (aU none (some (n1:Int)) none 286&&true) tS (.s 3 (.call 109 false [] (true&&(true&&U7 30 (length (map dB B))&&true&&ab (bif true&&U5 30 (length (map dB B))then map dB B else take 30 (drop 0 (map dB B))))&&true) tS ([Vl true 30 1 (bif true&&U5 30 (length (map dB B))then map dB B else take 30 (drop 0 (map dB B))),zI 1]) _ LW (true) wr _ _ _ (VC (az.of Tryz.func109 rfl rfl) (@xa (B) (30) om om (1) zy (n2) aF)) (.s 1 (.chk (aU none (some (n2:Int)) none 30&&true) tS (.s 7 (.call 68 false [] (true&&(true&&(true&&U7 (0+n1*1) (length (map dB A))&&true&&ab (bif true&&U5 (n1*1) (length (map dB A))then map dB A else take (n1*1) (drop 0 (map dB A)))&&(true&&U7 (0+n2*1) (length (map dB B))&&true&&ab (bif true&&U5 (n2*1) (length (map dB B))then map dB B else take (n2*1) (drop 0 (map dB B)))&&true)))&&true) tS ([Vl true 2 1 [Vl (U7 1 n1) n1 1 (bif true&&U5 (n1*1) (length (map dB A))then map dB A else take (n1*1) (drop 0 (map dB A))),Vl (U7 1 n2) n2 1 (bif true&&U5 (n2*1) (length (map dB B))then map dB B else take (n2*1) (drop 0 (map dB B)))]]) _ (by exact(VR (D.sim.slc (cells:=[Vl (U7 1 n1) n1 1 (bif true&&U5 (n1*1) (length (map dB A))then map dB A else take (n1*1) (drop 0 (map dB A))),Vl (U7 1 n2) n2 1 (bif true&&U5 (n2*1) (length (map dB B))then map dB B else take (n2*1) (drop 0 (map dB B)))]) (cells':=[Vl false n1 1 (map dB (take n1 A)),Vl false n2 1 (map dB (take n2 B))]) rfl (VR (D.sim.slw rfl ((bj (A) (0) (n1*1)).trans (by(simp;done)))) (VR (D.sim.slw rfl ((bj (B) (0) (n2*1)).trans (by(simp;done)))) trivial))) trivial)) (true) wr _ _ _ (VC (az.of Tryz.func68 rfl rfl) (@LS (false) (false) (take n1 A) (take n2 B) (n1) (n2) om om om om)) (.s 1 (.call 110 false [] (true&&(true&&U7 (0+(n1+n2)*1) (length (map dB (take n1 A++take n2 B)))&&true&&ab (bif true&&U5 ((n1+n2)*1) (length (map dB (take n1 A++take n2 B)))then map dB (take n1 A++take n2 B)else take ((n1+n2)*1) (drop 0 (map dB (take n1 A++take n2 B)))))&&true) tS ([Vl (U7 1 (n1+n2)) (n1+n2) 1 (bif true&&U5 ((n1+n2)*1) (length (map dB (take n1 A++take n2 B)))then map dB (take n1 A++take n2 B)else take ((n1+n2)*1) (drop 0 (map dB (take n1 A++take n2 B))))]) _ (by exact(VR (D.sim.slw rfl (bW (by(simp;have y3:=oA 256;omega))|>.trans rfl)) trivial)) (true) wr _ _ _ (VC (az.of Tryz.func110 rfl rfl) (@TH (take n1 A++take n2 B) (n1+n2) om om om (R0) aF)) (.s 12 (.blk (848+sh d) (848+sh d) (U1 [zI 0,zI 0,zI 0,zI 0,zI 0,zI 0,zI 0,zI 0,zI 0,zI 0,zI 0,zI 0,zI 0,zI 0,zI 0,zI 0,zI 0,zI 0,zI 0] 185 false) (U1 (map nD (bB 19 (pI R0 0))) 185 false) (by(refine aB ?_;rw[TJ,Dp,W7];rfl)) (Hn.inl T_ok ah false 149 (368+sh d) (aq Tryz.prog 88 0) (λ(x:(i:Nat)×'(hi:i<=R0.length)×'Unit)=>match x with|⟨i,hi,_⟩=>Vn [(0,Vh 16 16 0),(4,U6 (408+sh d) (408+sh d) 0 n1 1),(5,U6 (416+sh d) (416+sh d) 0 n2 1),(8,U6 (424+sh d) (424+sh d) 0 (length R0) 2),(10,Vh (432+sh d) (432+sh d) 0),(55,U6 (424+sh d) (424+sh d) 0 (length R0) 2),(56,zN (length R0)),(57,nD i)] [⟨16,16,16,16,.b ⟨[U6 (160+sh d) (160+sh d) 0 2 2],123,false⟩⟩,⟨(96+sh d),(96+sh d),(96+sh d),(96+sh d),.b ⟨[ak e,zI 1,uI 2,zI 2],126,false⟩⟩,⟨(160+sh d),(160+sh d),(160+sh d),(160+sh d),.b ⟨[ak e,zI 1,uI 2,zI 2],126,true⟩⟩,⟨(256+sh d),(256+sh d),(256+sh d),(256+sh d),.b ⟨map dB L,5,true⟩⟩,⟨(257+sh d),(257+sh d),(257+sh d),(257+sh d),.b ⟨map dB F,5,true⟩⟩,⟨(408+sh d),(408+sh d),(600+sh d),(600+sh d),.b ⟨map dB A,5,true⟩⟩,⟨(416+sh d),(416+sh d),(648+sh d),(648+sh d),.b ⟨map dB B,5,true⟩⟩,⟨(424+sh d),(424+sh d),(800+sh d),(800+sh d),.b ⟨flatMap ce R0,187,true⟩⟩,⟨(432+sh d),(432+sh d),(848+sh d),(848+sh d),.r ⟨(bB 19 (pI R0 i)).map nD,185,true⟩⟩] (440+sh d)) (λ(x:(i:Nat)×'(hi:i<=R0.length)×'Unit)=>match x with|⟨i,hi,_⟩=>R0.length-i) [⟨Unit,.exit 0,λ x=>match x with|()=>Vn [(0,Vh 16 16 0),(4,U6 (408+sh d) (408+sh d) 0 n1 1),(5,U6 (416+sh d) (416+sh d) 0 n2 1),(8,U6 (424+sh d) (424+sh d) 0 (length R0) 2),(10,Vh (432+sh d) (432+sh d) 0),(55,U6 (424+sh d) (424+sh d) 0 (length R0) 2),(56,zN (length R0))] [⟨16,16,16,16,.b ⟨[U6 (160+sh d) (160+sh d) 0 2 2],123,false⟩⟩,⟨(96+sh d),(96+sh d),(96+sh d),(96+sh d),.b ⟨[ak e,zI 1,uI 2,zI 2],126,false⟩⟩,⟨(160+sh d),(160+sh d),(160+sh d),(160+sh d),.b ⟨[ak e,zI 1,uI 2,zI 2],126,true⟩⟩,⟨(256+sh d),(256+sh d),(256+sh d),(256+sh d),.b ⟨map dB L,5,true⟩⟩,⟨(257+sh d),(257+sh d),(257+sh d),(257+sh d),.b ⟨map dB F,5,true⟩⟩,⟨(408+sh d),(408+sh d),(600+sh d),(600+sh d),.b ⟨map dB A,5,true⟩⟩,⟨(416+sh d),(416+sh d),(648+sh d),(648+sh d),.b ⟨map dB B,5,true⟩⟩,⟨(424+sh d),(424+sh d),(800+sh d),(800+sh d),.b ⟨flatMap ce R0,187,true⟩⟩,⟨(432+sh d),(432+sh d),(848+sh d),(848+sh d),.r ⟨W3.map nD,185,true⟩⟩] (440+sh d)⟩] 1000 64 (fun|⟨i,hi,_⟩,Q,ZA,ZD=>(.s 2 (.bd ((i:Int)<(↑(length R0):Int)) (λ p2 Z5=>(.s 1 (.chk (true&&decide ((i:Int)<(↑(length R0):Int))) aF (.s 2 (.chk (U7 (0+i*2+2) (length (flatMap ce R0))) Qo (.lst (take 2 (drop (0+i*2) (flatMap ce R0))) ([zN (Rn.s (getD R0 i mq)),zN (Rn.x (getD R0 i mq))]) (aD (k:=2) (i:=i) (λ _=>rfl) om om) (.s 12 (.chk (true&&decide ((↑(Rn.s (getD R0 i mq)):Int)<(↑19:Int))) LY (.s 3 (.opt ((map nD (bB 19 (pI R0 i)))[0+Rn.s (getD R0 i mq)*1]?) (nD (getD (bB 19 (pI R0 i)) (Rn.s (getD R0 i mq)) mq)) (@lY 19 (pI R0 i) (R0.getD i mq).s (0+Rn.s (getD R0 i mq)*1) DI om) (.s 2 (.op ((↑(getD (bB 19 (pI R0 i)) (Rn.s (getD R0 i mq)) mq):Int)+1) DI (.s 1 (.chk (true&&decide ((↑(Rn.s (getD R0 i mq)):Int)<(↑19:Int))) LY (.s 2 (.chk (true&&U7 (0+Rn.s (getD R0 i mq)*1+1) (length (map nD (bB 19 (pI R0 i))))) (by(simp only[Vj,fX,VM,VV];have z:=gV 19 (pI R0 i) (R0.getD i mq).s;have z2:=xb R0 i;have z3:=oR i;refine U8 ?_;omega)) (.lst (ai (map nD (bB 19 (pI R0 i))) (0+Rn.s (getD R0 i mq)*1) [zI ((↑(getD (bB 19 (pI R0 i)) (Rn.s (getD R0 i mq)) mq):Int)+1)]) (map nD (bB 19 (pI R0 i++[Rn.s (getD R0 i mq)]))) (@n6 19 (pI R0 i) (R0.getD i mq).s (0+Rn.s (getD R0 i mq)*1) (Rn.s (getD R0 i mq)) DI om om) (.s 2 (.ow (i+1) (.s 1 (.val 57 (zI (i+1)) (zN (i+1)) EW (.blk (432+sh d) (432+sh d) (U1 (map nD (bB 19 (pI R0 i++[Rn.s (getD R0 i mq)]))) 185 true) (U1 (map nD (bB 19 (pI R0 (i+1)))) 185 true) (by(refine aB ?_;rw[TL (i:=i) om])) (Hn.next ZA ⟨(i+1),om,⟨⟩⟩ Qp [(16,16),((96+sh d),(96+sh d)),((160+sh d),(160+sh d)),((256+sh d),(256+sh d)),((257+sh d),(257+sh d)),((408+sh d),(408+sh d)),((416+sh d),(416+sh d)),((424+sh d),(424+sh d)),((432+sh d),(432+sh d))] n7))))))))))))))))))))))) (λ p2 Z5=>(.blk (432+sh d) (432+sh d) (U1 (map nD (bB 19 (pI R0 i))) 185 true) (U1 (map nD W3) 185 true) (by(rw[show i=R0.length from by omega,TK,w3])) (Hn.last ZD 0 (():Unit) rfl [(16,16),((96+sh d),(96+sh d)),((160+sh d),(160+sh d)),((256+sh d),(256+sh d)),((257+sh d),(257+sh d)),((408+sh d),(408+sh d)),((416+sh d),(416+sh d)),((424+sh d),(424+sh d)),((432+sh d),(432+sh d))] n7)))))) (fun|⟨i,hi,_⟩=>by cases d<;>kernel_rfl) ⟨(0),om,⟨⟩⟩ [(16,16),((96+sh d),(96+sh d)),((160+sh d),(160+sh d)),((256+sh d),(256+sh d)),((257+sh d),(257+sh d)),((600+sh d),(600+sh d)),((648+sh d),(648+sh d)),((800+sh d),(800+sh d)),((848+sh d),(848+sh d))] n7 (ck (fun|()=>(.s 1 (.chk (true&&U7 19 (length (map nD W3))&&true) tS (.s 1 (.call 108 false [] (true&&(true&&U7 19 (length (map nD W3))&&true&&ab (bif true&&U5 19 (length (map nD W3))then map nD W3 else take 19 (drop 0 (map nD W3))))&&true) tS ([Vl true 19 1 (bif true&&U5 19 (length (map nD W3))then map nD W3 else take 19 (drop 0 (map nD W3))),zI 7]) _ LW (true) wr _ _ _ (VC (az.of Tryz.func108 rfl rfl) (@DL (W3) (19) om om om (7) zy om (C) aF)) (.s 9 (.cl 111 false [] (.fn B9 (@lD)) (.s 1 (.nils 15 (520+sh d) 1 5 (.blk (520+sh d) (520+sh d) (U1 [] 5 true) (U1 (map dB (kX C 0)) 5 true) (by(rw[Qa];rfl)) (Hn.inl T_ok ah false 149 (368+sh d) (aq Tryz.prog 88 1) (λ(x:(i:Nat)×'(hi:i<=19)×'Unit)=>match x with|⟨i,hi,_⟩=>Vn [(0,Vh 16 16 0),(4,U6 (408+sh d) (408+sh d) 0 n1 1),(5,U6 (416+sh d) (416+sh d) 0 n2 1),(8,U6 (424+sh d) (424+sh d) 0 (length R0) 2),(13,U6 (432+sh d) (432+sh d) 0 19 1),(15,(U6 (440+sh d) (440+sh d) (0) (i) 1)),(73,Wp [zI 16,zI 17,zI 18,zI 0,zI 8,zI 7,zI 9,zI 6,zI 10,zI 5,zI 11,zI 4,zI 12,zI 3,zI 13,zI 2,zI 14,zI 1,zI 15]),(74,nD i)] [⟨16,16,16,16,.b ⟨[U6 (160+sh d) (160+sh d) 0 2 2],123,false⟩⟩,⟨(96+sh d),(96+sh d),(96+sh d),(96+sh d),.b ⟨[ak e,zI 1,uI 2,zI 2],126,false⟩⟩,⟨(160+sh d),(160+sh d),(160+sh d),(160+sh d),.b ⟨[ak e,zI 1,uI 2,zI 2],126,true⟩⟩,⟨(256+sh d),(256+sh d),(256+sh d),(256+sh d),.b ⟨map dB L,5,true⟩⟩,⟨(257+sh d),(257+sh d),(257+sh d),(257+sh d),.b ⟨map dB F,5,true⟩⟩,⟨(408+sh d),(408+sh d),(408+sh d),(408+sh d),.b ⟨map dB A,5,true⟩⟩,⟨(416+sh d),(416+sh d),(416+sh d),(416+sh d),.b ⟨map dB B,5,true⟩⟩,⟨(424+sh d),(424+sh d),(424+sh d),(424+sh d),.b ⟨flatMap ce R0,187,true⟩⟩,⟨(432+sh d),(432+sh d),(448+sh d),(448+sh d),.b ⟨map dB C,5,true⟩⟩,⟨(440+sh d),(440+sh d),(520+sh d),(520+sh d),.b ⟨(kX C i).map dB,5,true⟩⟩] (448+sh d)) (λ(x:(i:Nat)×'(hi:i<=19)×'Unit)=>match x with|⟨i,hi,_⟩=>19-i) [⟨Unit,.exit 2,λ x=>match x with|()=>Vn [(0,Vh 16 16 0),(4,U6 (408+sh d) (408+sh d) 0 n1 1),(5,U6 (416+sh d) (416+sh d) 0 n2 1),(8,U6 (424+sh d) (424+sh d) 0 (length R0) 2),(13,U6 (432+sh d) (432+sh d) 0 19 1),(15,(U6 (440+sh d) (440+sh d) (0) (19) 1)),(73,Wp [zI 16,zI 17,zI 18,zI 0,zI 8,zI 7,zI 9,zI 6,zI 10,zI 5,zI 11,zI 4,zI 12,zI 3,zI 13,zI 2,zI 14,zI 1,zI 15])] [⟨16,16,16,16,.b ⟨[U6 (160+sh d) (160+sh d) 0 2 2],123,false⟩⟩,⟨(96+sh d),(96+sh d),(96+sh d),(96+sh d),.b ⟨[ak e,zI 1,uI 2,zI 2],126,false⟩⟩,⟨(160+sh d),(160+sh d),(160+sh d),(160+sh d),.b ⟨[ak e,zI 1,uI 2,zI 2],126,true⟩⟩,⟨(256+sh d),(256+sh d),(256+sh d),(256+sh d),.b ⟨map dB L,5,true⟩⟩,⟨(257+sh d),(257+sh d),(257+sh d),(257+sh d),.b ⟨map dB F,5,true⟩⟩,⟨(408+sh d),(408+sh d),(408+sh d),(408+sh d),.b ⟨map dB A,5,true⟩⟩,⟨(416+sh d),(416+sh d),(416+sh d),(416+sh d),.b ⟨map dB B,5,true⟩⟩,⟨(424+sh d),(424+sh d),(424+sh d),(424+sh d),.b ⟨flatMap ce R0,187,true⟩⟩,⟨(432+sh d),(432+sh d),(448+sh d),(448+sh d),.b ⟨map dB C,5,true⟩⟩,⟨(440+sh d),(440+sh d),(520+sh d),(520+sh d),.b ⟨O.map dB,5,true⟩⟩] (448+sh d)⟩] 1000 64 (fun|⟨i,hi,_⟩,Q,ZA,ZD=>(.s 2 (.bd ((i:Int)<19) (λ p3 Z4=>(.s 1 (.chk (true&&decide ((i:Int)<(↑19:Int))) aF (.opt ((map nD pz)[i*1]?) (nD (Jm C (i*1))) (@Qd C (i*1) om) (.s 5 (.chk (true&&decide ((↑(Jm C (i*1)):Int)<(↑19:Int))) (by(have y:=Dw C (i*1) om;rw[VM];refine decide_eq_true ?_;omega)) (.s 2 (.opt ((map dB C)[0+Jm C (i*1)*1]?) (dB (getD C (0+Jm C (i*1)*1) mq)) (av _ _ (by(have y:=Dw C (i*1) om;omega))) (.s 3 (.chk (true&&U5 (i*1) (length (map dB (kX C i)))&&true&&true&&true&&true&&U7 ((i+1)*1) 140737488355328) (by(rw[Vj,zk C (i:=i) (by(omega))];simp only[VG,Wo,VM,VV];refine U8 ?_;(omega))) (.s 3 (.ow (i+1) (.s 1 (.val 74 (zI (i+1)) (zN (i+1)) EW (.blk (520+sh d) (520+sh d) (U1 (map dB (kX C i)++[bl (U3 (getD C (0+Jm C (i*1)*1) mq))]) 5 true) (U1 (map dB (kX C (i+1))) 5 true) (by(refine aB ?_;rw[Qb C (i:=i) om,V4];simp only[w7,VG,VK];rfl)) (Hn.next ZA ⟨(i+1),om,⟨⟩⟩ (by show 19-(i+1)<19-i;clear ZA ZD;omega) [(16,16),((96+sh d),(96+sh d)),((160+sh d),(160+sh d)),((256+sh d),(256+sh d)),((257+sh d),(257+sh d)),((408+sh d),(408+sh d)),((416+sh d),(416+sh d)),((424+sh d),(424+sh d)),((432+sh d),(432+sh d)),((520+sh d),(520+sh d))] n7)))))))))))))))) (λ p3 Z4=>(.val 15 (U6 (440+sh d) (440+sh d) 0 i 1) (U6 (440+sh d) (440+sh d) 0 19 1) tS (.blk (440+sh d) (440+sh d) (U1 (map dB (kX C i)) 5 true) (U1 (map dB O) 5 true) (by(rw[show i=19 from by omega,eO])) (Hn.last ZD 0 (():Unit) rfl [(16,16),((96+sh d),(96+sh d)),((160+sh d),(160+sh d)),((256+sh d),(256+sh d)),((257+sh d),(257+sh d)),((408+sh d),(408+sh d)),((416+sh d),(416+sh d)),((424+sh d),(424+sh d)),((432+sh d),(432+sh d)),((440+sh d),(440+sh d))] n7))))))) (fun|⟨i,hi,_⟩=>by cases d<;>kernel_rfl) ⟨(0),om,⟨⟩⟩ [(16,16),((96+sh d),(96+sh d)),((160+sh d),(160+sh d)),((256+sh d),(256+sh d)),((257+sh d),(257+sh d)),((408+sh d),(408+sh d)),((416+sh d),(416+sh d)),((424+sh d),(424+sh d)),((448+sh d),(448+sh d)),((520+sh d),(520+sh d))] n7 (ck (fun|()=>(.s 3 (.call 109 false [] (true&&(true&&U7 19 (length (map dB O))&&true&&ab (bif true&&U5 19 (length (map dB O))then map dB O else take 19 (drop 0 (map dB O))))&&true) tS ([Vl true 19 1 (bif true&&U5 19 (length (map dB O))then map dB O else take 19 (drop 0 (map dB O))),zI 4]) _ LW (true) wr _ _ _ (VC (az.of Tryz.func109 rfl rfl) (@xa (O) (19) om om (4) zy (n3) aF)) (.s 1 (.chk (aU none (some (n3:Int)) none 19&&true) tS (.s 6 (.ow (n1-256) (.s 2 (.ow (n1-256-1) (.s 1 (.opt (ax .u32 ((n1:Int)-256-1)) (uI (n1-256-1)) (aE om) (.s 6 (.ow (n2-1) (.s 1 (.opt (ax .u32 ((n2:Int)-1)) (uI (n2-1)) (aE om) (.s 6 (.ow (n3-4) (.s 1 (.opt (ax .u32 ((n3:Int)-4)) (uI (n3-4)) (aE om) (.s 28 (.blk 16 16 (U1 [U6 (688+sh d) (688+sh d) 0 5 2] 123 false) (U1 [U6 (688+sh d) (688+sh d) 0 (length (f8 H3 jL (take n3 O) 0)) 2] 123 false) (by(rw[vr,lH3])) (.blk (688+sh d) (688+sh d) (U1 [ak e,zI 1,uI 2,zI 2,uI (n1-256-1),zI 5,uI (n2-1),zI 5,uI (n3-4),zI 4] 126 true) (U1 (flatMap bb (f8 H3 jL (take n3 O) 0)) 126 true) (by(refine aB ?_;rw[vr,hH3,hH];exact Qe om om om)) (Hn.inl T_ok ah false 149 (368+sh d) (aq Tryz.prog 88 2) (λ(x:(i:Nat)×'(hi:i<=n3)×'Unit)=>match x with|⟨i,hi,_⟩=>Vn [(0,Vh 16 16 0),(4,U6 (400+sh d) (400+sh d) 0 n1 1),(5,U6 (408+sh d) (408+sh d) 0 n2 1),(8,U6 (416+sh d) (416+sh d) 0 (length R0) 2),(13,U6 (424+sh d) (424+sh d) 0 19 1),(108,U6 (432+sh d) (432+sh d) 0 n3 1),(109,zN n3),(110,nD i)] [⟨16,16,16,16,.b ⟨[(U6 (440+sh d) (440+sh d) (0) ((f8 H3 jL (O.take n3) i).length) 2)],123,false⟩⟩,⟨(96+sh d),(96+sh d),(96+sh d),(96+sh d),.b ⟨[ak e,zI 1,uI 2,zI 2],126,false⟩⟩,⟨(256+sh d),(256+sh d),(256+sh d),(256+sh d),.b ⟨map dB L,5,true⟩⟩,⟨(257+sh d),(257+sh d),(257+sh d),(257+sh d),.b ⟨map dB F,5,true⟩⟩,⟨(400+sh d),(400+sh d),(408+sh d),(408+sh d),.b ⟨map dB A,5,true⟩⟩,⟨(408+sh d),(408+sh d),(416+sh d),(416+sh d),.b ⟨map dB B,5,true⟩⟩,⟨(416+sh d),(416+sh d),(424+sh d),(424+sh d),.b ⟨flatMap ce R0,187,true⟩⟩,⟨(424+sh d),(424+sh d),(432+sh d),(432+sh d),.b ⟨map dB C,5,true⟩⟩,⟨(432+sh d),(432+sh d),(440+sh d),(440+sh d),.b ⟨map dB O,5,true⟩⟩,⟨(440+sh d),(440+sh d),(688+sh d),(688+sh d),.b ⟨(f8 H3 jL (O.take n3) i).flatMap bb,126,true⟩⟩] (448+sh d)) (λ(x:(i:Nat)×'(hi:i<=n3)×'Unit)=>match x with|⟨i,hi,_⟩=>n3-i) [⟨Unit,.exit 4,λ x=>match x with|()=>Vn [(0,Vh 16 16 0),(4,U6 (400+sh d) (400+sh d) 0 n1 1),(5,U6 (408+sh d) (408+sh d) 0 n2 1),(8,U6 (416+sh d) (416+sh d) 0 (length R0) 2),(13,U6 (424+sh d) (424+sh d) 0 19 1),(108,U6 (432+sh d) (432+sh d) 0 n3 1),(109,zN n3)] [⟨16,16,16,16,.b ⟨[(U6 (440+sh d) (440+sh d) (0) (H4.length) 2)],123,false⟩⟩,⟨(96+sh d),(96+sh d),(96+sh d),(96+sh d),.b ⟨[ak e,zI 1,uI 2,zI 2],126,false⟩⟩,⟨(256+sh d),(256+sh d),(256+sh d),(256+sh d),.b ⟨map dB L,5,true⟩⟩,⟨(257+sh d),(257+sh d),(257+sh d),(257+sh d),.b ⟨map dB F,5,true⟩⟩,⟨(400+sh d),(400+sh d),(408+sh d),(408+sh d),.b ⟨map dB A,5,true⟩⟩,⟨(408+sh d),(408+sh d),(416+sh d),(416+sh d),.b ⟨map dB B,5,true⟩⟩,⟨(416+sh d),(416+sh d),(424+sh d),(424+sh d),.b ⟨flatMap ce R0,187,true⟩⟩,⟨(424+sh d),(424+sh d),(432+sh d),(432+sh d),.b ⟨map dB C,5,true⟩⟩,⟨(432+sh d),(432+sh d),(440+sh d),(440+sh d),.b ⟨map dB O,5,true⟩⟩,⟨(440+sh d),(440+sh d),(688+sh d),(688+sh d),.b ⟨H4.flatMap bb,126,true⟩⟩] (448+sh d)⟩] 1000 64 (fun|⟨i,hi,_⟩,Q,ZA,ZD=>(.s 2 (.bd ((i:Int)<n3) (λ p4 Z3=>(.s 1 (.chk (true&&decide ((i:Int)<n3)) aF (.s 2 (.opt ((map dB O)[0+i*1]?) (dB (getD O (0+i*1) mq)) (av _ _ om) (.s 4 (.opt (ax .u32 (↑(U3 (getD O (0+i*1) mq)):Int)) (ak (U3 (getD O (0+i*1) mq))) (aE DH) (.s 17 (.chk (true&&U5 (length (f8 H3 jL (take n3 O) i)*2) (length (flatMap bb (f8 H3 jL (take n3 O) i)))&&true&&true&&true&&true&&U7 ((length (f8 H3 jL (take n3 O) i)+1)*16) 140737488355328) (by(simp only[dc,lX3 i om,Wo,VM,VV];refine U8 ?_;(omega))) (.s 9 (.ow (i+1) (.s 1 (.val 110 (zI (i+1)) (zN (i+1)) EW (.blk 16 16 (U1 [U6 (576+sh d) (576+sh d) 0 (length (f8 H3 jL (take n3 O) i)+1) 2] 123 false) (U1 [U6 (576+sh d) (576+sh d) 0 (length (f8 H3 jL (take n3 O) (i+1))) 2] 123 false) (by(rw[vt (i:=i) om,U2];rfl)) (.blk (576+sh d) (576+sh d) (U1 (flatMap bb (f8 H3 jL (take n3 O) i)++[ak (U3 (getD O (0+i*1) mq)),zI 3]) 126 true) (U1 (flatMap bb (f8 H3 jL (take n3 O) (i+1))) 126 true) (by(refine aB ?_;rw[vt (i:=i) om,de];unfold jL;rw[Gk om,VK,VG];rfl)) (Hn.next ZA ⟨(i+1),om,⟨⟩⟩ (by show n3-(i+1)<n3-i;clear ZA ZD;omega) [(16,16),((96+sh d),(96+sh d)),((256+sh d),(256+sh d)),((257+sh d),(257+sh d)),((400+sh d),(400+sh d)),((408+sh d),(408+sh d)),((416+sh d),(416+sh d)),((424+sh d),(424+sh d)),((432+sh d),(432+sh d)),((576+sh d),(576+sh d))] n7)))))))))))))))) (λ p4 Z3=>(.blk 16 16 (U1 [U6 (440+sh d) (440+sh d) 0 (length (f8 H3 jL (take n3 O) i)) 2] 123 false) (U1 [U6 (440+sh d) (440+sh d) 0 (length H4) 2] 123 false) (by(rw[show i=n3 from by omega,hH4])) (.blk (440+sh d) (440+sh d) (U1 (flatMap bb (f8 H3 jL (take n3 O) i)) 126 true) (U1 (flatMap bb H4) 126 true) (by(rw[show i=n3 from by omega,hH4])) (Hn.last ZD 0 (():Unit) rfl [(16,16),((96+sh d),(96+sh d)),((256+sh d),(256+sh d)),((257+sh d),(257+sh d)),((400+sh d),(400+sh d)),((408+sh d),(408+sh d)),((416+sh d),(416+sh d)),((424+sh d),(424+sh d)),((432+sh d),(432+sh d)),((440+sh d),(440+sh d))] n7))))))) (fun|⟨i,hi,_⟩=>by cases d<;>kernel_rfl) ⟨(0),om,⟨⟩⟩ [(16,16),((96+sh d),(96+sh d)),((256+sh d),(256+sh d)),((257+sh d),(257+sh d)),((408+sh d),(408+sh d)),((416+sh d),(416+sh d)),((424+sh d),(424+sh d)),((432+sh d),(432+sh d)),((440+sh d),(440+sh d)),((688+sh d),(688+sh d))] n7 (ck (fun|()=>(.s 2 (.call 112 false [] (true&&(true&&U7 19 (length (map dB C))&&true&&ab (bif true&&U5 19 (length (map dB C))then map dB C else take 19 (drop 0 (map dB C))))&&true) tS ([Vl true 19 1 (bif true&&U5 19 (length (map dB C))then map dB C else take 19 (drop 0 (map dB C))),zI 7]) _ LW (true) wr _ _ _ (VC (az.of Tryz.func112 rfl rfl) (@lG (C) (19) om (7) zy om)) (.s 10 (.blk 16 16 (U1 [U6 (440+sh d) (440+sh d) 0 (length H4) 2] 123 false) (U1 [U6 (440+sh d) (440+sh d) 0 (length (f8 H4 (lX (ac C)) R0 0)) 2] 123 false) (by(refine aB ?_;rw[vr])) (.blk (440+sh d) (440+sh d) (U1 (flatMap bb H4) 126 true) (U1 (flatMap bb (f8 H4 (lX (ac C)) R0 0)) 126 true) (by(refine aB ?_;rw[vr])) (Hn.inl T_ok ah false 149 (368+sh d) (aq Tryz.prog 88 3) (λ(x:(i:Nat)×'(hi:i<=R0.length)×'Unit)=>match x with|⟨i,hi,_⟩=>Vn [(0,Vh 16 16 0),(4,U6 (400+sh d) (400+sh d) 0 n1 1),(5,U6 (408+sh d) (408+sh d) 0 n2 1),(20,U6 (432+sh d) (432+sh d) 0 19 2),(126,U6 (416+sh d) (416+sh d) 0 (length R0) 2),(127,zN (length R0)),(128,nD i)] [⟨16,16,16,16,.b ⟨[(U6 (424+sh d) (424+sh d) (0) ((f8 H4 (lX (ac C)) R0 i).length) 2)],123,false⟩⟩,⟨(96+sh d),(96+sh d),(96+sh d),(96+sh d),.b ⟨[ak e,zI 1,uI 2,zI 2],126,false⟩⟩,⟨(256+sh d),(256+sh d),(256+sh d),(256+sh d),.b ⟨map dB L,5,true⟩⟩,⟨(257+sh d),(257+sh d),(257+sh d),(257+sh d),.b ⟨map dB F,5,true⟩⟩,⟨(400+sh d),(400+sh d),(400+sh d),(400+sh d),.b ⟨map dB A,5,true⟩⟩,⟨(408+sh d),(408+sh d),(408+sh d),(408+sh d),.b ⟨map dB B,5,true⟩⟩,⟨(416+sh d),(416+sh d),(416+sh d),(416+sh d),.b ⟨flatMap ce R0,187,true⟩⟩,⟨(424+sh d),(424+sh d),(440+sh d),(440+sh d),.b ⟨(f8 H4 (lX (ac C)) R0 i).flatMap bb,126,true⟩⟩,⟨(432+sh d),(432+sh d),(456+sh d),(456+sh d),.b ⟨flatMap dq (ac C),210,true⟩⟩] (440+sh d)) (λ(x:(i:Nat)×'(hi:i<=R0.length)×'Unit)=>match x with|⟨i,hi,_⟩=>R0.length-i) [⟨Unit,.exit 6,λ x=>match x with|()=>Vn [(0,Vh 16 16 0),(4,U6 (400+sh d) (400+sh d) 0 n1 1),(5,U6 (408+sh d) (408+sh d) 0 n2 1),(20,U6 (432+sh d) (432+sh d) 0 19 2),(126,U6 (416+sh d) (416+sh d) 0 (length R0) 2),(127,zN (length R0))] [⟨16,16,16,16,.b ⟨[(U6 (424+sh d) (424+sh d) (0) (H5.length) 2)],123,false⟩⟩,⟨(96+sh d),(96+sh d),(96+sh d),(96+sh d),.b ⟨[ak e,zI 1,uI 2,zI 2],126,false⟩⟩,⟨(256+sh d),(256+sh d),(256+sh d),(256+sh d),.b ⟨map dB L,5,true⟩⟩,⟨(257+sh d),(257+sh d),(257+sh d),(257+sh d),.b ⟨map dB F,5,true⟩⟩,⟨(400+sh d),(400+sh d),(400+sh d),(400+sh d),.b ⟨map dB A,5,true⟩⟩,⟨(408+sh d),(408+sh d),(408+sh d),(408+sh d),.b ⟨map dB B,5,true⟩⟩,⟨(416+sh d),(416+sh d),(416+sh d),(416+sh d),.b ⟨flatMap ce R0,187,true⟩⟩,⟨(424+sh d),(424+sh d),(440+sh d),(440+sh d),.b ⟨H5.flatMap bb,126,true⟩⟩,⟨(432+sh d),(432+sh d),(456+sh d),(456+sh d),.b ⟨flatMap dq (ac C),210,true⟩⟩] (440+sh d)⟩] 1000 64 (fun|⟨i,hi,_⟩,Q,ZA,ZD=>(.s 2 (.bd ((i:Int)<(↑(length R0):Int)) (λ p5 p5f=>(.s 1 (.chk (true&&decide ((i:Int)<(↑(length R0):Int))) aF (.s 2 (.chk (U7 (0+i*2+2) (length (flatMap ce R0))) Qo (.lst (take 2 (drop (0+i*2) (flatMap ce R0))) ([zN (Rn.s (getD R0 i mq)),zN (Rn.x (getD R0 i mq))]) (aD (k:=2) (i:=i) (λ _=>rfl) om om) (.s 12 (.cl 113 false [] (.fn Ca (@yD (Rn.s (getD R0 i mq)) DI)) (.s 27 (.chk (true&&decide ((↑(Rn.s (getD R0 i mq)):Int)<(↑19:Int))) LY (.s 2 (.chk (U7 (0+Rn.s (getD R0 i mq)*2+2) (length (flatMap dq (ac C)))) (by(rw[gI,mC];have y:=oR i;refine U8 ?_;omega)) (.lst (take 2 (drop (0+Rn.s (getD R0 i mq)*2) (flatMap dq (ac C)))) ([ak (Va (getD (ac C) (Rn.s (getD R0 i mq)) mq)),bl (U0 (getD (ac C) (Rn.s (getD R0 i mq)) mq))]) (aD (k:=2) (i:=Rn.s (getD R0 i mq)) (λ _=>rfl) DI om) (.s 18 (.op (↑(U0 (getD (ac C) (Rn.s (getD R0 i mq)) mq)):Int) Qq (.s 1 (.cl 152 false [] (.fn fH (@b7 (Va (getD (ac C) (Rn.s (getD R0 i mq)) mq)) (U0 (getD (ac C) (Rn.s (getD R0 i mq)) mq)) (by(exact Vq (oC _).1 (by decide))) (by(exact(oC _).2)))) (.s 16 (.op (↑(U0 (getD (ac C) (Rn.s (getD R0 i mq)) mq)):Int) Qq (.s 4 (.opt (ax .u32 (↑(Rn.x (getD R0 i mq)):Int)) (uI ((↑(Rn.x (getD R0 i mq)):Int)%4294967296)) (aL _ _) (.s 18 (.chk (true&&U5 (length (f8 H4 (lX (ac C)) R0 i)*2) (length (flatMap bb (f8 H4 (lX (ac C)) R0 i)))&&true&&true&&true&&true&&U7 ((length (f8 H4 (lX (ac C)) R0 i)+2)*16) 140737488355328) (by(simp only[dc,lX4 i om,Wo,VM,VV];refine U8 ?_;(omega))) (.s 9 (.ow (i+1) (.s 1 (.val 128 (zI (i+1)) (zN (i+1)) EW (.blk 16 16 (U1 [U6 (888+sh d) (888+sh d) 0 (length (f8 H4 (lX (ac C)) R0 i)+2) 2] 123 false) (U1 [U6 (888+sh d) (888+sh d) 0 (length (f8 H4 (lX (ac C)) R0 (i+1))) 2] 123 false) (by(rw[vt (i:=i) om,U2];rfl)) (.blk (888+sh d) (888+sh d) (U1 (flatMap bb (f8 H4 (lX (ac C)) R0 i)++[ak (fI (Va (getD (ac C) (Rn.s (getD R0 i mq)) mq)) (U0 (getD (ac C) (Rn.s (getD R0 i mq)) mq))),zN (U0 (getD (ac C) (Rn.s (getD R0 i mq)) mq)),uI ((↑(Rn.x (getD R0 i mq)):Int)%4294967296),zN (rb (Rn.s (getD R0 i mq)))]) 126 true) (U1 (flatMap bb (f8 H4 (lX (ac C)) R0 (i+1))) 126 true) (by(refine aB ?_;rw[vt (i:=i) om,de];have y:=oR i;have y3:=dp (R0.getD i mq).s;have y5:(R0.getD i mq).x<128:=VZ y.2 y3.1;rw[show((R0.getD i mq).x:Int)%4294967296=(((R0.getD i mq).x:Nat):Int)from by omega];rfl)) (Hn.next ZA ⟨(i+1),om,⟨⟩⟩ Qp [(16,16),((96+sh d),(96+sh d)),((256+sh d),(256+sh d)),((257+sh d),(257+sh d)),((400+sh d),(400+sh d)),((408+sh d),(408+sh d)),((416+sh d),(416+sh d)),((888+sh d),(888+sh d)),((432+sh d),(432+sh d))] n7)))))))))))))))))))))))))))))) (λ p5 p5f=>(.blk 16 16 (U1 [U6 (424+sh d) (424+sh d) 0 (length (f8 H4 (lX (ac C)) R0 i)) 2] 123 false) (U1 [U6 (424+sh d) (424+sh d) 0 (length H5) 2] 123 false) (by(rw[show i=R0.length from by omega,hH5])) (.blk (424+sh d) (424+sh d) (U1 (flatMap bb (f8 H4 (lX (ac C)) R0 i)) 126 true) (U1 (flatMap bb H5) 126 true) (by(rw[show i=R0.length from by omega,hH5])) (Hn.last ZD 0 (():Unit) rfl [(16,16),((96+sh d),(96+sh d)),((256+sh d),(256+sh d)),((257+sh d),(257+sh d)),((400+sh d),(400+sh d)),((408+sh d),(408+sh d)),((416+sh d),(416+sh d)),((424+sh d),(424+sh d)),((432+sh d),(432+sh d))] n7))))))) (fun|⟨i,hi,_⟩=>by cases d<;>kernel_rfl) ⟨(0),om,⟨⟩⟩ [(16,16),((96+sh d),(96+sh d)),((256+sh d),(256+sh d)),((257+sh d),(257+sh d)),((400+sh d),(400+sh d)),((408+sh d),(408+sh d)),((416+sh d),(416+sh d)),((440+sh d),(440+sh d)),((456+sh d),(456+sh d))] n7 (ck (fun|()=>(.s 21 (.call 112 false [] (true&&(true&&U7 (0+n1*1) (length (map dB A))&&true&&ab (bif true&&U5 (n1*1) (length (map dB A))then map dB A else take (n1*1) (drop 0 (map dB A))))&&true) tS ([Vl (U7 1 n1) n1 1 (bif true&&U5 (n1*1) (length (map dB A))then map dB A else take (n1*1) (drop 0 (map dB A))),zI 15]) _ (by exact(VR (D.sim.slw rfl ((bj (A) (0) (n1*1)).trans (by(simp;done)))) (qr trivial))) (true) wr _ _ _ (VC (az.of Tryz.func112 rfl rfl) (@lG (take n1 A) (n1) om (15) zy om)) (.s 13 (.call 112 false [] (true&&(true&&U7 (0+n2*1) (length (map dB B))&&true&&ab (bif true&&U5 (n2*1) (length (map dB B))then map dB B else take (n2*1) (drop 0 (map dB B))))&&true) tS ([Vl (U7 1 n2) n2 1 (bif true&&U5 (n2*1) (length (map dB B))then map dB B else take (n2*1) (drop 0 (map dB B))),zI 15]) _ (by exact(VR (D.sim.slw rfl ((bj (B) (0) (n2*1)).trans (by(simp;done)))) (qr trivial))) (true) wr _ _ _ (VC (az.of Tryz.func112 rfl rfl) (@lG (take n2 B) (n2) om (15) zy om)) (.s 18 (.two (.s 2 (.bd (0<(k:Int)) (λ p6 p6f=>(.s 1 (.chk (true&&decide (0<(k:Int))&&true) zy (.s 2 (.chk (U7 3 (length (flatMap b5 l))) GL (.lst (take 3 (drop 0 (flatMap b5 l))) ([bl (U3 (Tn.lit (getD l 0 mq))),zN (Tn.dist (getD l 0 mq)),zN (Tn.long (getD l 0 mq))]) (aD (k:=3) (i:=0) (λ _=>rfl) om om) (.s 13 (.br ((↑(Tn.long (getD l 0 mq)):Int)==0) (λ p7=>have p7f:=eq_of_beq p7;(.s 8 (.op (↑(U3 (Tn.lit (getD l 0 mq))):Int) DH (.s 18 (.chk (true&&decide ((↑(U3 (Tn.lit (getD l 0 mq))):Int)<(n1:Int))) LZ (.s 2 (.chk (U7 (0+U3 (Tn.lit (getD l 0 mq))*2+2) (length (flatMap dq (ac (take n1 A))))) DJ (.lst (take 2 (drop (0+U3 (Tn.lit (getD l 0 mq))*2) (flatMap dq (ac (take n1 A))))) ([ak (Va (getD (ac (take n1 A)) (U3 (Tn.lit (getD l 0 mq))) mq)),bl (U0 (getD (ac (take n1 A)) (U3 (Tn.lit (getD l 0 mq))) mq))]) (aD (k:=2) (i:=U3 (Tn.lit (getD l 0 mq))) (λ _=>rfl) tA om) (.s 18 (.op (↑(U0 (getD (ac (take n1 A)) (U3 (Tn.lit (getD l 0 mq))) mq)):Int) tA (.s 1 (.cl 152 false [] (.fn fH (@b7 (Va (getD (ac (take n1 A)) (U3 (Tn.lit (getD l 0 mq))) mq)) (U0 (getD (ac (take n1 A)) (U3 (Tn.lit (getD l 0 mq))) mq)) GK (by(exact(oA _).2)))) (.s 16 (.op (↑(U0 (getD (ac (take n1 A)) (U3 (Tn.lit (getD l 0 mq))) mq)):Int) tA (.s 23 (.chk (true&&U5 (length H5*2) (length (flatMap bb H5))&&true&&true&&true&&true&&U7 ((length H5+2)*16) 140737488355328) DK (.s 11 (.blk 16 16 (U1 [U6 (1200+sh d) (1200+sh d) 0 (length H5+2) 2] 123 false) (U1 [U6 (1200+sh d) (1200+sh d) 0 (length (a9 T1 T2 (ac (take n1 A)) (ac (take n2 B)) H5 l 1)) 2] 123 false) (by(rw[fL (i:=0) om om,jF,U2];rfl)) (.blk (1200+sh d) (1200+sh d) (U1 (flatMap bb H5++[ak (fI (Va (getD (ac (take n1 A)) (U3 (Tn.lit (getD l 0 mq))) mq)) (U0 (getD (ac (take n1 A)) (U3 (Tn.lit (getD l 0 mq))) mq))),zN (U0 (getD (ac (take n1 A)) (U3 (Tn.lit (getD l 0 mq))) mq)),uI 0,zI 0]) 126 true) (U1 (flatMap bb (a9 T1 T2 (ac (take n1 A)) (ac (take n2 B)) H5 l 1)) 126 true) (by(refine aB ?_;rw[fL (i:=0) om om,jF,de];rfl)) (Hn.inl T_ok ah false 53 (736+sh d) (aq Tryz.prog 106 0) (λ(x:(i:Nat)×'(hi:1<=i∧i<=k)×'Unit)=>match x with|⟨i,hi,_⟩=>Vn [(1,WJ (VU 115) [] [Vh (576+sh d) (576+sh d) 0,Vh (688+sh d) (688+sh d) 0,Vh (624+sh d) (624+sh d) 0]),(10,Vl false k 3 (flatMap b5 l)),(11,zN k),(12,nD i)] [⟨16,16,16,16,.b ⟨[(U6 (840+sh d) (840+sh d) (0) ((a9 T1 T2 (ac (A.take n1)) (ac (B.take n2)) H5 l i).length) 2)],123,false⟩⟩,⟨(96+sh d),(96+sh d),(96+sh d),(96+sh d),.b ⟨[ak e,zI 1,uI 2,zI 2],126,false⟩⟩,⟨(256+sh d),(256+sh d),(256+sh d),(256+sh d),.b ⟨map dB L,5,true⟩⟩,⟨(257+sh d),(257+sh d),(257+sh d),(257+sh d),.b ⟨map dB F,5,true⟩⟩,⟨(400+sh d),(400+sh d),(400+sh d),(400+sh d),.b ⟨map dB A,5,true⟩⟩,⟨(408+sh d),(408+sh d),(408+sh d),(408+sh d),.b ⟨map dB B,5,true⟩⟩,⟨(416+sh d),(416+sh d),(416+sh d),(416+sh d),.b ⟨flatMap ce R0,187,true⟩⟩,⟨(432+sh d),(432+sh d),(432+sh d),(432+sh d),.b ⟨flatMap dq (ac C),210,true⟩⟩,⟨(576+sh d),(576+sh d),(576+sh d),(576+sh d),.b ⟨[Vh 16 16 0],105,false⟩⟩,⟨(592+sh d),(592+sh d),(592+sh d),(592+sh d),.b ⟨flatMap dq (ac (take n1 A)),210,true⟩⟩,⟨(624+sh d),(624+sh d),(624+sh d),(624+sh d),.b ⟨[U6 (592+sh d) (592+sh d) 0 n1 2],189,false⟩⟩,⟨(656+sh d),(656+sh d),(656+sh d),(656+sh d),.b ⟨flatMap dq (ac (take n2 B)),210,true⟩⟩,⟨(688+sh d),(688+sh d),(688+sh d),(688+sh d),.b ⟨[U6 (656+sh d) (656+sh d) 0 n2 2],189,false⟩⟩,⟨(840+sh d),(840+sh d),(1200+sh d),(1200+sh d),.b ⟨(a9 T1 T2 (ac (A.take n1)) (ac (B.take n2)) H5 l i).flatMap bb,126,true⟩⟩] (848+sh d)) (λ(x:(i:Nat)×'(hi:1<=i∧i<=k)×'Unit)=>match x with|⟨i,hi,_⟩=>k-i) [⟨Unit,.exit 0,λ x=>match x with|()=>Vn [(1,WJ (VU 115) [] [Vh (576+sh d) (576+sh d) 0,Vh (688+sh d) (688+sh d) 0,Vh (624+sh d) (624+sh d) 0]),(10,Vl false k 3 (flatMap b5 l)),(11,zN k),(12,nD k)] [⟨16,16,16,16,.b ⟨[(U6 (840+sh d) (840+sh d) (0) ((a9 T1 T2 (ac (A.take n1)) (ac (B.take n2)) H5 l k).length) 2)],123,false⟩⟩,⟨(96+sh d),(96+sh d),(96+sh d),(96+sh d),.b ⟨[ak e,zI 1,uI 2,zI 2],126,false⟩⟩,⟨(256+sh d),(256+sh d),(256+sh d),(256+sh d),.b ⟨map dB L,5,true⟩⟩,⟨(257+sh d),(257+sh d),(257+sh d),(257+sh d),.b ⟨map dB F,5,true⟩⟩,⟨(400+sh d),(400+sh d),(400+sh d),(400+sh d),.b ⟨map dB A,5,true⟩⟩,⟨(408+sh d),(408+sh d),(408+sh d),(408+sh d),.b ⟨map dB B,5,true⟩⟩,⟨(416+sh d),(416+sh d),(416+sh d),(416+sh d),.b ⟨flatMap ce R0,187,true⟩⟩,⟨(432+sh d),(432+sh d),(432+sh d),(432+sh d),.b ⟨flatMap dq (ac C),210,true⟩⟩,⟨(576+sh d),(576+sh d),(576+sh d),(576+sh d),.b ⟨[Vh 16 16 0],105,false⟩⟩,⟨(592+sh d),(592+sh d),(592+sh d),(592+sh d),.b ⟨flatMap dq (ac (take n1 A)),210,true⟩⟩,⟨(624+sh d),(624+sh d),(624+sh d),(624+sh d),.b ⟨[U6 (592+sh d) (592+sh d) 0 n1 2],189,false⟩⟩,⟨(656+sh d),(656+sh d),(656+sh d),(656+sh d),.b ⟨flatMap dq (ac (take n2 B)),210,true⟩⟩,⟨(688+sh d),(688+sh d),(688+sh d),(688+sh d),.b ⟨[U6 (656+sh d) (656+sh d) 0 n2 2],189,false⟩⟩,⟨(840+sh d),(840+sh d),(1200+sh d),(1200+sh d),.b ⟨(a9 T1 T2 (ac (A.take n1)) (ac (B.take n2)) H5 l k).flatMap bb,126,true⟩⟩] (848+sh d)⟩] 1000 64 (fun|⟨i,hi,_⟩,Q,ZA,ZD=>(.s 2 (.bd ((i:Int)<k) (λ p8 p8f=>(.s 1 (.chk (true&&decide ((i:Int)<k)&&true) zy (.s 2 (.chk (U7 (i*3+3) (length (flatMap b5 l))) GL (.lst (take 3 (drop (i*3) (flatMap b5 l))) ([bl (U3 (Tn.lit (getD l i mq))),zN (Tn.dist (getD l i mq)),zN (Tn.long (getD l i mq))]) (aD (k:=3) (i:=i) (λ _=>rfl) om om) (.s 13 (.br ((↑(Tn.long (getD l i mq)):Int)==0) (λ p9=>have p9f:=eq_of_beq p9;(.s 8 (.op (↑(U3 (Tn.lit (getD l i mq))):Int) DH (.s 18 (.chk (true&&decide ((↑(U3 (Tn.lit (getD l i mq))):Int)<(n1:Int))) GM (.s 2 (.chk (U7 (0+U3 (Tn.lit (getD l i mq))*2+2) (length (flatMap dq (ac (take n1 A))))) A6 (.lst (take 2 (drop (0+U3 (Tn.lit (getD l i mq))*2) (flatMap dq (ac (take n1 A))))) ([ak (Va (getD (ac (take n1 A)) (U3 (Tn.lit (getD l i mq))) mq)),bl (U0 (getD (ac (take n1 A)) (U3 (Tn.lit (getD l i mq))) mq))]) (aD (k:=2) (i:=U3 (Tn.lit (getD l i mq))) (λ _=>rfl) iq om) (.s 18 (.op (↑(U0 (getD (ac (take n1 A)) (U3 (Tn.lit (getD l i mq))) mq)):Int) iq (.s 1 (.cl 152 false [] (.fn fH (@b7 (Va (getD (ac (take n1 A)) (U3 (Tn.lit (getD l i mq))) mq)) (U0 (getD (ac (take n1 A)) (U3 (Tn.lit (getD l i mq))) mq)) GK (by(exact(oA _).2)))) (.s 16 (.op (↑(U0 (getD (ac (take n1 A)) (U3 (Tn.lit (getD l i mq))) mq)):Int) iq (.s 23 (.chk (true&&U5 (length (a9 T1 T2 (ac (take n1 A)) (ac (take n2 B)) H5 l i)*2) (length (flatMap bb (a9 T1 T2 (ac (take n1 A)) (ac (take n2 B)) H5 l i)))&&true&&true&&true&&true&&U7 ((length (a9 T1 T2 (ac (take n1 A)) (ac (take n2 B)) H5 l i)+2)*16) 140737488355328) GN (.s 9 (.ow (i+1) (.s 1 (.val 12 (zI (i+1)) (zN (i+1)) EW (.blk 16 16 (U1 [U6 (1288+sh d) (1288+sh d) 0 (length (a9 T1 T2 (ac (take n1 A)) (ac (take n2 B)) H5 l i)+2) 2] 123 false) (U1 [U6 (1288+sh d) (1288+sh d) 0 (length (a9 T1 T2 (ac (take n1 A)) (ac (take n2 B)) H5 l (i+1))) 2] 123 false) (by(rw[fL om om,U2];rfl)) (.blk (1288+sh d) (1288+sh d) (U1 (flatMap bb (a9 T1 T2 (ac (take n1 A)) (ac (take n2 B)) H5 l i)++[ak (fI (Va (getD (ac (take n1 A)) (U3 (Tn.lit (getD l i mq))) mq)) (U0 (getD (ac (take n1 A)) (U3 (Tn.lit (getD l i mq))) mq))),zN (U0 (getD (ac (take n1 A)) (U3 (Tn.lit (getD l i mq))) mq)),uI 0,zI 0]) 126 true) (U1 (flatMap bb (a9 T1 T2 (ac (take n1 A)) (ac (take n2 B)) H5 l (i+1))) 126 true) (by(refine aB ?_;rw[fL om om,de];rfl)) (Hn.next ZA ⟨(i+1),om,⟨⟩⟩ A5 [(16,16),((96+sh d),(96+sh d)),((256+sh d),(256+sh d)),((257+sh d),(257+sh d)),((400+sh d),(400+sh d)),((408+sh d),(408+sh d)),((416+sh d),(416+sh d)),((432+sh d),(432+sh d)),((576+sh d),(576+sh d)),((592+sh d),(592+sh d)),((624+sh d),(624+sh d)),((656+sh d),(656+sh d)),((688+sh d),(688+sh d)),((1288+sh d),(1288+sh d))] n7))))))))))))))))))))))) (λ p9=>have p9f:=ap p9;(.s 7 (.cl 142 false [] (.fn wG (@kS (T1) aF om om (Tn.long (getD l i mq)) iq iq)) (.s 35 (.chk (true&&decide ((↑(257+ao T1 (Tn.long (getD l i mq))):Int)<(n1:Int))) Jr (.s 2 (.chk (U7 (0+(257+ao T1 (Tn.long (getD l i mq)))*2+2) (length (flatMap dq (ac (take n1 A))))) A6 (.lst (take 2 (drop (0+(257+ao T1 (Tn.long (getD l i mq)))*2) (flatMap dq (ac (take n1 A))))) ([ak (Va (getD (ac (take n1 A)) (257+ao T1 (Tn.long (getD l i mq))) mq)),bl (U0 (getD (ac (take n1 A)) (257+ao T1 (Tn.long (getD l i mq))) mq))]) (aD (k:=2) (i:=257+ao T1 (Tn.long (getD l i mq))) (λ _=>rfl) iq om) (.s 18 (.op (↑(U0 (getD (ac (take n1 A)) (257+ao T1 (Tn.long (getD l i mq))) mq)):Int) iq (.s 1 (.cl 152 false [] (.fn fH (@b7 (Va (getD (ac (take n1 A)) (257+ao T1 (Tn.long (getD l i mq))) mq)) (U0 (getD (ac (take n1 A)) (257+ao T1 (Tn.long (getD l i mq))) mq)) GK (by(exact(oA _).2)))) (.s 16 (.op (↑(U0 (getD (ac (take n1 A)) (257+ao T1 (Tn.long (getD l i mq))) mq)):Int) iq (.s 4 (.opt (ax .u32 (↑(Tn.long (getD l i mq)-Sy.least (getD T1 (ao T1 (Tn.long (getD l i mq))) mq)):Int)) (ak (Tn.long (getD l i mq)-Sy.least (getD T1 (ao T1 (Tn.long (getD l i mq))) mq))) (aE iq) (.s 18 (.chk (true&&U5 (length (a9 T1 T2 (ac (take n1 A)) (ac (take n2 B)) H5 l i)*2) (length (flatMap bb (a9 T1 T2 (ac (take n1 A)) (ac (take n2 B)) H5 l i)))&&true&&true&&true&&true&&U7 ((length (a9 T1 T2 (ac (take n1 A)) (ac (take n2 B)) H5 l i)+2)*16) 140737488355328) GN (.s 14 (.cl 143 false [] (.fn wH (@pn (T2) aF om om (Tn.dist (getD l i mq)) iq iq)) (.s 34 (.chk (true&&decide ((↑(ao T2 (Tn.dist (getD l i mq))):Int)<(n2:Int))) Jr (.s 2 (.chk (U7 (0+ao T2 (Tn.dist (getD l i mq))*2+2) (length (flatMap dq (ac (take n2 B))))) A6 (.lst (take 2 (drop (0+ao T2 (Tn.dist (getD l i mq))*2) (flatMap dq (ac (take n2 B))))) ([ak (Va (getD (ac (take n2 B)) (ao T2 (Tn.dist (getD l i mq))) mq)),bl (U0 (getD (ac (take n2 B)) (ao T2 (Tn.dist (getD l i mq))) mq))]) (aD (k:=2) (i:=ao T2 (Tn.dist (getD l i mq))) (λ _=>rfl) iq om) (.s 18 (.op (↑(U0 (getD (ac (take n2 B)) (ao T2 (Tn.dist (getD l i mq))) mq)):Int) iq (.s 1 (.cl 152 false [] (.fn fH (@b7 (Va (getD (ac (take n2 B)) (ao T2 (Tn.dist (getD l i mq))) mq)) (U0 (getD (ac (take n2 B)) (ao T2 (Tn.dist (getD l i mq))) mq)) L0 (by(exact(oB _).2)))) (.s 16 (.op (↑(U0 (getD (ac (take n2 B)) (ao T2 (Tn.dist (getD l i mq))) mq)):Int) iq (.s 4 (.opt (ax .u32 (↑(Tn.dist (getD l i mq)-Sy.least (getD T2 (ao T2 (Tn.dist (getD l i mq))) mq)):Int)) (ak (Tn.dist (getD l i mq)-Sy.least (getD T2 (ao T2 (Tn.dist (getD l i mq))) mq))) (aE iq) (.s 18 (.chk (true&&U5 ((length (a9 T1 T2 (ac (take n1 A)) (ac (take n2 B)) H5 l i)+2)*2) (length (flatMap bb (a9 T1 T2 (ac (take n1 A)) (ac (take n2 B)) H5 l i)++[ak (fI (Va (getD (ac (take n1 A)) (257+ao T1 (Tn.long (getD l i mq))) mq)) (U0 (getD (ac (take n1 A)) (257+ao T1 (Tn.long (getD l i mq))) mq))),zN (U0 (getD (ac (take n1 A)) (257+ao T1 (Tn.long (getD l i mq))) mq)),ak (Tn.long (getD l i mq)-Sy.least (getD T1 (ao T1 (Tn.long (getD l i mq))) mq)),zN (Sy.bits (getD T1 (ao T1 (Tn.long (getD l i mq))) mq))]))&&true&&true&&true&&true&&U7 ((length (a9 T1 T2 (ac (take n1 A)) (ac (take n2 B)) H5 l i)+2+2)*16) 140737488355328) Qr (.s 9 (.ow (i+1) (.s 1 (.val 12 (zI (i+1)) (zN (i+1)) EW (.blk 16 16 (U1 [U6 (2064+sh d) (2064+sh d) 0 (length (a9 T1 T2 (ac (take n1 A)) (ac (take n2 B)) H5 l i)+2+2) 2] 123 false) (U1 [U6 (2064+sh d) (2064+sh d) 0 (length (a9 T1 T2 (ac (take n1 A)) (ac (take n2 B)) H5 l (i+1))) 2] 123 false) (by(rw[gT om om,U2];rfl)) (.blk (2064+sh d) (2064+sh d) (U1 (flatMap bb (a9 T1 T2 (ac (take n1 A)) (ac (take n2 B)) H5 l i)++[ak (fI (Va (getD (ac (take n1 A)) (257+ao T1 (Tn.long (getD l i mq))) mq)) (U0 (getD (ac (take n1 A)) (257+ao T1 (Tn.long (getD l i mq))) mq))),zN (U0 (getD (ac (take n1 A)) (257+ao T1 (Tn.long (getD l i mq))) mq)),ak (Tn.long (getD l i mq)-Sy.least (getD T1 (ao T1 (Tn.long (getD l i mq))) mq)),zN (Sy.bits (getD T1 (ao T1 (Tn.long (getD l i mq))) mq))]++[ak (fI (Va (getD (ac (take n2 B)) (ao T2 (Tn.dist (getD l i mq))) mq)) (U0 (getD (ac (take n2 B)) (ao T2 (Tn.dist (getD l i mq))) mq))),zN (U0 (getD (ac (take n2 B)) (ao T2 (Tn.dist (getD l i mq))) mq)),ak (Tn.dist (getD l i mq)-Sy.least (getD T2 (ao T2 (Tn.dist (getD l i mq))) mq)),zN (Sy.bits (getD T2 (ao T2 (Tn.dist (getD l i mq))) mq))]) 126 true) (U1 (flatMap bb (a9 T1 T2 (ac (take n1 A)) (ac (take n2 B)) H5 l (i+1))) 126 true) Qs (Hn.next ZA ⟨(i+1),om,⟨⟩⟩ A5 [(16,16),((96+sh d),(96+sh d)),((256+sh d),(256+sh d)),((257+sh d),(257+sh d)),((400+sh d),(400+sh d)),((408+sh d),(408+sh d)),((416+sh d),(416+sh d)),((432+sh d),(432+sh d)),((576+sh d),(576+sh d)),((592+sh d),(592+sh d)),((624+sh d),(624+sh d)),((656+sh d),(656+sh d)),((688+sh d),(688+sh d)),((2064+sh d),(2064+sh d))] n7)))))))))))))))))))))))))))))))))))))))))))))))))) (λ p8 p8f=>(.val 12 (zN i) (zN k) Js (.blk 16 16 (U1 [U6 (840+sh d) (840+sh d) 0 (length (a9 T1 T2 (ac (take n1 A)) (ac (take n2 B)) H5 l i)) 2] 123 false) (U1 [U6 (840+sh d) (840+sh d) 0 (length (a9 T1 T2 (ac (take n1 A)) (ac (take n2 B)) H5 l k)) 2] 123 false) Js (.blk (840+sh d) (840+sh d) (U1 (flatMap bb (a9 T1 T2 (ac (take n1 A)) (ac (take n2 B)) H5 l i)) 126 true) (U1 (flatMap bb (a9 T1 T2 (ac (take n1 A)) (ac (take n2 B)) H5 l k)) 126 true) Js (Hn.last ZD 0 (():Unit) rfl [(16,16),((96+sh d),(96+sh d)),((256+sh d),(256+sh d)),((257+sh d),(257+sh d)),((400+sh d),(400+sh d)),((408+sh d),(408+sh d)),((416+sh d),(416+sh d)),((432+sh d),(432+sh d)),((576+sh d),(576+sh d)),((592+sh d),(592+sh d)),((624+sh d),(624+sh d)),((656+sh d),(656+sh d)),((688+sh d),(688+sh d)),((840+sh d),(840+sh d))] n7)))))))) (fun|⟨i,hi,_⟩=>by cases d<;>kernel_rfl) ⟨(1),om,⟨⟩⟩ [(16,16),((96+sh d),(96+sh d)),((256+sh d),(256+sh d)),((257+sh d),(257+sh d)),((400+sh d),(400+sh d)),((408+sh d),(408+sh d)),((416+sh d),(416+sh d)),((432+sh d),(432+sh d)),((576+sh d),(576+sh d)),((592+sh d),(592+sh d)),((624+sh d),(624+sh d)),((656+sh d),(656+sh d)),((688+sh d),(688+sh d)),((1200+sh d),(1200+sh d))] n7 (ck (fun|()=>(.s 19 (.chk (true&&decide (256<(n1:Int))) L4 (.s 2 (.chk (U7 514 (length (flatMap dq (ac (take n1 A))))) DJ (.lst (take 2 (drop 512 (flatMap dq (ac (take n1 A))))) ([ak (Va (getD (ac (take n1 A)) 256 mq)),bl (U0 (getD (ac (take n1 A)) 256 mq))]) (aD (k:=2) (i:=256) (λ _=>rfl) om om) (.s 18 (.op (↑(U0 (getD (ac (take n1 A)) 256 mq)):Int) tA (.s 1 (.cl 152 false [] (.fn fH (@b7 (Va (getD (ac (take n1 A)) 256 mq)) (U0 (getD (ac (take n1 A)) 256 mq)) GK (by(exact(oA _).2)))) (.s 16 (.op (↑(U0 (getD (ac (take n1 A)) 256 mq)):Int) tA (.s 23 (.chk (true&&U5 (length (a9 T1 T2 (ac (take n1 A)) (ac (take n2 B)) H5 l k)*2) (length (flatMap bb (a9 T1 T2 (ac (take n1 A)) (ac (take n2 B)) H5 l k)))&&true&&true&&true&&true&&U7 ((length (a9 T1 T2 (ac (take n1 A)) (ac (take n2 B)) H5 l k)+2)*16) 140737488355328) DK (.s 9 (.out [16,(1200+sh d)] [16,(1200+sh d)] (Vh 0 0 0) [U1 [U6 1 1 0 (length (a9 T1 T2 (ac (take n1 A)) (ac (take n2 B)) H5 l k)+2) 2] 123 false,U1 (flatMap bb (a9 T1 T2 (ac (take n1 A)) (ac (take n2 B)) H5 l k)++[ak (fI (Va (getD (ac (take n1 A)) 256 mq)) (U0 (getD (ac (take n1 A)) 256 mq))),zN (U0 (getD (ac (take n1 A)) 256 mq)),uI 0,zI 0]) 126 true] R (ok _ _ wr (by(rw[U2,de];rfl)))))))))))))))))))))))))))))))))))))))) (λ p7=>have p7f:=ap p7;(.s 7 (.cl 142 false [] (.fn wG (@kS (T1) aF om om (Tn.long (getD l 0 mq)) tA tA)) (.s 35 (.chk (true&&decide ((↑(257+ao T1 (Tn.long (getD l 0 mq))):Int)<(n1:Int))) LZ (.s 2 (.chk (U7 (0+(257+ao T1 (Tn.long (getD l 0 mq)))*2+2) (length (flatMap dq (ac (take n1 A))))) DJ (.lst (take 2 (drop (0+(257+ao T1 (Tn.long (getD l 0 mq)))*2) (flatMap dq (ac (take n1 A))))) ([ak (Va (getD (ac (take n1 A)) (257+ao T1 (Tn.long (getD l 0 mq))) mq)),bl (U0 (getD (ac (take n1 A)) (257+ao T1 (Tn.long (getD l 0 mq))) mq))]) (aD (k:=2) (i:=257+ao T1 (Tn.long (getD l 0 mq))) (λ _=>rfl) tA om) (.s 18 (.op (↑(U0 (getD (ac (take n1 A)) (257+ao T1 (Tn.long (getD l 0 mq))) mq)):Int) tA (.s 1 (.cl 152 false [] (.fn fH (@b7 (Va (getD (ac (take n1 A)) (257+ao T1 (Tn.long (getD l 0 mq))) mq)) (U0 (getD (ac (take n1 A)) (257+ao T1 (Tn.long (getD l 0 mq))) mq)) GK (by(exact(oA _).2)))) (.s 16 (.op (↑(U0 (getD (ac (take n1 A)) (257+ao T1 (Tn.long (getD l 0 mq))) mq)):Int) tA (.s 4 (.opt (ax .u32 (↑(Tn.long (getD l 0 mq)-Sy.least (getD T1 (ao T1 (Tn.long (getD l 0 mq))) mq)):Int)) (ak (Tn.long (getD l 0 mq)-Sy.least (getD T1 (ao T1 (Tn.long (getD l 0 mq))) mq))) (aE tA) (.s 18 (.chk (true&&U5 (length H5*2) (length (flatMap bb H5))&&true&&true&&true&&true&&U7 ((length H5+2)*16) 140737488355328) DK (.s 14 (.cl 143 false [] (.fn wH (@pn (T2) aF om om (Tn.dist (getD l 0 mq)) tA tA)) (.s 34 (.chk (true&&decide ((↑(ao T2 (Tn.dist (getD l 0 mq))):Int)<(n2:Int))) LZ (.s 2 (.chk (U7 (0+ao T2 (Tn.dist (getD l 0 mq))*2+2) (length (flatMap dq (ac (take n2 B))))) DJ (.lst (take 2 (drop (0+ao T2 (Tn.dist (getD l 0 mq))*2) (flatMap dq (ac (take n2 B))))) ([ak (Va (getD (ac (take n2 B)) (ao T2 (Tn.dist (getD l 0 mq))) mq)),bl (U0 (getD (ac (take n2 B)) (ao T2 (Tn.dist (getD l 0 mq))) mq))]) (aD (k:=2) (i:=ao T2 (Tn.dist (getD l 0 mq))) (λ _=>rfl) tA om) (.s 18 (.op (↑(U0 (getD (ac (take n2 B)) (ao T2 (Tn.dist (getD l 0 mq))) mq)):Int) tA (.s 1 (.cl 152 false [] (.fn fH (@b7 (Va (getD (ac (take n2 B)) (ao T2 (Tn.dist (getD l 0 mq))) mq)) (U0 (getD (ac (take n2 B)) (ao T2 (Tn.dist (getD l 0 mq))) mq)) L0 (by(exact(oB _).2)))) (.s 16 (.op (↑(U0 (getD (ac (take n2 B)) (ao T2 (Tn.dist (getD l 0 mq))) mq)):Int) tA (.s 4 (.opt (ax .u32 (↑(Tn.dist (getD l 0 mq)-Sy.least (getD T2 (ao T2 (Tn.dist (getD l 0 mq))) mq)):Int)) (ak (Tn.dist (getD l 0 mq)-Sy.least (getD T2 (ao T2 (Tn.dist (getD l 0 mq))) mq))) (aE tA) (.s 18 (.chk (true&&U5 ((length H5+2)*2) (length (flatMap bb H5++[ak (fI (Va (getD (ac (take n1 A)) (257+ao T1 (Tn.long (getD l 0 mq))) mq)) (U0 (getD (ac (take n1 A)) (257+ao T1 (Tn.long (getD l 0 mq))) mq))),zN (U0 (getD (ac (take n1 A)) (257+ao T1 (Tn.long (getD l 0 mq))) mq)),ak (Tn.long (getD l 0 mq)-Sy.least (getD T1 (ao T1 (Tn.long (getD l 0 mq))) mq)),zN (Sy.bits (getD T1 (ao T1 (Tn.long (getD l 0 mq))) mq))]))&&true&&true&&true&&true&&U7 ((length H5+2+2)*16) 140737488355328) zy (.s 11 (.blk 16 16 (U1 [U6 (1976+sh d) (1976+sh d) 0 (length H5+2+2) 2] 123 false) (U1 [U6 (1976+sh d) (1976+sh d) 0 (length (a9 T1 T2 (ac (take n1 A)) (ac (take n2 B)) H5 l 1)) 2] 123 false) (by(rw[gT (i:=0) om om,jF,U2];rfl)) (.blk (1976+sh d) (1976+sh d) (U1 (flatMap bb H5++[ak (fI (Va (getD (ac (take n1 A)) (257+ao T1 (Tn.long (getD l 0 mq))) mq)) (U0 (getD (ac (take n1 A)) (257+ao T1 (Tn.long (getD l 0 mq))) mq))),zN (U0 (getD (ac (take n1 A)) (257+ao T1 (Tn.long (getD l 0 mq))) mq)),ak (Tn.long (getD l 0 mq)-Sy.least (getD T1 (ao T1 (Tn.long (getD l 0 mq))) mq)),zN (Sy.bits (getD T1 (ao T1 (Tn.long (getD l 0 mq))) mq))]++[ak (fI (Va (getD (ac (take n2 B)) (ao T2 (Tn.dist (getD l 0 mq))) mq)) (U0 (getD (ac (take n2 B)) (ao T2 (Tn.dist (getD l 0 mq))) mq))),zN (U0 (getD (ac (take n2 B)) (ao T2 (Tn.dist (getD l 0 mq))) mq)),ak (Tn.dist (getD l 0 mq)-Sy.least (getD T2 (ao T2 (Tn.dist (getD l 0 mq))) mq)),zN (Sy.bits (getD T2 (ao T2 (Tn.dist (getD l 0 mq))) mq))]) 126 true) (U1 (flatMap bb (a9 T1 T2 (ac (take n1 A)) (ac (take n2 B)) H5 l 1)) 126 true) (by(refine aB ?_;rw[gT (i:=0) om om,jF,de,de,Ve];rfl)) (Hn.inl T_ok ah false 53 (736+sh d) (aq Tryz.prog 106 0) (λ(x:(i:Nat)×'(hi:1<=i∧i<=k)×'Unit)=>match x with|⟨i,hi,_⟩=>Vn [(1,WJ (VU 115) [] [Vh (576+sh d) (576+sh d) 0,Vh (688+sh d) (688+sh d) 0,Vh (624+sh d) (624+sh d) 0]),(10,Vl false k 3 (flatMap b5 l)),(11,zN k),(12,nD i)] [⟨16,16,16,16,.b ⟨[(U6 (840+sh d) (840+sh d) (0) ((a9 T1 T2 (ac (A.take n1)) (ac (B.take n2)) H5 l i).length) 2)],123,false⟩⟩,⟨(96+sh d),(96+sh d),(96+sh d),(96+sh d),.b ⟨[ak e,zI 1,uI 2,zI 2],126,false⟩⟩,⟨(256+sh d),(256+sh d),(256+sh d),(256+sh d),.b ⟨map dB L,5,true⟩⟩,⟨(257+sh d),(257+sh d),(257+sh d),(257+sh d),.b ⟨map dB F,5,true⟩⟩,⟨(400+sh d),(400+sh d),(400+sh d),(400+sh d),.b ⟨map dB A,5,true⟩⟩,⟨(408+sh d),(408+sh d),(408+sh d),(408+sh d),.b ⟨map dB B,5,true⟩⟩,⟨(416+sh d),(416+sh d),(416+sh d),(416+sh d),.b ⟨flatMap ce R0,187,true⟩⟩,⟨(432+sh d),(432+sh d),(432+sh d),(432+sh d),.b ⟨flatMap dq (ac C),210,true⟩⟩,⟨(576+sh d),(576+sh d),(576+sh d),(576+sh d),.b ⟨[Vh 16 16 0],105,false⟩⟩,⟨(592+sh d),(592+sh d),(592+sh d),(592+sh d),.b ⟨flatMap dq (ac (take n1 A)),210,true⟩⟩,⟨(624+sh d),(624+sh d),(624+sh d),(624+sh d),.b ⟨[U6 (592+sh d) (592+sh d) 0 n1 2],189,false⟩⟩,⟨(656+sh d),(656+sh d),(656+sh d),(656+sh d),.b ⟨flatMap dq (ac (take n2 B)),210,true⟩⟩,⟨(688+sh d),(688+sh d),(688+sh d),(688+sh d),.b ⟨[U6 (656+sh d) (656+sh d) 0 n2 2],189,false⟩⟩,⟨(840+sh d),(840+sh d),(1976+sh d),(1976+sh d),.b ⟨(a9 T1 T2 (ac (A.take n1)) (ac (B.take n2)) H5 l i).flatMap bb,126,true⟩⟩] (848+sh d)) (λ(x:(i:Nat)×'(hi:1<=i∧i<=k)×'Unit)=>match x with|⟨i,hi,_⟩=>k-i) [⟨Unit,.exit 0,λ x=>match x with|()=>Vn [(1,WJ (VU 115) [] [Vh (576+sh d) (576+sh d) 0,Vh (688+sh d) (688+sh d) 0,Vh (624+sh d) (624+sh d) 0]),(10,Vl false k 3 (flatMap b5 l)),(11,zN k),(12,nD k)] [⟨16,16,16,16,.b ⟨[(U6 (840+sh d) (840+sh d) (0) ((a9 T1 T2 (ac (A.take n1)) (ac (B.take n2)) H5 l k).length) 2)],123,false⟩⟩,⟨(96+sh d),(96+sh d),(96+sh d),(96+sh d),.b ⟨[ak e,zI 1,uI 2,zI 2],126,false⟩⟩,⟨(256+sh d),(256+sh d),(256+sh d),(256+sh d),.b ⟨map dB L,5,true⟩⟩,⟨(257+sh d),(257+sh d),(257+sh d),(257+sh d),.b ⟨map dB F,5,true⟩⟩,⟨(400+sh d),(400+sh d),(400+sh d),(400+sh d),.b ⟨map dB A,5,true⟩⟩,⟨(408+sh d),(408+sh d),(408+sh d),(408+sh d),.b ⟨map dB B,5,true⟩⟩,⟨(416+sh d),(416+sh d),(416+sh d),(416+sh d),.b ⟨flatMap ce R0,187,true⟩⟩,⟨(432+sh d),(432+sh d),(432+sh d),(432+sh d),.b ⟨flatMap dq (ac C),210,true⟩⟩,⟨(576+sh d),(576+sh d),(576+sh d),(576+sh d),.b ⟨[Vh 16 16 0],105,false⟩⟩,⟨(592+sh d),(592+sh d),(592+sh d),(592+sh d),.b ⟨flatMap dq (ac (take n1 A)),210,true⟩⟩,⟨(624+sh d),(624+sh d),(624+sh d),(624+sh d),.b ⟨[U6 (592+sh d) (592+sh d) 0 n1 2],189,false⟩⟩,⟨(656+sh d),(656+sh d),(656+sh d),(656+sh d),.b ⟨flatMap dq (ac (take n2 B)),210,true⟩⟩,⟨(688+sh d),(688+sh d),(688+sh d),(688+sh d),.b ⟨[U6 (656+sh d) (656+sh d) 0 n2 2],189,false⟩⟩,⟨(840+sh d),(840+sh d),(1976+sh d),(1976+sh d),.b ⟨(a9 T1 T2 (ac (A.take n1)) (ac (B.take n2)) H5 l k).flatMap bb,126,true⟩⟩] (848+sh d)⟩] 1000 64 (fun|⟨i,hi,_⟩,Q,ZA,ZD=>(.s 2 (.bd ((i:Int)<k) (λ p10 p10f=>(.s 1 (.chk (true&&decide ((i:Int)<k)&&true) zy (.s 2 (.chk (U7 (i*3+3) (length (flatMap b5 l))) GL (.lst (take 3 (drop (i*3) (flatMap b5 l))) ([bl (U3 (Tn.lit (getD l i mq))),zN (Tn.dist (getD l i mq)),zN (Tn.long (getD l i mq))]) (aD (k:=3) (i:=i) (λ _=>rfl) om om) (.s 13 (.br ((↑(Tn.long (getD l i mq)):Int)==0) (λ p11=>have p11f:=eq_of_beq p11;(.s 8 (.op (↑(U3 (Tn.lit (getD l i mq))):Int) DH (.s 18 (.chk (true&&decide ((↑(U3 (Tn.lit (getD l i mq))):Int)<(n1:Int))) GM (.s 2 (.chk (U7 (0+U3 (Tn.lit (getD l i mq))*2+2) (length (flatMap dq (ac (take n1 A))))) A6 (.lst (take 2 (drop (0+U3 (Tn.lit (getD l i mq))*2) (flatMap dq (ac (take n1 A))))) ([ak (Va (getD (ac (take n1 A)) (U3 (Tn.lit (getD l i mq))) mq)),bl (U0 (getD (ac (take n1 A)) (U3 (Tn.lit (getD l i mq))) mq))]) (aD (k:=2) (i:=U3 (Tn.lit (getD l i mq))) (λ _=>rfl) iq om) (.s 18 (.op (↑(U0 (getD (ac (take n1 A)) (U3 (Tn.lit (getD l i mq))) mq)):Int) iq (.s 1 (.cl 152 false [] (.fn fH (@b7 (Va (getD (ac (take n1 A)) (U3 (Tn.lit (getD l i mq))) mq)) (U0 (getD (ac (take n1 A)) (U3 (Tn.lit (getD l i mq))) mq)) GK (by(exact(oA _).2)))) (.s 16 (.op (↑(U0 (getD (ac (take n1 A)) (U3 (Tn.lit (getD l i mq))) mq)):Int) iq (.s 23 (.chk (true&&U5 (length (a9 T1 T2 (ac (take n1 A)) (ac (take n2 B)) H5 l i)*2) (length (flatMap bb (a9 T1 T2 (ac (take n1 A)) (ac (take n2 B)) H5 l i)))&&true&&true&&true&&true&&U7 ((length (a9 T1 T2 (ac (take n1 A)) (ac (take n2 B)) H5 l i)+2)*16) 140737488355328) GN (.s 9 (.ow (i+1) (.s 1 (.val 12 (zI (i+1)) (zN (i+1)) EW (.blk 16 16 (U1 [U6 (1288+sh d) (1288+sh d) 0 (length (a9 T1 T2 (ac (take n1 A)) (ac (take n2 B)) H5 l i)+2) 2] 123 false) (U1 [U6 (1288+sh d) (1288+sh d) 0 (length (a9 T1 T2 (ac (take n1 A)) (ac (take n2 B)) H5 l (i+1))) 2] 123 false) (by(rw[fL om om,U2];rfl)) (.blk (1288+sh d) (1288+sh d) (U1 (flatMap bb (a9 T1 T2 (ac (take n1 A)) (ac (take n2 B)) H5 l i)++[ak (fI (Va (getD (ac (take n1 A)) (U3 (Tn.lit (getD l i mq))) mq)) (U0 (getD (ac (take n1 A)) (U3 (Tn.lit (getD l i mq))) mq))),zN (U0 (getD (ac (take n1 A)) (U3 (Tn.lit (getD l i mq))) mq)),uI 0,zI 0]) 126 true) (U1 (flatMap bb (a9 T1 T2 (ac (take n1 A)) (ac (take n2 B)) H5 l (i+1))) 126 true) (by(refine aB ?_;rw[fL om om,de];rfl)) (Hn.next ZA ⟨(i+1),om,⟨⟩⟩ A5 [(16,16),((96+sh d),(96+sh d)),((256+sh d),(256+sh d)),((257+sh d),(257+sh d)),((400+sh d),(400+sh d)),((408+sh d),(408+sh d)),((416+sh d),(416+sh d)),((432+sh d),(432+sh d)),((576+sh d),(576+sh d)),((592+sh d),(592+sh d)),((624+sh d),(624+sh d)),((656+sh d),(656+sh d)),((688+sh d),(688+sh d)),((1288+sh d),(1288+sh d))] n7))))))))))))))))))))))) (λ p11=>have p11f:=ap p11;(.s 7 (.cl 142 false [] (.fn wG (@kS (T1) aF om om (Tn.long (getD l i mq)) iq iq)) (.s 35 (.chk (true&&decide ((↑(257+ao T1 (Tn.long (getD l i mq))):Int)<(n1:Int))) Jr (.s 2 (.chk (U7 (0+(257+ao T1 (Tn.long (getD l i mq)))*2+2) (length (flatMap dq (ac (take n1 A))))) A6 (.lst (take 2 (drop (0+(257+ao T1 (Tn.long (getD l i mq)))*2) (flatMap dq (ac (take n1 A))))) ([ak (Va (getD (ac (take n1 A)) (257+ao T1 (Tn.long (getD l i mq))) mq)),bl (U0 (getD (ac (take n1 A)) (257+ao T1 (Tn.long (getD l i mq))) mq))]) (aD (k:=2) (i:=257+ao T1 (Tn.long (getD l i mq))) (λ _=>rfl) iq om) (.s 18 (.op (↑(U0 (getD (ac (take n1 A)) (257+ao T1 (Tn.long (getD l i mq))) mq)):Int) iq (.s 1 (.cl 152 false [] (.fn fH (@b7 (Va (getD (ac (take n1 A)) (257+ao T1 (Tn.long (getD l i mq))) mq)) (U0 (getD (ac (take n1 A)) (257+ao T1 (Tn.long (getD l i mq))) mq)) GK (by(exact(oA _).2)))) (.s 16 (.op (↑(U0 (getD (ac (take n1 A)) (257+ao T1 (Tn.long (getD l i mq))) mq)):Int) iq (.s 4 (.opt (ax .u32 (↑(Tn.long (getD l i mq)-Sy.least (getD T1 (ao T1 (Tn.long (getD l i mq))) mq)):Int)) (ak (Tn.long (getD l i mq)-Sy.least (getD T1 (ao T1 (Tn.long (getD l i mq))) mq))) (aE iq) (.s 18 (.chk (true&&U5 (length (a9 T1 T2 (ac (take n1 A)) (ac (take n2 B)) H5 l i)*2) (length (flatMap bb (a9 T1 T2 (ac (take n1 A)) (ac (take n2 B)) H5 l i)))&&true&&true&&true&&true&&U7 ((length (a9 T1 T2 (ac (take n1 A)) (ac (take n2 B)) H5 l i)+2)*16) 140737488355328) GN (.s 14 (.cl 143 false [] (.fn wH (@pn (T2) aF om om (Tn.dist (getD l i mq)) iq iq)) (.s 34 (.chk (true&&decide ((↑(ao T2 (Tn.dist (getD l i mq))):Int)<(n2:Int))) Jr (.s 2 (.chk (U7 (0+ao T2 (Tn.dist (getD l i mq))*2+2) (length (flatMap dq (ac (take n2 B))))) A6 (.lst (take 2 (drop (0+ao T2 (Tn.dist (getD l i mq))*2) (flatMap dq (ac (take n2 B))))) ([ak (Va (getD (ac (take n2 B)) (ao T2 (Tn.dist (getD l i mq))) mq)),bl (U0 (getD (ac (take n2 B)) (ao T2 (Tn.dist (getD l i mq))) mq))]) (aD (k:=2) (i:=ao T2 (Tn.dist (getD l i mq))) (λ _=>rfl) iq om) (.s 18 (.op (↑(U0 (getD (ac (take n2 B)) (ao T2 (Tn.dist (getD l i mq))) mq)):Int) iq (.s 1 (.cl 152 false [] (.fn fH (@b7 (Va (getD (ac (take n2 B)) (ao T2 (Tn.dist (getD l i mq))) mq)) (U0 (getD (ac (take n2 B)) (ao T2 (Tn.dist (getD l i mq))) mq)) L0 (by(exact(oB _).2)))) (.s 16 (.op (↑(U0 (getD (ac (take n2 B)) (ao T2 (Tn.dist (getD l i mq))) mq)):Int) iq (.s 4 (.opt (ax .u32 (↑(Tn.dist (getD l i mq)-Sy.least (getD T2 (ao T2 (Tn.dist (getD l i mq))) mq)):Int)) (ak (Tn.dist (getD l i mq)-Sy.least (getD T2 (ao T2 (Tn.dist (getD l i mq))) mq))) (aE iq) (.s 18 (.chk (true&&U5 ((length (a9 T1 T2 (ac (take n1 A)) (ac (take n2 B)) H5 l i)+2)*2) (length (flatMap bb (a9 T1 T2 (ac (take n1 A)) (ac (take n2 B)) H5 l i)++[ak (fI (Va (getD (ac (take n1 A)) (257+ao T1 (Tn.long (getD l i mq))) mq)) (U0 (getD (ac (take n1 A)) (257+ao T1 (Tn.long (getD l i mq))) mq))),zN (U0 (getD (ac (take n1 A)) (257+ao T1 (Tn.long (getD l i mq))) mq)),ak (Tn.long (getD l i mq)-Sy.least (getD T1 (ao T1 (Tn.long (getD l i mq))) mq)),zN (Sy.bits (getD T1 (ao T1 (Tn.long (getD l i mq))) mq))]))&&true&&true&&true&&true&&U7 ((length (a9 T1 T2 (ac (take n1 A)) (ac (take n2 B)) H5 l i)+2+2)*16) 140737488355328) Qr (.s 9 (.ow (i+1) (.s 1 (.val 12 (zI (i+1)) (zN (i+1)) EW (.blk 16 16 (U1 [U6 (2064+sh d) (2064+sh d) 0 (length (a9 T1 T2 (ac (take n1 A)) (ac (take n2 B)) H5 l i)+2+2) 2] 123 false) (U1 [U6 (2064+sh d) (2064+sh d) 0 (length (a9 T1 T2 (ac (take n1 A)) (ac (take n2 B)) H5 l (i+1))) 2] 123 false) (by(rw[gT om om,U2];rfl)) (.blk (2064+sh d) (2064+sh d) (U1 (flatMap bb (a9 T1 T2 (ac (take n1 A)) (ac (take n2 B)) H5 l i)++[ak (fI (Va (getD (ac (take n1 A)) (257+ao T1 (Tn.long (getD l i mq))) mq)) (U0 (getD (ac (take n1 A)) (257+ao T1 (Tn.long (getD l i mq))) mq))),zN (U0 (getD (ac (take n1 A)) (257+ao T1 (Tn.long (getD l i mq))) mq)),ak (Tn.long (getD l i mq)-Sy.least (getD T1 (ao T1 (Tn.long (getD l i mq))) mq)),zN (Sy.bits (getD T1 (ao T1 (Tn.long (getD l i mq))) mq))]++[ak (fI (Va (getD (ac (take n2 B)) (ao T2 (Tn.dist (getD l i mq))) mq)) (U0 (getD (ac (take n2 B)) (ao T2 (Tn.dist (getD l i mq))) mq))),zN (U0 (getD (ac (take n2 B)) (ao T2 (Tn.dist (getD l i mq))) mq)),ak (Tn.dist (getD l i mq)-Sy.least (getD T2 (ao T2 (Tn.dist (getD l i mq))) mq)),zN (Sy.bits (getD T2 (ao T2 (Tn.dist (getD l i mq))) mq))]) 126 true) (U1 (flatMap bb (a9 T1 T2 (ac (take n1 A)) (ac (take n2 B)) H5 l (i+1))) 126 true) Qs (Hn.next ZA ⟨(i+1),om,⟨⟩⟩ A5 [(16,16),((96+sh d),(96+sh d)),((256+sh d),(256+sh d)),((257+sh d),(257+sh d)),((400+sh d),(400+sh d)),((408+sh d),(408+sh d)),((416+sh d),(416+sh d)),((432+sh d),(432+sh d)),((576+sh d),(576+sh d)),((592+sh d),(592+sh d)),((624+sh d),(624+sh d)),((656+sh d),(656+sh d)),((688+sh d),(688+sh d)),((2064+sh d),(2064+sh d))] n7)))))))))))))))))))))))))))))))))))))))))))))))))) (λ p10 p10f=>(.val 12 (zN i) (zN k) Js (.blk 16 16 (U1 [U6 (840+sh d) (840+sh d) 0 (length (a9 T1 T2 (ac (take n1 A)) (ac (take n2 B)) H5 l i)) 2] 123 false) (U1 [U6 (840+sh d) (840+sh d) 0 (length (a9 T1 T2 (ac (take n1 A)) (ac (take n2 B)) H5 l k)) 2] 123 false) Js (.blk (840+sh d) (840+sh d) (U1 (flatMap bb (a9 T1 T2 (ac (take n1 A)) (ac (take n2 B)) H5 l i)) 126 true) (U1 (flatMap bb (a9 T1 T2 (ac (take n1 A)) (ac (take n2 B)) H5 l k)) 126 true) Js (Hn.last ZD 0 (():Unit) rfl [(16,16),((96+sh d),(96+sh d)),((256+sh d),(256+sh d)),((257+sh d),(257+sh d)),((400+sh d),(400+sh d)),((408+sh d),(408+sh d)),((416+sh d),(416+sh d)),((432+sh d),(432+sh d)),((576+sh d),(576+sh d)),((592+sh d),(592+sh d)),((624+sh d),(624+sh d)),((656+sh d),(656+sh d)),((688+sh d),(688+sh d)),((840+sh d),(840+sh d))] n7)))))))) (fun|⟨i,hi,_⟩=>by cases d<;>kernel_rfl) ⟨(1),om,⟨⟩⟩ [(16,16),((96+sh d),(96+sh d)),((256+sh d),(256+sh d)),((257+sh d),(257+sh d)),((400+sh d),(400+sh d)),((408+sh d),(408+sh d)),((416+sh d),(416+sh d)),((432+sh d),(432+sh d)),((576+sh d),(576+sh d)),((592+sh d),(592+sh d)),((624+sh d),(624+sh d)),((656+sh d),(656+sh d)),((688+sh d),(688+sh d)),((1976+sh d),(1976+sh d))] n7 (ck (fun|()=>(.s 19 (.chk (true&&decide (256<(n1:Int))) L4 (.s 2 (.chk (U7 514 (length (flatMap dq (ac (take n1 A))))) DJ (.lst (take 2 (drop 512 (flatMap dq (ac (take n1 A))))) ([ak (Va (getD (ac (take n1 A)) 256 mq)),bl (U0 (getD (ac (take n1 A)) 256 mq))]) (aD (k:=2) (i:=256) (λ _=>rfl) om om) (.s 18 (.op (↑(U0 (getD (ac (take n1 A)) 256 mq)):Int) tA (.s 1 (.cl 152 false [] (.fn fH (@b7 (Va (getD (ac (take n1 A)) 256 mq)) (U0 (getD (ac (take n1 A)) 256 mq)) GK (by(exact(oA _).2)))) (.s 16 (.op (↑(U0 (getD (ac (take n1 A)) 256 mq)):Int) tA (.s 23 (.chk (true&&U5 (length (a9 T1 T2 (ac (take n1 A)) (ac (take n2 B)) H5 l k)*2) (length (flatMap bb (a9 T1 T2 (ac (take n1 A)) (ac (take n2 B)) H5 l k)))&&true&&true&&true&&true&&U7 ((length (a9 T1 T2 (ac (take n1 A)) (ac (take n2 B)) H5 l k)+2)*16) 140737488355328) DK (.s 9 (.out [16,(1200+sh d)] [16,(1200+sh d)] (Vh 0 0 0) [U1 [U6 1 1 0 (length (a9 T1 T2 (ac (take n1 A)) (ac (take n2 B)) H5 l k)+2) 2] 123 false,U1 (flatMap bb (a9 T1 T2 (ac (take n1 A)) (ac (take n2 B)) H5 l k)++[ak (fI (Va (getD (ac (take n1 A)) 256 mq)) (U0 (getD (ac (take n1 A)) 256 mq))),zN (U0 (getD (ac (take n1 A)) 256 mq)),uI 0,zI 0]) 126 true] R (ok _ _ wr (by(rw[U2,de];rfl))))))))))))))))))))))))))))))))))))))))))))))))))))))))))))))))))) (λ p6 p6f=>(.s 19 (.chk (true&&decide (256<(n1:Int))) L4 (.s 2 (.chk (U7 514 (length (flatMap dq (ac (take n1 A))))) (by(rw[gI];refine U8 ?_;(omega))) (.lst (take 2 (drop 512 (flatMap dq (ac (take n1 A))))) ([ak (Va (getD (ac (take n1 A)) 256 mq)),bl (U0 (getD (ac (take n1 A)) 256 mq))]) (aD (k:=2) (i:=256) (λ _=>rfl) om om) (.s 18 (.op (↑(U0 (getD (ac (take n1 A)) 256 mq)):Int) (by(have y3:=oA 256;omega)) (.s 1 (.cl 152 false [] (.fn fH (@b7 (Va (getD (ac (take n1 A)) 256 mq)) (U0 (getD (ac (take n1 A)) 256 mq)) GK (by(exact(oA _).2)))) (.s 16 (.op (↑(U0 (getD (ac (take n1 A)) 256 mq)):Int) (by(have y3:=oA 256;omega)) (.s 23 (.chk (true&&U5 (length H5*2) (length (flatMap bb H5))&&true&&true&&true&&true&&U7 ((length H5+2)*16) 140737488355328) DK (.s 9 (.out [16,(1120+sh d)] [16,(1120+sh d)] (Vh 0 0 0) [U1 [U6 1 1 0 (length H5+2) 2] 123 false,U1 (flatMap bb H5++[ak (fI (Va (getD (ac (take n1 A)) 256 mq)) (U0 (getD (ac (take n1 A)) 256 mq))),zN (U0 (getD (ac (take n1 A)) 256 mq)),uI 0,zI 0]) 126 true] R (ok _ _ wr (by(rw[show k=0 from by omega,jF,U2,de];rfl))))))))))))))))))))) .nil))))))))))))))))))))))))))))))))))))))))))))))))))))))))))))))))))))))))))))))))))))))))):Hn Tryz.prog)) (λ t h=>SpecH.run T_ok ah Tryz.func65 rfl rfl rfl ⟨rfl,gi (λ _=>rfl) _,trivial⟩ rfl 1000 64 (λ R ok=>.s 43 (t true 1 H H3 H4 H5 hH hH3 hH4 hH5 R ok)) h) (λ t h=>SpecH.run T_ok ah Tryz.func65 rfl rfl rfl ⟨rfl,gi (λ _=>rfl) _,trivial⟩ rfl 1000 64 (λ R ok=>.s 42 (t false 0 H' H3' H4' H5' hH' hH3' hH4' hH5' R ok)) h) kr kr
theorem Qt (l:List Tn)(k:Nat)(hk:k=l.length)(hk2:k<=65535)(hl:∀i,ef (l.getD i mq))(T1 T2:List Sy)(hT1:T1=aw)(hT2:T2=aC)(hl1:T1.length=29)(hl2:T2.length=30)(hz1:b6 T1)(hz2:b6 T2)(W1 W2:List Nat)(A B:Z1)(n1 n2:Nat)(R0:List Rn)(W3:List Nat)(C O:Z1)(n3:Nat)(D:DyV T1 T2 l k W1 W2 A B n1 n2 R0 W3 C O n3)(L F:Z1)(hL:L=bE)(hF:F=cY)(H H3 H4 H5:List Nm)(hH:H=kx 1 2)(hH3:H3=H++[⟨n1-257,5⟩,⟨n2-1,5⟩,⟨n3-4,4⟩])(hH4:f8 H3 jL (O.take n3) n3=H4)(hH5:f8 H4 (lX (ac C)) R0 R0.length=H5)(a:Nat)(ha:a<=7)(raw:Z1)(r:Nat)(hr:r=raw.length)(hr2:r<=65535):S0 65 [nD a,fP 2,.sl false r 1 (raw.map dB),.sl false k 3 (l.flatMap b5),.v (.bool true)] [] (.ptr 0 0 0) [⟨[.ref 1 1 0 ((a9 T1 T2 (ac (A.take n1)) (ac (B.take n2)) H5 l k)++f6 (ac (A.take n1)) 256 0 0).length 2], 123,false⟩,⟨((a9 T1 T2 (ac (A.take n1)) (ac (B.take n2)) H5 l k)++f6 (ac (A.take n1)) 256 0 0).flatMap bb, 126,true⟩]:=(Jt l k hk hk2 hl T1 T2 hT1 hT2 hl1 hl2 hz1 hz2 W1 W2 A B n1 n2 R0 W3 C O n3 D L F hL hF a ha raw r hr hr2 H H3 H4 H5 hH hH3 hH4 hH5 _ _ _ _ rfl rfl rfl rfl).1
theorem Qu (l:List Tn)(k:Nat)(hk:k=l.length)(hk2:k<=65535)(hl:∀i,ef (l.getD i mq))(T1 T2:List Sy)(hT1:T1=aw)(hT2:T2=aC)(hl1:T1.length=29)(hl2:T2.length=30)(hz1:b6 T1)(hz2:b6 T2)(W1 W2:List Nat)(A B:Z1)(n1 n2:Nat)(R0:List Rn)(W3:List Nat)(C O:Z1)(n3:Nat)(D:DyV T1 T2 l k W1 W2 A B n1 n2 R0 W3 C O n3)(L F:Z1)(hL:L=bE)(hF:F=cY)(H H3 H4 H5:List Nm)(hH:H=kx 0 2)(hH3:H3=H++[⟨n1-257,5⟩,⟨n2-1,5⟩,⟨n3-4,4⟩])(hH4:f8 H3 jL (O.take n3) n3=H4)(hH5:f8 H4 (lX (ac C)) R0 R0.length=H5)(a:Nat)(ha:a<=7)(raw:Z1)(r:Nat)(hr:r=raw.length)(hr2:r<=65535):S0 65 [nD a,fP 2,.sl false r 1 (raw.map dB),.sl false k 3 (l.flatMap b5),.v (.bool false)] [] (.ptr 0 0 0) [⟨[.ref 1 1 0 ((a9 T1 T2 (ac (A.take n1)) (ac (B.take n2)) H5 l k)++f6 (ac (A.take n1)) 256 0 0).length 2], 123,false⟩,⟨((a9 T1 T2 (ac (A.take n1)) (ac (B.take n2)) H5 l k)++f6 (ac (A.take n1)) 256 0 0).flatMap bb, 126,true⟩]:=(Jt l k hk hk2 hl T1 T2 hT1 hT2 hl1 hl2 hz1 hz2 W1 W2 A B n1 n2 R0 W3 C O n3 D L F hL hF a ha raw r hr hr2 _ _ _ _ rfl rfl rfl rfl H H3 H4 H5 hH hH3 hH4 hH5).2
theorem RW {p:Prop}(h:p:=by rw[n8];decide+kernel):p:=h
def TM (e:Nat)(l:List Tn):List Nm:=lk l (a9 aw aC (ac bE) (ac cY) (kx e 1) l l.length++f6 (ac bE) 256 0 0)
theorem i4 (e:Nat)(l:List Tn):TM e l=a9 aw aC (ac bE) (ac cY) (kx e 1) l l.length++f6 (ac bE) 256 0 0:=au _ _
def dk (l:List Tn):Z1:=lk l (vq (b9 (bB 286 (dI aw l l.length++[256])) 15) 257)
def eQ (l:List Tn):Z1:=lk l (vq (b9 (bB 30 (f7 aC l l.length)) 15) 1)
def mP (l:List Tn):List Rn:=lk l (yE (dk l++eQ l))
def jf (l:List Tn):Z1:=lk l (b9 (bB 19 ((mP l).map Rn.s)) 7)
def nl (l:List Tn):Z1:=lk l (vq (kX (jf l) 19) 4)
def zz (e:Nat)(l:List Tn):List Nm:=lk l (f8 (f8 (kx e 2++[⟨(dk l).length-257,5⟩,⟨(eQ l).length-1,5⟩,⟨(nl l).length-4,4⟩]) jL (nl l) (nl l).length) (lX (ac (jf l))) (mP l) (mP l).length)
def TN (e:Nat)(l:List Tn):List Nm:=lk l (a9 aw aC (ac (dk l)) (ac (eQ l)) (zz e l) l l.length++f6 (ac (dk l)) 256 0 0)
theorem tB (l:List Tn):dk l=vq (b9 (bB 286 (dI aw l l.length++[256])) 15) 257:=au _ _
theorem tC (l:List Tn):eQ l=vq (b9 (bB 30 (f7 aC l l.length)) 15) 1:=au _ _
theorem DM (l:List Tn):mP l=yE (dk l++eQ l):=au _ _
theorem DN (l:List Tn):jf l=b9 (bB 19 ((mP l).map Rn.s)) 7:=au _ _
theorem pJ (l:List Tn):nl l=vq (kX (jf l) 19) 4:=au _ _
theorem mQ (e:Nat)(l:List Tn):zz e l=f8 (f8 (kx e 2++[⟨(dk l).length-257,5⟩,⟨(eQ l).length-1,5⟩,⟨(nl l).length-4,4⟩]) jL (nl l) (nl l).length) (lX (ac (jf l))) (mP l) (mP l).length:=au _ _
theorem i5 (e:Nat)(l:List Tn):TN e l=a9 aw aC (ac (dk l)) (ac (eQ l)) (zz e l) l l.length++f6 (ac (dk l)) 256 0 0:=au _ _
theorem i6 (l:Z1)(m:Nat):vq l m=l.take (jE l m):=mK l m
theorem xd (l:List Tn):DyV aw aC l l.length (bB 286 (dI aw l l.length++[256])) (bB 30 (f7 aC l l.length)) (b9 (bB 286 (dI aw l l.length++[256])) 15) (b9 (bB 30 (f7 aC l l.length)) 15) (jE (b9 (bB 286 (dI aw l l.length++[256])) 15) 257) (jE (b9 (bB 30 (f7 aC l l.length)) 15) 1) (mP l) (bB 19 ((mP l).map Rn.s)) (jf l) (kX (jf l) 19) (jE (kX (jf l) 19) 4):=
 ⟨rfl,rfl,⟨rfl⟩,⟨rfl⟩,⟨rfl⟩,⟨rfl⟩,⟨by rw[DM,tB,tC,i6,i6]⟩,rfl,⟨(DN l).symm⟩,rfl,⟨rfl⟩⟩
def nB (a kd:Nat)(raw:Z1)(l:List Tn)(e:Nat):List Nm:=lk [()] (if kd=0 then nj e a raw else if kd=1 then TM e l else TN e l)
theorem gW (a kd:Nat)(raw:Z1)(l:List Tn)(e:Nat):nB a kd raw l e=if kd=0 then nj e a raw else if kd=1 then TM e l else TN e l:=au _ _
theorem dj:aG bE 15=0:=by decide+kernel
theorem fC:aG cY 15=0:=by decide+kernel
def vG (X:List Nm):Prop:=∀x∈X,x.v<2^x.n∧x.n<=32
theorem gK {X Y:List Nm}(h1:vG X)(h2:vG Y):vG (X++Y):=λ x hx=>(List.mem_append.1 hx).elim (h1 x) (h2 x)
theorem xe {α:Type}{g:α->List Nm}:∀{l:List α},(∀x∈l,vG (g x))->vG (l.flatMap g):=fun{l} h x hx=>by
 obtain⟨y,hy,hx⟩:=List.mem_flatMap.1 hx;exact h y hy x hx
theorem cU {x:Nm}{X:List Nm}(h:x.v<2^x.n∧x.n<=32)(h2:vG X):vG (x::X):=λ y hy=>(List.mem_cons.1 hy).elim (λ e=>by rw[e];exact h) (h2 y)
theorem lZ:vG []:=λ x hx=>absurd hx List.not_mem_nil
theorem L5 {X:List Nm}(h:vG X)(i:Nat):(X.getD i mq).v<2^(X.getD i mq).n∧(X.getD i mq).n<=32:=by
 rw[UZ]
 cases hq:X[i]? with
 |none=>exact⟨by decide,Vf rfl⟩
 |some x=>exact h x (We hq)
theorem mR {C:List (Nat×Nat)}(hC:pm C)(s:Nat){n x:Nat}(hx:x<2^n)(hn:n<=32):vG (f6 C s n x):=
 cU ⟨wQ _ _,Vq (hC s).1 (by decide)⟩ (cU ⟨hx,hn⟩ lZ)
theorem DO {e k:Nat}(he:e<=1)(hk:k<=3):vG (kx e k):=cU ⟨show e<2^1 by omega,Vf rfl⟩ (cU ⟨show k<2^2 by omega,Vf rfl⟩ lZ)
theorem L6 {T:List Sy}(h:T.all (λ y=>decide (y.many<=2^y.bits))=true)(i:Nat):i<T.length->(T.getD i mq).many<=2^(T.getD i mq).bits:=λ hi=>by
 rw[UZ,U4 hi];exact of_decide_eq_true (List.all_eq_true.1 h _ (V3 hi))
theorem vH {T:List Sy}(h:T.all (λ y=>decide (y.many<=2^y.bits))=true){n:Nat}(hi:ao T n<T.length):n-(T.getD (ao T n) mq).least<2^(T.getD (ao T n) mq).bits:=by
 have q:=Cl (T:=T) (n:=n) T.length 0 (by rw[<-kO];omega);rw[<-kO]at q;have p:=L6 h _ hi;omega
theorem mS:aw.all (λ y=>decide (y.many<=2^y.bits))=true:=by decide+kernel
theorem pK:aC.all (λ y=>decide (y.many<=2^y.bits))=true:=by decide+kernel
theorem L7 {A B:List (Nat×Nat)}(hA:pm A)(hB:pm B){t:Tn}(h:ef t):vG (mG aw aC A B t):=by
 unfold mG
 split
 ·exact mR hA _ (by decide) (by decide)
 ·next h0=>
  have te:=bK rfl rfl h h0;have s1:=cm (ao aw t.long);have s2:=cG (ao aC t.dist);exact gK (mR hA _ (vH mS te.1) om) (mR hB _ (vH pK te.2) om)
theorem zA {A B:List (Nat×Nat)}(hA:pm A)(hB:pm B){H:List Nm}(hH:vG H){l:List Tn}(hl:∀t∈l,ef t):vG (a9 aw aC A B H l l.length):=by
 rw[fg];exact gK hH (xe λ t ht=>L7 hA hB (hl t (Ww ht)))
theorem zB {l:List Tn}(hl:∀i,ef (l.getD i mq)):∀t∈l,ef t:=λ t ht=>by
 obtain⟨i,hi⟩:=Wc ht;have:=hl i
 rwa [UZ,hi]at this
theorem tD (a:Nat):gv a<=7:=by rw[lE];omega
theorem DP {e a:Nat}{raw:Z1}(he:e<=1)(hr:raw.length<=65535):vG (nj e a raw):=by
 unfold nj;rw[fK];have:=tD a;refine gK (cU ⟨show e<2^1 by omega,Vf rfl⟩ (cU ⟨by decide,Vf rfl⟩ (cU ⟨WD _,by show gv a<=32;omega⟩ (cU ⟨show raw.length<2^16 by omega,Vf rfl⟩ (cU ⟨show 65535-raw.length<2^16 by omega,Vf rfl⟩ lZ))))) λ x hx=>?_
 obtain⟨y,hy,rfl⟩:=List.mem_map.1 hx;exact⟨y.toNat_lt,Vf rfl⟩
structure DyG (l:List Tn):Prop where
 f:DyF (bB 286 (dI aw l l.length++[256])) (bB 30 (f7 aC l l.length)) (b9 (bB 286 (dI aw l l.length++[256])) 15) (b9 (bB 30 (f7 aC l l.length)) 15) (jE (b9 (bB 286 (dI aw l l.length++[256])) 15) 257) (jE (b9 (bB 30 (f7 aC l l.length)) 15) 1) (mP l) (bB 19 ((mP l).map Rn.s)) (jf l) (kX (jf l) 19) (jE (kX (jf l) 19) 4)
 lL:(dk l).length=jE (b9 (bB 286 (dI aw l l.length++[256])) 15) 257
 lB:(eQ l).length=jE (b9 (bB 30 (f7 aC l l.length)) 15) 1
 lO:(nl l).length=jE (kX (jf l) 19) 4
 cL:aG (dk l) 15=0
 cB:aG (eQ l) 15=0
 oL:pm (ac (dk l))
 oB:pm (ac (eQ l))
theorem DQ (l:List Tn)(hk:l.length<=65535):DyG l:=by
 have F:=(xd l).f rfl hk;have eL:dk l=(b9 (bB 286 (dI aw l l.length++[256])) 15).take (jE (b9 (bB 286 (dI aw l l.length++[256])) 15) 257):=by rw[tB,i6]
 have eB:eQ l=(b9 (bB 30 (f7 aC l l.length)) 15).take (jE (b9 (bB 30 (f7 aC l l.length)) 15) 1):=by rw[tC,i6]
 have eO:nl l=(kX (jf l) 19).take (jE (kX (jf l) 19) 4):=by rw[pJ,i6]
 exact⟨F,by rw[eL];exact F.lA2,by rw[eB];exact F.lB2,by rw[eO];exact F.lO2,by rw[eL];exact F.cA,by rw[eB];exact F.cB,by rw[eL];exact F.oA,by rw[eB];exact F.oB⟩
theorem zC {e:Nat}{l:List Tn}(he:e<=1)(hk:l.length<=65535):vG (zz e l):=by
 have G:=DQ l hk;have F:=G.f;rw[mQ,jK,jK];have k1:=F.k1;have k2:=F.k2;have k3:=F.k3;refine gK (gK (gK (DO he (by decide)) (cU ⟨show(dk l).length-257<2^5 by rw[G.lL];omega,Vf rfl⟩ (cU ⟨show(eQ l).length-1<2^5 by rw[G.lB];omega,Vf rfl⟩ (cU ⟨show(nl l).length-4<2^4 by rw[G.lO];omega,Vf rfl⟩ lZ)))) (xe λ x hx=>cU ⟨?_,Vf rfl⟩ lZ)) (xe λ r hr=>?_)
 ·obtain⟨i,hi⟩:=Wc (Ww hx)
  have q:=F.bO i;have e1:(kX (jf l) 19).getD i mq=x:=by
   rw[pJ,i6]at hi;have hi2:=(V0▸hi:(if i<_ then(kX (jf l) 19)[i]? else none)=some x)
   split at hi2
   ·rw[UZ,hi2];rfl
   ·cases hi2
  rw[e1]at q;show x.toNat<2^3;omega
 ·obtain⟨i,hi⟩:=Wc (Ww hr)
  have q:=F.oR i;have e1:(mP l).getD i mq=r:=by rw[UZ,hi];rfl
  rw[e1]at q;exact mR F.oC _ q.2 (Vq (dp _).2 (by decide))
theorem L8 {a kd:Nat}{raw:Z1}{l:List Tn}{e:Nat}(he:e<=1)(hr:raw.length<=65535)(hk:l.length<=65535)(hl:∀i,ef (l.getD i mq)):vG (nB a kd raw l e):=by
 rw[gW]
 split
 ·exact DP he hr
 ·split
  ·rw[i4]
   exact gK (zA (fj dj) (fj fC) (DO he (by decide)) (zB hl)) (mR (fj dj) _ (by decide) (by decide))
  ·have G:=DQ l hk
   rw[i5];exact gK (zA G.oL G.oB (zC he hk) (zB hl)) (mR G.oL _ (by decide) (by decide))
theorem zD {e:Nat}{l:List Tn}(hk:l.length<=65535):(zz e l).length<=1000:=by
 have G:=DQ l hk;have F:=G.f;rw[mQ,lW (c:=2) (λ _=>rfl) _ (Vd _),lW (c:=1) (λ _=>rfl) _ (Vd _),U2];have:=F.lR;have:=F.k3;have:=G.lO;show 2+3+_+_<=_;omega
theorem GO {a kd:Nat}{raw:Z1}{l:List Tn}{e:Nat}(hr:raw.length<=65535)(hk:l.length<=65535):(nB a kd raw l e).length<=1000000:=by
 rw[gW]
 split
 ·unfold nj;rw[lF (Vd _)];omega
 ·split
  ·rw[i4,U2]
   have:=cH (T1:=aw) (T2:=aC) (A:=ac bE) (B:=ac cY) (H:=kx e 1) (l:=l) l.length (Vd _);have e2:(kx e 1).length=2:=rfl;have e3:(f6 (ac bE) 256 0 0).length=2:=rfl;omega
  ·rw[i5,U2]
   have:=cH (T1:=aw) (T2:=aC) (A:=ac (dk l)) (B:=ac (eQ l)) (H:=zz e l) (l:=l) l.length (Vd _);have e2:=zD (e:=e) hk;have e3:(f6 (ac (dk l)) 256 0 0).length=2:=rfl;omega
theorem TO (a kd:Nat)(ha:a<=7)(hkd:kd<=2)(raw:Z1)(hr2:raw.length<=65535)(l:List Tn)(hk2:l.length<=65535)(hl:∀i,ef (l.getD i mq))(last:Bool):S0 65 [nD a,fP kd,.sl false raw.length 1 (raw.map dB),.sl false l.length 3 (l.flatMap b5),bD last] [] (.ptr 0 0 0) [⟨[.ref 1 1 0 (nB a kd raw l (if last then 1 else 0)).length 2], 123,false⟩,⟨(nB a kd raw l (if last then 1 else 0)).flatMap bb, 126,true⟩]:=by
 rw[gW]
 by_cases h0:kd=0
 ·subst h0
  rw[ZF rfl];have e5:(nj (if last then 1 else 0) a raw).length=5+raw.length:=by unfold nj;exact lF (Vd _)
  rw[e5]
  cases last
  ·exact Pg l.length (l.flatMap b5) (gk l) a ha raw _ rfl hr2 _ _ rfl rfl
  ·exact Pf l.length (l.flatMap b5) (gk l) a ha raw _ rfl hr2 _ _ rfl rfl
 ·rw[ZE h0]
  by_cases h1:kd=1
  ·subst h1
   rw[ZF rfl,i4];have q1:=fj dj;have q2:=fj fC
   cases last
   ·exact Pp l _ rfl hk2 hl _ _ rfl rfl (by decide) (by decide) cm cG _ _ rfl rfl (by decide+kernel) (by decide+kernel) dj fC RW RW q1 q2 _ rfl rfl a ha raw _ rfl hr2
   ·exact Po l _ rfl hk2 hl _ _ rfl rfl (by decide) (by decide) cm cG _ _ rfl rfl (by decide+kernel) (by decide+kernel) dj fC RW RW q1 q2 _ rfl rfl a ha raw _ rfl hr2
  ·have h2:kd=2:=by omega
   subst h2;rw[ZE h1,i5];have G:=DQ l hk2;have e1:zz (if last then 1 else 0) l=f8 (f8 (kx (if last then 1 else 0) 2++[⟨jE (b9 (bB 286 (dI aw l l.length++[256])) 15) 257-257,5⟩,⟨jE (b9 (bB 30 (f7 aC l l.length)) 15) 1-1,5⟩,⟨jE (kX (jf l) 19) 4-4,4⟩]) jL ((kX (jf l) 19).take (jE (kX (jf l) 19) 4)) (jE (kX (jf l) 19) 4)) (lX (ac (jf l))) (mP l) (mP l).length:=by
    rw[mQ,G.lL,G.lB,G.lO,pJ,i6]
   have eL:dk l=(b9 (bB 286 (dI aw l l.length++[256])) 15).take (jE (b9 (bB 286 (dI aw l l.length++[256])) 15) 257):=by rw[tB,i6]
   have eB:eQ l=(b9 (bB 30 (f7 aC l l.length)) 15).take (jE (b9 (bB 30 (f7 aC l l.length)) 15) 1):=by rw[tC,i6]
   rw[eL,eB]
   cases last
   ·exact Qu l _ rfl hk2 hl _ _ rfl rfl (by decide) (by decide) cm cG _ _ _ _ _ _ _ _ _ _ _ (xd l) _ _ rfl rfl _ _ _ _ rfl rfl rfl e1.symm a ha raw _ rfl hr2
   ·exact Qt l _ rfl hk2 hl _ _ rfl rfl (by decide) (by decide) cm cG _ _ _ _ _ _ _ _ _ _ _ (xd l) _ _ rfl rfl _ _ _ _ rfl rfl rfl e1.symm a ha raw _ rfl hr2
def bt (b:Z1)(p:Nat):Bool:=(b.getD (p/8) mq).toNat.testBit (p%8)
theorem zE (b:Z1)(p:Nat):mz b p=(bt b p).toNat:=by
 unfold mz bt;rw[XL];have:=Yw ((b.getD (p/8) mq).toNat/2^(p%8)) (show 0<2 by decide)
 by_cases h:(b.getD (p/8) mq).toNat/2^(p%8)%2=1
 ·rw[h];rfl
 ·rw[show(b.getD (p/8) mq).toNat/2^(p%8)%2=0 from by omega];rfl
def Sb (b:Z1):Nat->List Bool->Prop
 |_,[]=>True
 |p,x::X=>bt b p=x∧Sb b (p+1) X
structure St (b:Z1)(p:Nat)(X:List Bool):Prop where
 n:p+X.length<=8*b.length
 s:Sb b p X
theorem Sb.app {b:Z1}:∀{p:Nat} {X Y:List Bool},Sb b p (X++Y)->Sb b p X∧Sb b (p+X.length) Y
 |_,[],_,h=>⟨trivial,h⟩
 |p,x::X,Y,h=>by
  obtain⟨h1,h2⟩:=h;obtain⟨h3,h4⟩:=Sb.app h2;refine⟨⟨h1,h3⟩,?_⟩;rw[VE,show p+(X.length+1)=p+1+X.length from by omega];exact h4
theorem Sb.at {b:Z1}:∀{p:Nat} {X:List Bool} {i:Nat},Sb b p X->i<X.length->bt b (p+i)=X.getD i false
 |_,[],_,_,h=>absurd h (Ws _)
 |p,x::X,0,h,_=>h.1
 |p,x::X,i+1,h,hi=>by
  have:=Sb.at (i:=i) h.2 (by simpa using hi);rw[show p+(i+1)=p+1+i from by omega,this];rfl
theorem Sb.of {b:Z1}:∀{p:Nat} {X:List Bool},(∀i,i<X.length->bt b (p+i)=X.getD i false)->Sb b p X
 |_,[],_=>trivial
 |p,x::X,h=>⟨h 0 (Nat.zero_lt_succ _),Sb.of λ i hi=>by
   have:=h (i+1) (by rw[VE];omega);rw[show p+1+i=p+(i+1)from by omega,this];rfl⟩
theorem St.app {b:Z1}{p:Nat}{X Y:List Bool}(h:St b p (X++Y)):St b p X∧St b (p+X.length) Y:=by
 have h1:=h.n;rw[U2]at h1;exact⟨⟨by omega,h.s.app.1⟩,⟨by omega,h.s.app.2⟩⟩
theorem vI:∀(X:List Bool) (i:Nat),(cX X).testBit i=X.getD i false
 |[],i=>by rw[cX,Nat.zero_testBit];rfl
 |x::X,0=>by
  rw[cX,Nat.testBit_zero]
  cases x
  ·simp
  ·simp
 |x::X,i+1=>by
  have hx:=Bool.toNat_le x;rw[cX,Nat.testBit_succ,show(x.toNat+2*cX X)/2=cX X from by omega,vI X i];rfl
theorem Qv (l:List Bool)(more:Z1):St (pk l++more) 0 l:=by
 refine⟨by rw[U2,am];omega,Sb.of λ i hi=>?_⟩;rw[VK];unfold bt;have h1:(pk l++more).getD (i/8) mq=AP l (i/8):=by
  rw[UZ,Vz (by rw[am];omega),kP om];rfl
 have h2:=wP l (i/8);rw[h1];unfold AP;rw[WQ,Wq (show cX ((l.drop (8*(i/8))).take 8)<2^8 from h2),vI,UZ,UZ,V0,ZF om,List.getElem?_drop,show 8*(i/8)+i%8=i from by omega]
section
variable {b:Z1} {p:Nat}
theorem zF {v:Nat}:∀{n:Nat},Sb b p (nb v n)->fU b p n=v%2^n
 |0,_=>by rw[fU,YT,Nat.mod_one]
 |n+1,h=>by
  rw[sB]at h;obtain⟨h1,h2⟩:=h.app;rw[bf]at h2;have h3:mz b (p+n)=v/2^n%2:=by
   rw[zE,h2.1,XL];have:=Yw (v/2^n) (show 0<2 by decide)
   by_cases q:v/2^n%2=1
   ·rw[q];rfl
   ·rw[show v/2^n%2=0 from by omega];rfl
  rw[fU,zF h1,h3,V8,Nat.mod_mul]
theorem Qw {v n:Nat}(hv:v<2^n)(h:St b p (nb v n)):gG b p n=v∧kV b p n=0:=by
 have h1:=h.n;rw[bf]at h1;exact⟨by rw[yv om,zF h.s,Wq hv],Cc om⟩
theorem Ju (l:Z1)(n:Nat):∀k,2^k*jd l n<=jd l (n+k)
 |0=>by rw[YT,Zu];exact Vd _
 |k+1=>by
  have:=Ju l n k;rw[V8,WR _ 2,WA,<-Wh,jd];omega
theorem L9 (l:Z1)(n k:Nat)(hk:0<k):2^k*(jd l n+aa l n)<=jd l (n+k):=by
 obtain⟨j,rfl⟩:∃j,k=j+1:=⟨k-1,by omega⟩
 have:=Ju l (n+1) j;rw[jd]at this;rw[show n+(j+1)=n+1+j from by omega,V8,WA];exact this
theorem Qx {l:Z1}{s L:Nat}(ho:dn l 15=false)(hs:s<l.length)(hL:(l.getD s mq).toNat=L)(h0:0<L)(hc:kQ l s<2^L)(h:St b p (nb (fI (kQ l s) L) L)):fZ b l p=(s,p+L,0):=by
 have hL15:L<=15:=hL▸dN ho hs;have hca:=yM hL om hL15;have hn:=h.n;rw[bf]at hn;have hbit:∀k,k<L->gG b (p+k) 1=kQ l s/2^(L-1-k)%2:=λ k hk=>by
  have e:=h.s.at (i:=k) (by rw[bf];exact hk)
  rw[IF,UZ,List.getElem?_reverse (by rw[bf];exact hk),bf,pb,Vu,List.getElem?_range om]at e;rw[yv om,fU,fU,VK,YT,Zu,Xe,zE,e];show(Nat.testBit (kQ l s) (L-1-k)).toNat=_;rw[XL];have:=Yw (kQ l s/2^(L-1-k)) (show 0<2 by decide)
  by_cases q:kQ l s/2^(L-1-k)%2=1
  ·rw[q];rfl
  ·rw[show kQ l s/2^(L-1-k)%2=0 from by omega];rfl
 have key:∀k,k<=L->∃d,K7 b l k d (p+k)=fZ b l p∧kQ l s/2^(L-k)=jd l k+d:=by
  intro k
  induction k with
  |zero=>intro _;exact⟨0,OQ b l p,by rw[Nat.sub_zero,Nat.div_eq_of_lt hc];rfl⟩
  |succ k ih=>
   intro hk;obtain⟨d,h1,h2⟩:=ih om;have h3:=L9 l k (L-k) om;rw[show k+(L-k)=L from by omega]at h3;have h4:jd l k+aa l k<=kQ l s/2^(L-k):=by
    rw[Nat.le_div_iff_mul_le (WD _),WR];omega
   have hm:(aJ l k).length+aa l k≠(af l).length:=(wU ho om).2 ⟨s,hs,by omega⟩;obtain⟨_,h5⟩:=OR (n:=k) om om h1 hm (Cc om);refine⟨_,h5,?_⟩;have h6:=SP (b:=b) (c:=p+k) h2 om;rw[<-h6,hbit k om];have h7:kQ l s/2^(L-k)=kQ l s/2^(L-1-k)/2:=by
    rw[show L-k=L-1-k+1 from by omega,V8,Nat.div_div_eq_div_mul]
   rw[h7,show L-(k+1)=L-1-k from by omega];omega
 obtain⟨d,h1,h2⟩:=key L (Vd _);rw[Wn,YT,Nat.div_one]at h2;exact SO hL15 h2 h1 hs hL h0 rfl
end
def bs (X:List Nm):List Bool:=X.flatMap λ x=>nb x.v x.n
theorem cg (X Y:List Nm):bs (X++Y)=bs X++bs Y:=List.flatMap_append
theorem bC (x:Nm)(X:List Nm):bs (x::X)=nb x.v x.n++bs X:=List.flatMap_cons
theorem gX:bs []=[]:=rfl
theorem zG {l:Z1}{a:Nat}:∀(f n:Nat),(∀i,i<n->l.getD (a+i) mq=l.getD a mq)->∀i,i<uR l a f n->l.getD (a+i) mq=l.getD a mq
 |0,_,h=>h
 |f+1,n,h=>by
  rw[uR]
  split
  ·next q=>
   refine zG f (n+1) λ i hi=>?_
   rcases VL i n with z|z
   ·exact h i z
   ·rw[show i=n from by omega];exact q.2
  ·exact h
theorem GP {l:Z1}{a i:Nat}(h:i<cI l a):l.getD (a+i) mq=l.getD a mq:=by
 rw[wM]at h;exact zG _ 0 (λ i hi=>absurd hi (Ws _)) i h
theorem vJ {l:Z1}{a:Nat}{v:UInt8}:∀{k:Nat},a+k<=l.length->(∀i,i<k->l.getD (a+i) mq=v)->l.take (a+k)=l.take a++Vk k v
 |0,_,_=>by rw[Xe,List.replicate_zero,VS]
 |k+1,h,h2=>by
  have e:=h2 k om;rw[UZ,U4 om]at e;have e:l[a+k]=v:=e;rw[<-Wh,VT om,vJ (k:=k) om (λ i hi=>h2 i om),List.replicate_succ',e,Ve]
theorem Ma {N:Nat}{r:Rn}{q:List Rn}{o:Z1}(h1:r.s<=18)(h2:r.x<p2 r.s)(h3:r.s=16->0<o.length)(h4:o.length+bh r<=N):cq N (r::q) o=cq N q (o++Vk (bh r) (aS r o)):=by
 rw[cq,ZE om,ZE (λ z=>by have:=h3 z.1;omega),ZE om]
theorem A7 {l:Z1}{a i:Nat}(h:i<a):(l.take a).getD i mq=l.getD i mq:=by
 rw[UZ,UZ,V0,ZF h]
theorem l6 (x:UInt8):V6 x.toNat=x:=UInt8.ofNat_toNat
def DR (r:Rn):Prop:=r.s<=18∧r.x<p2 r.s
theorem DS {l:Z1}{N:Nat}(hN:N=l.length)(hl:∀i,i<N->(l.getD i mq).toNat<=15):∀(f a:Nat),N<=a+f->a<=N->cq N (ku l f a) (l.take a)=(l,0)∧∀r∈ku l f a,DR r
 |0,a,h1,h2=>by
  refine⟨?_,λ r h=>by cases h⟩;rw[ku,cq,Vg,ZF om,VB om]
 |f+1,a,h1,h2=>by
  have tl:(l.take a).length=a:=by rw[Vg];omega
  rw[ku]
  by_cases c0:l.length<=a
  ·rw[ZF c0]
   refine⟨?_,λ r h=>by cases h⟩;rw[cq,tl,ZF om,VB om]
  rw[ZE c0];have hb:=nh (l:=l) (a:=a) om;have e18:p2 18=128:=rfl;have e17:p2 17=8:=rfl;have e16:p2 16=4:=rfl;have hall:=λ i (h:i<cI l a)=>GP h
  have step:∀(r:Rn) (k:Nat),bh r=k->k<=cI l a->1<=k->r.s<=18->r.x<p2 r.s->(r.s=16->0<a)->aS r (l.take a)=l.getD a mq->cq N (r::ku l f (a+k)) (l.take a)=(l,0)∧∀x∈r::ku l f (a+k),DR x:=λ r k e1 e2 e3 e4 e5 e6 e7=>by
   have ih:=DS hN hl f (a+k) om om;refine⟨?_,λ x hx=>?_⟩
   ·rw[Ma e4 e5 (by rw[tl];exact e6) (by rw[tl];omega),e1,e7,<-vJ om (λ i hi=>hall i om)]
    exact ih.1
   ·rcases List.mem_cons.1 hx with rfl|q
    ·exact⟨e4,e5⟩
    ·exact ih.2 x q
  by_cases c1:(l.getD a mq).toNat=0∧11<=cI l a
  ·rw[ZF c1]
   have e0:l.getD a mq=0:=UInt8.toNat_inj.1 (c1.1.trans rfl);exact step _ _ (by show min (cI l a) 138-11+11=_;omega) om om (by show 18<=18;omega) (by show min (cI l a) 138-11<p2 18;omega) (λ q=>by cases q) (by rw[e0];rfl)
  rw[ZE c1]
  by_cases c2:(l.getD a mq).toNat=0∧3<=cI l a
  ·rw[ZF c2]
   have e0:l.getD a mq=0:=UInt8.toNat_inj.1 (c2.1.trans rfl);exact step _ _ (by show cI l a-3+3=_;omega) om om (by show 17<=18;omega) (by show cI l a-3<p2 17;omega) (λ q=>by cases q) (by rw[e0];rfl)
  rw[ZE c2]
  by_cases c3:0<(l.getD a mq).toNat∧0<a∧(l.getD (a-1) mq).toNat=(l.getD a mq).toNat∧3<=cI l a
  ·rw[ZF c3]
   refine step _ _ (by show min (cI l a) 6-3+3=_;omega) om om (by show 16<=18;omega) (by show min (cI l a) 6-3<p2 16;omega) (λ _=>c3.2.1) ?_;show(l.take a).getD ((l.take a).length-1) mq=_;rw[tl,A7 om];exact UInt8.toNat_inj.1 c3.2.2.1
  rw[ZE c3];have h15:=hl a om;have e1:bh ⟨(l.getD a mq).toNat,0⟩=1:=by unfold bh;rw[ZE (by show¬(l.getD a mq).toNat=16;omega),ZE (by show¬(l.getD a mq).toNat=17;omega),ZE (by show¬(l.getD a mq).toNat=18;omega)]
  refine step _ 1 e1 om om (by show(l.getD a mq).toNat<=18;omega) (by show 0<2^_;exact WD _) (λ q=>by have q:(l.getD a mq).toNat=16:=q;omega) ?_;unfold aS;rw[ZE (by show¬(l.getD a mq).toNat=16;omega),ZF (by show(l.getD a mq).toNat<16;omega)];exact l6 _
theorem Mb {l:Z1}{N:Nat}(hN:N=l.length)(hl:∀i,i<N->(l.getD i mq).toNat<=15):cv N (yE l)=(l,0)∧∀r∈yE l,DR r:=by
 rw[iS,sw];have h:=DS hN hl l.length 0 om (VI _)
 rwa [List.take_zero]at h
structure Rs where
 p:Nat
 e:Nat
def fl (s:Rs)(c:Bool)(x:Nat):Rs:=if s.e=0∧c=false then⟨s.p,x⟩else s
def bA (b:Z1)(m:Nat)(s:Rs):Rs:=lk b (if s.e=0 then⟨s.p+m,kV b s.p m⟩else s)
def aY (b:Z1)(m:Nat)(s:Rs):Nat:=lk b (if s.e=0 then gG b s.p m else 0)
def bk (b l:Z1)(s:Rs):Rs:=lk b (if s.e=0 then⟨(fZ b l s.p).2.1,(fZ b l s.p).2.2⟩else s)
def aN (b l:Z1)(s:Rs):Nat:=lk b (if s.e=0 then(fZ b l s.p).1 else 0)
theorem GQ {s:Rs}{c:Bool}{x:Nat}(h:s.e≠0):fl s c x=s:=ZE λ q=>h q.1
theorem fM {s:Rs}{x:Nat}:fl s true x=s:=ZE λ q=>by cases q.2
theorem DT {s:Rs}{x:Nat}(h:s.e=0):fl s false x=⟨s.p,x⟩:=ZF ⟨h,rfl⟩
theorem xf (s:Rs)(c:Bool)(x:Nat):(fl s c x).p=s.p:=by unfold fl;split<;>rfl
theorem xg {s:Rs}{c:Bool}{x:Nat}(hx:x≠0)(h:(fl s c x).e=0):s.e=0∧c=true∧fl s c x=s:=by
 unfold fl at *
 split at h
 ·exact absurd h hx
 ·next q=>
  refine⟨h,?_,ZE q⟩
  cases c
  ·exact absurd ⟨h,rfl⟩ q
  ·rfl
theorem rA {b:Z1}{m:Nat}{s:Rs}(h:s.e≠0):bA b m s=s:=(au _ _).trans (ZE h)
theorem pL {b:Z1}{m:Nat}{s:Rs}(h:s.e=0):bA b m s=⟨s.p+m,kV b s.p m⟩:=(au _ _).trans (ZF h)
theorem Jv {b:Z1}{m:Nat}{s:Rs}(h:s.e≠0):aY b m s=0:=(au _ _).trans (ZE h)
theorem DU {b:Z1}{m:Nat}{s:Rs}(h:s.e=0):aY b m s=gG b s.p m:=(au _ _).trans (ZF h)
theorem vK {b l:Z1}{s:Rs}(h:s.e≠0):bk b l s=s:=(au _ _).trans (ZE h)
theorem vL {b l:Z1}{s:Rs}(h:s.e=0):bk b l s=⟨(fZ b l s.p).2.1,(fZ b l s.p).2.2⟩:=(au _ _).trans (ZF h)
theorem Jw {b l:Z1}{s:Rs}(h:s.e≠0):aN b l s=0:=(au _ _).trans (ZE h)
theorem DV {b l:Z1}{s:Rs}(h:s.e=0):aN b l s=(fZ b l s.p).1:=(au _ _).trans (ZF h)
theorem bP (b:Z1)(m:Nat)(s:Rs):aY b m s<2^m:=by
 by_cases h:s.e=0
 ·rw[DU h];exact wI _ _ _
 ·rw[Jv h];exact WD m
def bc (n:Nat)(s:Rs):Prop:=s.e=0->s.p<=8*n
theorem bc.fl {n:Nat}{s:Rs}(h:bc n s)(c:Bool)(x:Nat):bc n (fl s c x):=λ q=>by
 rw[xf];refine h ?_;unfold Vp.fl at q;split at q
 ·next y=>exact y.1
 ·exact q
theorem DW {b:Z1}{p m:Nat}(h:kV b p m=0):p+m<=8*b.length:=by
 rcases VL (8*b.length) (p+m)with q|q
 ·rw[Ip q]at h;cases h
 ·exact q
theorem bc.tk {b:Z1}{s:Rs}(h:bc b.length s)(m:Nat):bc b.length (bA b m s):=λ q=>by
 by_cases h0:s.e=0
 ·rw[pL h0]at q ⊢;exact DW q
 ·rw[rA h0]at q;exact absurd q h0
theorem DX {b l:Z1}:∀(k a d p:Nat),(pd b l k a d p).2.2=0->p<(pd b l k a d p).2.1∧(pd b l k a d p).2.1<=8*b.length
 |0,_,_,_,h=>by cases h
 |k+1,a,d,p,h=>by
  rw[pd]at h ⊢
  split
  ·next q=>rw[ZF q]at h;cases h
  ·next q=>
   rw[ZE q]at h
   split
   ·next q2=>rw[ZF q2]at h;cases h
   ·next q2=>
    rw[ZE q2]at h;have hp:=DW (b:=b) (p:=p) (m:=1) om
    split
    ·exact⟨by show p<p+1;omega,by show p+1<=_;omega⟩
    ·next q3=>
     rw[ZE q3]at h;have:=DX k _ _ _ h;omega
theorem xh {b l:Z1}{p:Nat}(h:(fZ b l p).2.2=0):p<(fZ b l p).2.1∧(fZ b l p).2.1<=8*b.length:=by
 rw[sG]at *;exact DX _ _ _ _ h
theorem bc.sy {b:Z1}{s:Rs}(h:bc b.length s)(l:Z1):bc b.length (bk b l s):=λ q=>by
 by_cases h0:s.e=0
 ·rw[vL h0]at q ⊢;exact(xh q).2
 ·rw[vK h0]at q;exact absurd q h0
theorem DY {b l:Z1}:∀(k a d p:Nat),(pd b l k a d p).1<l.length∨(pd b l k a d p).1=0
 |0,_,_,_=>.inr rfl
 |k+1,a,d,p=>by
  rw[pd]
  split
  ·exact .inr rfl
  ·split
   ·exact .inr rfl
   ·split
    ·show ZI _ _ _<_∨ZI _ _ _=0
     rw[UZ]
     cases h:(af l)[(aJ l a).length+aa l a+(2*(d-aa l a)+gG b p 1)]? with
     |none=>exact .inr rfl
     |some x=>exact .inl (CC x (We h))
    ·exact DY k _ _ _
theorem DZ (b l:Z1)(s:Rs):aN b l s<l.length∨aN b l s=0:=by
 by_cases h:s.e=0
 ·rw[DV h,sG];exact DY _ _ _ _
 ·rw[Jw h];exact .inr rfl
theorem TP {b:Z1}{p m:Nat}(h:m<=32):D.v (.int .i64 (IntKind.i64.wrap ((gG b p m:Nat):Int)))=nD (gG b p m):=by
 have h1:=wI b p m;have h2:2^m<=2^32:=VD (by decide) h;rw[OD om]
theorem Mc {s:Rs}{e:Nat}(h:s.e=0):(fl s (((e:Nat):Int)==0) e).e=e∧(fl s (((e:Nat):Int)==0) e).p=s.p:=by
 refine⟨?_,xf _ _ _⟩
 by_cases h0:e=0
 ·subst h0;show(fl s true 0).e=0;rw[fM];exact h
 ·rw[show((((e:Nat):Int)==0))=false from by simp;omega,DT h]
theorem TQ {b:Z1}{n:Nat}{s:Rs}{k:Nat}{t:TypeId}(hN:n<=1000000)(ho:s.e=0->s.p<=8*n)(h:s.e=0)(hk:k<=32):[(⟨[Vl false n 1 (b.map dB),D.v (.int .i64 (IntKind.i64.wrap (((fl s (((kV b s.p k:Nat):Int)==0) (kV b s.p k)).p:Nat)+(k:Int)))),D.v (.int .i64 (((fl s (((kV b s.p k:Nat):Int)==0) (kV b s.p k)).e:Nat):Int))],t,false⟩:Blk)]=[⟨[Vl false n 1 (b.map dB),nD (Rs.mk (s.p+k) (kV b s.p k)).p,nD (Rs.mk (s.p+k) (kV b s.p k)).e],t,false⟩]:=by
 have:=ho h;rw[(Mc h).1,(Mc h).2,OD om];rfl
theorem ci (b:Z1)(n:Nat)(hn:n=b.length)(hN:n<=1000000)(s:Rs)(c:Bool)(x:Int)(hx:0<=x):S1 73 [.ptr 0 0 0,bD c,iD x] [⟨[.sl false n 1 (b.map dB),nD (s).p,nD (s).e], 95,false⟩] (.tup []) [⟨[.sl false n 1 (b.map dB),nD (fl s c x.toNat).p,nD (fl s c x.toNat).e], 95,false⟩]:=by
 obtain⟨k,rfl⟩:=V5 hx;simp only[Wx];refine SpecH.run T_ok ah Tryz.func73 rfl rfl rfl ⟨rfl,trivial⟩ rfl 1000 64 (λ R ok=>(.s 12 (.br ((↑(Rs.e s):Int)==0) (λ p0=>have Z7:=eq_of_beq p0;(.s 3 (.br (!c) (λ p1=>have Z6:=(gE p1);(.s 9 (.out [0] [0] (V2 []) [U1 [Vl false n 1 (map dB b),zN (Rs.p s),zN k] 95 false] R (ok _ _ wr (by(unfold fl;simp_all<;>omega)))))) (λ p1=>have Z6:=(gF p1);(.out [0] [0] (V2 []) [U1 [Vl false n 1 (map dB b),zN (Rs.p s),zN (Rs.e s)] 95 false] R (ok _ _ wr (by(unfold fl;simp_all<;>omega)))))))) (λ p0=>have Z7:=ap p0;(.s 4 (.out [0] [0] (V2 []) [U1 [Vl false n 1 (map dB b),zN (Rs.p s),zN (Rs.e s)] 95 false] R (ok _ _ wr (by(cases c<;>first|rw[fM]|rw[GQ om]|rw[DT om]))))))))) kr
theorem fk (b:Z1)(n:Nat)(hn:n=b.length)(hN:n<=1000000)(s:Rs)(hs:bc n s)(m:Int)(hm:0<=m∧m<=32):S1 119 [.ptr 0 0 0,iD m] [⟨[.sl false n 1 (b.map dB),nD (s).p,nD (s).e], 95,false⟩] (nD (aY b m.toNat s)) [⟨[.sl false n 1 (b.map dB),nD (bA b m.toNat s).p,nD (bA b m.toNat s).e], 95,false⟩]:=by
 obtain⟨k,rfl⟩:=V5 hm.1;simp only[Wx];have ho:s.e=0->s.p<=8*n:=hs;refine SpecH.run T_ok ah Tryz.func119 rfl rfl rfl ⟨rfl,trivial⟩ rfl 1000 64 (λ R ok=>(.s 11 (.br ((↑(Rs.e s):Int) !=0) (λ p0=>have Z7:=cS p0;(.s 1 (.out [0] [0] (zI 0) [U1 [Vl false n 1 (map dB b),zN (Rs.p s),zN (Rs.e s)] 95 false] R (ok _ _ (by(rw[Jv om];rfl)) (by(rw[rA om])))))) (λ p0=>have Z7:=cT p0;(.s 19 (.cl 156 false [] (.fn N6 (@Co (b) (n) om om ((↑(Rs.p s):Int)) ((k:Int)) om om)) (.s 13 (.cl 73 true [0] (.fn jx (@ci (b) (n) om om (s) ((↑(kV b (Rs.p s) k):Int)==0) ((↑(kV b (Rs.p s) k):Int)) om)) (.s 11 (.opt (ax .i64 ((↑(Rs.p (fl s ((↑(kV b (Rs.p s) k):Int)==0) (kV b (Rs.p s) k))):Int)+(k:Int))) (zI (Vo VN ((↑(Rs.p (fl s ((↑(kV b (Rs.p s) k):Int)==0) (kV b (Rs.p s) k))):Int)+(k:Int)))) (aL _ _) (.s 9 (.opt (ax .i64 (↑(gG b (Rs.p s) k):Int)) (zI (Vo VN (↑(gG b (Rs.p s) k):Int))) (aL _ _) (.s 1 (.out [0] [0] (zI (Vo VN (↑(gG b (Rs.p s) k):Int))) [U1 [Vl false n 1 (map dB b),zI (Vo VN ((↑(Rs.p (fl s ((↑(kV b (Rs.p s) k):Int)==0) (kV b (Rs.p s) k))):Int)+(k:Int))),zN (Rs.e (fl s ((↑(kV b (Rs.p s) k):Int)==0) (kV b (Rs.p s) k)))] 95 false] R (ok _ _ (by(rw[DU om];exact TP om)) (by(rw[pL om];exact TQ hN ho om om))))))))))))))))) kr
def et (j:Nat)(d d':D):Prop:=∀(E:Env) (w:World) (u:Value),E.nm j->E.φ j=none->RD E w d u->RD E w d' u
def dS (j:Nat):List D->List D->Prop
 |[],[]=>True
 |a::r,b::q=>et j a b∧dS j r q
 |_,_=>False
theorem et.refl (j:Nat)(d:D):et j d d:=λ _ _ _ _ _ h=>h
theorem et.nil (j sz:Nat):et j dw (.ref j j 0 0 sz):=λ E w u h1 h2 h=>by cases h;exact .refn j j sz h1 h2
theorem dS.refl (j:Nat):∀l:List D,dS j l l
 |[]=>trivial
 |d::r=>⟨et.refl j d,dS.refl j r⟩
theorem dS.app {j:Nat}{c d:List D}:∀{a b:List D},dS j a b->dS j c d->dS j (a++c) (b++d)
 |[],[],_,h=>h
 |_::_,_::_,h1,h2=>⟨h1.1,dS.app h1.2 h2⟩
 |[],_::_,h1,_=>h1.elim
 |_::_,[],h1,_=>h1.elim
theorem dS.get {j:Nat}:∀{l l':List D},dS j l l'->l.length=l'.length∧∀(i:Nat) d',l'[i]? =some d'->∃d,l[i]? =some d∧et j d d'
 |[],[],_=>⟨rfl,λ i d' h=>by simp at h⟩
 |a::r,b::q,h=>by
  obtain⟨h1,h2⟩:=dS.get h.2;refine⟨by simp[h1],λ i d' hi=>?_⟩
  cases i with
  |zero=>cases hi;exact⟨a,rfl,h.1⟩
  |succ i=>exact h2 i d' (by simpa using hi)
 |[],_::_,h=>h.elim
 |_::_,[],h=>h.elim
theorem et.agg {j:Nat}{l l':List D}(h:dS j l l'):et j (.agg l) (.agg l'):=λ E w u a b hr=>by
 obtain⟨e,g⟩:=h.get
 cases hr with
 |agg _ us hl hd h1=>exact .agg _ us (by rw[hl,e]) (λ i d' v hd' hv=>by
   obtain⟨d,q1,q2⟩:=g i d' hd';exact q2 E w v a b (hd i d v q1 hv)) h1
theorem et.tup {j:Nat}{l l':List D}(h:dS j l l'):et j (.tup l) (.tup l'):=λ E w u a b hr=>by
 obtain⟨e,g⟩:=h.get
 cases hr with
 |tup _ us hl hd=>exact .tup _ us (by rw[hl,e]) (λ i d' v hd' hv=>by
   obtain⟨d,q1,q2⟩:=g i d' hd';exact q2 E w v a b (hd i d v q1 hv))
theorem SpecH.nilA {al:Bool}{P:Program}{f:FuncId}{ds:List D}{hin:List Blk}{r r':D}{bs:List Blk}(h:SpecH al P f ds hin r bs)(t:TypeId)(hr:et bs.length r r'):SpecH al P f ds hin r' (bs++[⟨[],t,true⟩]):=by
 refine⟨by rw[U2];exact Vq h.1 (XF _ _),λ O φ w args hO hh hi hl ha=>(h.2 O φ w args hO hh hi hl ha).mono ?_⟩;rintro e w' ⟨u,rfl,hf,ψ,g1,g2,g3,g4,g5⟩;refine⟨u,rfl,hf,λ k=>if k=bs.length then none else ψ k,λ k hk=>?_,?_,λ k b hb=>?_,λ i k x h1 h2 hne e1=>?_,λ k x h1 h2 e1=>?_⟩
 ·have:=h.1
  show(if k=bs.length then none else ψ k)=_;rw[ZE om];exact g1 k hk
 all_goals try(rw[U2,VP]at *)
 ·have hst:Stp (eT (jm al O w) ψ bs.length) (eT (jm al O w) (λ k=>if k=bs.length then none else ψ k) (bs.length+1)) w' w':=by
   refine⟨λ g hg=>aah hg,λ g hg=>?_,Vd _,λ b _ hb=>⟨λ hq=>hb ?_,rfl⟩,λ _ _=>rfl⟩
   ·have hg:g<bs.length:=hg
    show(if g=bs.length then none else ψ g)=ψ g;rw[ZE om]
   ·rcases hq with hq|⟨k,hk,hq⟩
    ·exact .inl hq
    ·have hq:(if k=bs.length then none else ψ k)=some b:=hq
     split at hq
     ·cases hq
     ·next z=>exact .inr ⟨k,by omega,hq⟩
  exact hr _ _ _ (Nat.lt_succ_self _) (ZF rfl) (g2.step hst)
 ·have hst:Stp (eT (jm al O w) ψ bs.length) (eT (jm al O w) (λ k=>if k=bs.length then none else ψ k) (bs.length+1)) w' w':=by
   refine⟨λ g hg=>aah hg,λ g hg=>?_,Vd _,λ b _ hb=>⟨λ hq=>hb ?_,rfl⟩,λ _ _=>rfl⟩
   ·have hg:g<bs.length:=hg
    show(if g=bs.length then none else ψ g)=ψ g;rw[ZE om]
   ·rcases hq with hq|⟨k,hk,hq⟩
    ·exact .inl hq
    ·have hq:(if k=bs.length then none else ψ k)=some b:=hq
     split at hq
     ·cases hq
     ·next z=>exact .inr ⟨k,by omega,hq⟩
  rcases Xp k bs.length with q|q|q
  ·rw[Vz q]at hb
   obtain⟨y1,y2⟩:=g3 k b hb;refine⟨?_,y2⟩;exact OB.step (o:=.b b) y1 hst λ x hx=>⟨.inr ⟨k,by omega,by show(if k=bs.length then none else ψ k)=some x;rw[ZE om];exact hx⟩,rfl⟩
  ·rw[q,Vs (Vd _),Wn]at hb
   cases hb
   refine⟨⟨by show k<bs.length+1;omega,?_⟩,λ _=>rfl⟩;show(match(if k=bs.length then none else ψ k)with|none=>_|some b=>_);rw[ZF q];exact⟨rfl,rfl⟩
  ·rw[VF (by rw[U2,VP];omega)]at hb;cases hb
 ·have e1:(if i=bs.length then none else ψ i)=some x:=e1
  show(if k=bs.length then none else ψ k)≠some x
  split at e1
  ·cases e1
  ·next z=>
   split
   ·exact λ q=>by cases q
   ·next z2=>exact g4 i k x om om hne e1
 ·have e1:(if k=bs.length then none else ψ k)=some x:=e1
  split at e1
  ·cases e1
  ·next z=>exact g5 k x h1 om e1
def g6 (far:Bool)(sy:Nat):Nat:=match far with
 |false=>Bm aw 257 sy
 |true=>Bm aC 0 sy
def cW (far:Bool)(sy:Nat):Nat:=match far with
 |false=>tQ aw 257 sy
 |true=>tQ aC 0 sy
def Jx (far:Bool)(sy x:Nat):Nat:=match far with
 |false=>Bn aw 257 sy x
 |true=>Bn aC 0 sy x
def qh (far:Bool)(sy x:Nat):Nat:=match far with
 |false=>v5 aw 257 sy x
 |true=>v5 aC 0 sy x
theorem xi (far:Bool)(sy:Nat):g6 far sy<=13:=by
 cases far
 ·show Bm _ _ _<=13;unfold Bm;split;exact(cm _).1;exact VI _
 ·show Bm _ _ _<=13;unfold Bm;split;exact(cG _).1;exact VI _
theorem D0 {T:List Sy}(h:b6 T)(f:Int)(s x:Nat)(hx:x<=100000):Bn T f s x<=200000:=by
 unfold Bn;split
 ·have:=(h ((s:Int)-f).toNat).2.1;omega
 ·exact VI _
theorem Md (far:Bool)(sy x:Nat)(hx:x<=100000):Jx far sy x<=200000:=by
 cases far
 ·exact D0 cm _ _ _ hx
 ·exact D0 cG _ _ _ hx
def Me (far:Bool)(sy:Nat)(s:Rs):Rs:=fl s (((cW far sy:Nat):Int)==0) (cW far sy)
def zH (b:Z1)(far:Bool)(sy:Nat)(s:Rs):Nat:=aY b (g6 far sy) (Me far sy s)
def xj (b:Z1)(far:Bool)(sy:Nat)(s:Rs):Rs:=bA b (g6 far sy) (Me far sy s)
def mf (b:Z1)(far:Bool)(sy:Nat)(s:Rs):Rs:=lk b (if s.e≠0 then s else if(xj b far sy s).e≠0 then xj b far sy s else fl (xj b far sy s) (((qh far sy (zH b far sy s):Nat):Int)==0) (qh far sy (zH b far sy s)))
def xk (b:Z1)(far:Bool)(sy:Nat)(s:Rs):Nat:=lk b (if s.e≠0 then 0 else if(xj b far sy s).e≠0 then 0 else Jx far sy (zH b far sy s))
theorem pM {b:Z1}{far:Bool}{sy:Nat}{s:Rs}(h:s.e≠0):mf b far sy s=s∧xk b far sy s=0:=⟨(au _ _).trans (ZF h),(au _ _).trans (ZF h)⟩
theorem pN {b:Z1}{far:Bool}{sy:Nat}{s:Rs}(h:s.e=0)(h2:(xj b far sy s).e≠0):mf b far sy s=xj b far sy s∧xk b far sy s=0:=⟨(au _ _).trans ((ZE om).trans (ZF h2)),(au _ _).trans ((ZE om).trans (ZF h2))⟩
theorem l7 {b:Z1}{far:Bool}{sy:Nat}{s:Rs}(h:s.e=0)(h2:(xj b far sy s).e=0):mf b far sy s=fl (xj b far sy s) (((qh far sy (zH b far sy s):Nat):Int)==0) (qh far sy (zH b far sy s))∧xk b far sy s=Jx far sy (zH b far sy s):=⟨(au _ _).trans ((ZE om).trans (ZE om)),(au _ _).trans ((ZE om).trans (ZE om))⟩
theorem xm (b:Z1)(far:Bool)(sy:Nat)(s:Rs):zH b far sy s<=100000:=by
 have h1:=bP b (g6 far sy) (Me far sy s);have h2:2^g6 far sy<=2^13:=VD (by decide) (xi far sy);unfold zH;omega
theorem D1 (b:Z1)(far:Bool)(sy:Nat)(s:Rs):xk b far sy s<=200000:=by
 unfold xk;rw[au];split
 ·exact VI _
 ·split
  ·exact VI _
  ·exact Md _ _ _ (xm _ _ _ _)
theorem bc.nb {b:Z1}{s:Rs}(h:bc b.length s)(far:Bool)(sy:Nat):bc b.length (mf b far sy s):=by
 by_cases h0:s.e=0
 ·by_cases h1:(xj b far sy s).e=0
  ·rw[(l7 h0 h1).1];exact((h.fl _ _).tk _).fl _ _
  ·rw[(pN h0 h1).1];exact(h.fl _ _).tk _
 ·rw[(pM h0).1];exact h
theorem xo (s:Nat)(hs:s<=1000000):S0 124 [nD s] [] (.tup [nD (g6 false s),nD (cW false s)]) []:=wN aw rfl rfl cm s hs
theorem D2 (s:Nat)(hs:s<=1000000)(x:Nat)(hx:x<=1000000):S0 125 [nD s,nD x] [] (.tup [nD (Jx false s x),nD (qh false s x)]) []:=Ck aw rfl rfl cm s hs x hx
theorem D3 (b:Z1)(n:Nat)(hn:n=b.length)(hN:n<=1000000)(s:Rs)(hs:bc n s)(y:Nat)(hy:y<=1000000):S1 123 [.ptr 0 0 0,nD y,.fn (.func 124) [] [],.fn (.func 125) [] []] [⟨[.sl false n 1 (b.map dB),nD (s).p,nD (s).e], 95,false⟩] (nD (xk b false y s)) [⟨[.sl false n 1 (b.map dB),nD (mf b false y s).p,nD (mf b false y s).e], 95,false⟩]:=by
 have ho:s.e=0->s.p<=8*n:=hs;have hb:=xi false y;have hx:=xm b false y s;have hA:Me false y s=fl s (((cW false y:Nat):Int)==0) (cW false y):=rfl;have hX:aY b (g6 false y) (fl s (((cW false y:Nat):Int)==0) (cW false y))=zH b false y s:=rfl;have hT:bA b (g6 false y) (fl s (((cW false y:Nat):Int)==0) (cW false y))=xj b false y s:=rfl;refine SpecH.run T_ok ah Tryz.func123 rfl rfl rfl ⟨rfl,trivial⟩ rfl 1000 64 (λ R ok=>(.s 11 (.br ((↑(Rs.e s):Int) !=0) (λ p0=>have Z7:=cS p0;(.s 1 (.out [0] [0] (zI 0) [U1 [Vl false n 1 (map dB b),zN (Rs.p s),zN (Rs.e s)] 95 false] R (ok _ _ (by(rw[(pM om).2];rfl)) (by(rw[(pM om).1])))))) (λ p0=>have Z7:=cT p0;(.s 3 (.cl 124 false [] (.fn Si (@xo (y) om)) (.s 13 (.cl 73 true [0] (.fn jx (@ci (b) (n) om om (s) ((↑(cW false y):Int)==0) ((↑(cW false y):Int)) om)) (.s 3 (.cl 119 true [0] (.fn fx (@fk (b) (n) om om (fl s ((↑(cW false y):Int)==0) (cW false y)) (by(exact bc.fl hs _ _)) ((↑(g6 false y):Int)) om)) (.s 11 (.br ((↑(Rs.e (bA b (g6 false y) (fl s ((↑(cW false y):Int)==0) (cW false y)))):Int) !=0) (λ p1=>have Z6:=cS p1;(.s 1 (.out [0] [0] (zI 0) [U1 [Vl false n 1 (map dB b),zN (Rs.p (bA b (g6 false y) (fl s ((↑(cW false y):Int)==0) (cW false y)))),zN (Rs.e (bA b (g6 false y) (fl s ((↑(cW false y):Int)==0) (cW false y))))] 95 false] R (ok _ _ (by(rw[(pN (b:=b) (far:=false) (sy:=y) (s:=s) om (by first|assumption|(rw[<-hT];omega))).2];rfl)) (by(rw[(pN (b:=b) (far:=false) (sy:=y) (s:=s) om (by first|assumption|(rw[<-hT];omega))).1];rfl)))))) (λ p1=>have Z6:=cT p1;(.s 4 (.cl 125 false [] (.fn Sj (@D2 (y) om (aY b (g6 false y) (fl s ((↑(cW false y):Int)==0) (cW false y))) om)) (.s 13 (.cl 73 true [0] (.fn jx (@ci (b) (n) om om (bA b (g6 false y) (fl s ((↑(cW false y):Int)==0) (cW false y))) ((↑(qh false y (aY b (g6 false y) (fl s ((↑(cW false y):Int)==0) (cW false y)))):Int)==0) ((↑(qh false y (aY b (g6 false y) (fl s ((↑(cW false y):Int)==0) (cW false y)))):Int)) om)) (.s 2 (.out [0] [0] (zN (Jx false y (aY b (g6 false y) (fl s ((↑(cW false y):Int)==0) (cW false y))))) [U1 [Vl false n 1 (map dB b),zN (Rs.p (fl (bA b (g6 false y) (fl s ((↑(cW false y):Int)==0) (cW false y))) ((↑(qh false y (aY b (g6 false y) (fl s ((↑(cW false y):Int)==0) (cW false y)))):Int)==0) (qh false y (aY b (g6 false y) (fl s ((↑(cW false y):Int)==0) (cW false y)))))),zN (Rs.e (fl (bA b (g6 false y) (fl s ((↑(cW false y):Int)==0) (cW false y))) ((↑(qh false y (aY b (g6 false y) (fl s ((↑(cW false y):Int)==0) (cW false y)))):Int)==0) (qh false y (aY b (g6 false y) (fl s ((↑(cW false y):Int)==0) (cW false y))))))] 95 false] R (ok _ _ (by(rw[(l7 (b:=b) (far:=false) (sy:=y) (s:=s) om (by first|assumption|(rw[<-hT];omega))).2];rfl)) (by(rw[(l7 (b:=b) (far:=false) (sy:=y) (s:=s) om (by first|assumption|(rw[<-hT];omega))).1];rfl)))))))))))))))))))))) kr
theorem A8 (s:Nat)(hs:s<=1000000):S0 126 [nD s] [] (.tup [nD (g6 true s),nD (cW true s)]) []:=AN aC rfl rfl cG s hs
theorem GR (s:Nat)(hs:s<=1000000)(x:Nat)(hx:x<=1000000):S0 127 [nD s,nD x] [] (.tup [nD (Jx true s x),nD (qh true s x)]) []:=FG aC rfl rfl cG s hs x hx
theorem GS (b:Z1)(n:Nat)(hn:n=b.length)(hN:n<=1000000)(s:Rs)(hs:bc n s)(y:Nat)(hy:y<=1000000):S1 123 [.ptr 0 0 0,nD y,.fn (.func 126) [] [],.fn (.func 127) [] []] [⟨[.sl false n 1 (b.map dB),nD (s).p,nD (s).e], 95,false⟩] (nD (xk b true y s)) [⟨[.sl false n 1 (b.map dB),nD (mf b true y s).p,nD (mf b true y s).e], 95,false⟩]:=by
 have ho:s.e=0->s.p<=8*n:=hs;have hb:=xi true y;have hx:=xm b true y s;have hA:Me true y s=fl s (((cW true y:Nat):Int)==0) (cW true y):=rfl;have hX:aY b (g6 true y) (fl s (((cW true y:Nat):Int)==0) (cW true y))=zH b true y s:=rfl;have hT:bA b (g6 true y) (fl s (((cW true y:Nat):Int)==0) (cW true y))=xj b true y s:=rfl;refine SpecH.run T_ok ah Tryz.func123 rfl rfl rfl ⟨rfl,trivial⟩ rfl 1000 64 (λ R ok=>(.s 11 (.br ((↑(Rs.e s):Int) !=0) (λ p0=>have Z7:=cS p0;(.s 1 (.out [0] [0] (zI 0) [U1 [Vl false n 1 (map dB b),zN (Rs.p s),zN (Rs.e s)] 95 false] R (ok _ _ (by(rw[(pM om).2];rfl)) (by(rw[(pM om).1])))))) (λ p0=>have Z7:=cT p0;(.s 3 (.cl 126 false [] (.fn Sk (@A8 (y) om)) (.s 13 (.cl 73 true [0] (.fn jx (@ci (b) (n) om om (s) ((↑(cW true y):Int)==0) ((↑(cW true y):Int)) om)) (.s 3 (.cl 119 true [0] (.fn fx (@fk (b) (n) om om (fl s ((↑(cW true y):Int)==0) (cW true y)) (by(exact bc.fl hs _ _)) ((↑(g6 true y):Int)) om)) (.s 11 (.br ((↑(Rs.e (bA b (g6 true y) (fl s ((↑(cW true y):Int)==0) (cW true y)))):Int) !=0) (λ p1=>have Z6:=cS p1;(.s 1 (.out [0] [0] (zI 0) [U1 [Vl false n 1 (map dB b),zN (Rs.p (bA b (g6 true y) (fl s ((↑(cW true y):Int)==0) (cW true y)))),zN (Rs.e (bA b (g6 true y) (fl s ((↑(cW true y):Int)==0) (cW true y))))] 95 false] R (ok _ _ (by(rw[(pN (b:=b) (far:=true) (sy:=y) (s:=s) om (by first|assumption|(rw[<-hT];omega))).2];rfl)) (by(rw[(pN (b:=b) (far:=true) (sy:=y) (s:=s) om (by first|assumption|(rw[<-hT];omega))).1];rfl)))))) (λ p1=>have Z6:=cT p1;(.s 4 (.cl 127 false [] (.fn Sl (@GR (y) om (aY b (g6 true y) (fl s ((↑(cW true y):Int)==0) (cW true y))) om)) (.s 13 (.cl 73 true [0] (.fn jx (@ci (b) (n) om om (bA b (g6 true y) (fl s ((↑(cW true y):Int)==0) (cW true y))) ((↑(qh true y (aY b (g6 true y) (fl s ((↑(cW true y):Int)==0) (cW true y)))):Int)==0) ((↑(qh true y (aY b (g6 true y) (fl s ((↑(cW true y):Int)==0) (cW true y)))):Int)) om)) (.s 2 (.out [0] [0] (zN (Jx true y (aY b (g6 true y) (fl s ((↑(cW true y):Int)==0) (cW true y))))) [U1 [Vl false n 1 (map dB b),zN (Rs.p (fl (bA b (g6 true y) (fl s ((↑(cW true y):Int)==0) (cW true y))) ((↑(qh true y (aY b (g6 true y) (fl s ((↑(cW true y):Int)==0) (cW true y)))):Int)==0) (qh true y (aY b (g6 true y) (fl s ((↑(cW true y):Int)==0) (cW true y)))))),zN (Rs.e (fl (bA b (g6 true y) (fl s ((↑(cW true y):Int)==0) (cW true y))) ((↑(qh true y (aY b (g6 true y) (fl s ((↑(cW true y):Int)==0) (cW true y)))):Int)==0) (qh true y (aY b (g6 true y) (fl s ((↑(cW true y):Int)==0) (cW true y))))))] 95 false] R (ok _ _ (by(rw[(l7 (b:=b) (far:=true) (sy:=y) (s:=s) om (by first|assumption|(rw[<-hT];omega))).2];rfl)) (by(rw[(l7 (b:=b) (far:=true) (sy:=y) (s:=s) om (by first|assumption|(rw[<-hT];omega))).1];rfl)))))))))))))))))))))) kr
theorem A9 (l:Z1)(n:Nat)(hn:n=l.length)(hN:n<=1000000)(m:Int)(hm:1<=m∧m<=15)(h:aG l m.toNat=0):S0 157 [.sl false n 1 (l.map dB),iD m] [] (.tup [.agg (dZ (aa l)++[.ref 0 0 0 (af l).length 1]),iD 0]) [⟨(af l).map nD, 3,true⟩]:=by
 obtain⟨k,rfl⟩:=V5 (by omega:0<=m);exact yI l n hn hN k om h
theorem xp (l:Z1)(n:Nat)(hn:n=l.length)(hN:n<=1000000)(m:Int)(hm:1<=m∧m<=15)(h:aG l m.toNat≠0):S0 157 [.sl false n 1 (l.map dB),iD m] [] (.tup [Iq,nD (aG l m.toNat)]) []:=by
 obtain⟨k,rfl⟩:=V5 (by omega:0<=m);exact Cp l n hn hN k om h
theorem Mf (l:Z1)(n:Nat)(hn:n=l.length)(hN:n<=1000000)(m:Int)(hm:1<=m∧m<=15):S0 148 [.sl false n 1 (l.map dB),iD m] [] (nD (aG l m.toNat)) []:=by
 obtain⟨k,rfl⟩:=V5 (by omega:0<=m);exact sA l n hn hN k om
def fN (l:Z1)(m:Nat):Z1:=lk l (if aG l m=0 then l else[])
theorem l8 {l:Z1}{m:Nat}(h:aG l m=0):fN l m=l:=(au _ _).trans (ZF h)
theorem zJ {l:Z1}{m:Nat}(h:aG l m≠0):fN l m=[]:=(au _ _).trans (ZE h)
theorem tE (l:Z1){m:Nat}(hm:m<=15):aG (fN l m) 15=0:=by
 by_cases h:aG l m=0
 ·rw[l8 h];exact(iV hm h).1
 ·rw[zJ h];rfl
theorem Qy (j:Nat):et j (.agg eE) (.agg (dZ (aa [])++[.ref j j 0 0 1])):=et.agg (dS.app (a:=[iD 0,iD 0,iD 0,iD 0,iD 0,iD 0,iD 0,iD 0,iD 0,iD 0,iD 0,iD 0,iD 0,iD 0,iD 0,iD 0]) (dS.refl j _) ⟨et.nil j 1,trivial⟩)
theorem vM (n:Nat):∀(l:List Rn) (o:Z1),(cq n l o).2≠0->(cq n l o).1=[]
 |[],o,h=>by
  rw[cq]at *;split
  ·next q=>rw[ZF q]at h;exact absurd rfl h
  ·rfl
 |r::q,o,h=>by
  rw[cq]at *
  split
  ·rfl
  ·next h1=>
   split
   ·rfl
   ·next h2=>
    split
    ·rfl
    ·next h3=>rw[ZE h1,ZE h2,ZE h3]at h;exact vM n q _ h
theorem Qz (l:List Rn)(k:Nat)(hk:k=l.length)(hK:k<=1000)(n:Nat)(hn:n<=320)(hB:∀i,(l.getD i mq).x<=1000000∧(l.getD i mq).s<=1000000):S0 181 [.sl false k 2 (l.flatMap ce),nD n] [] (.tup [.ref 0 0 0 (cv n l).1.length 1,nD (cv n l).2]) [⟨(cv n l).1.map dB, 5,true⟩]:=by
 by_cases h:(cv n l).2=0
 ·have h1:=KD l k hk hK n hn hB h
  rw[h];exact h1
 ·have h1:=FD l k hk hK n hn hB h
  have e:(cv n l).1=[]:=by rw[iS]at *;exact vM _ _ _ h
  rw[e];exact SpecH.nilA h1 _ (et.tup ⟨et.nil 0 1,et.refl 0 _,trivial⟩)
abbrev D4 (b l1:Z1)(s:Rs):Rs:=mf b false (aN b l1 s) (bk b l1 s)
def aA (b:Z1)(kd le:Nat)(l1 l2:Z1)(s:Rs):Rs×Nat×Nat×Nat×Bool:=lk b (
 if kd=0 then(if 0<le then(bA b 8 s,aY b 8 s,0,0,false)else(s,0,0,0,true))
 else if(bk b l1 s).e≠0 then(bk b l1 s,0,0,0,false)else if aN b l1 s<256 then(bk b l1 s,aN b l1 s,0,0,false)else if aN b l1 s=256 then(bk b l1 s,0,0,0,true)
 else(mf b true (aN b l2 (D4 b l1 s)) (bk b l2 (D4 b l1 s)),0,xk b true (aN b l2 (D4 b l1 s)) (bk b l2 (D4 b l1 s)),xk b false (aN b l1 s) (bk b l1 s),false))
section
variable {b:Z1} {kd le:Nat} {l1 l2:Z1} {s:Rs}
theorem Mg (h:kd=0)(h2:0<le):aA b kd le l1 l2 s=(bA b 8 s,aY b 8 s,0,0,false):=by unfold aA;rw[au,ZF h,ZF h2]
theorem Mh (h:kd=0)(h2:¬0<le):aA b kd le l1 l2 s=(s,0,0,0,true):=by unfold aA;rw[au,ZF h,ZE h2]
theorem TR (h:kd≠0)(h2:(bk b l1 s).e≠0):aA b kd le l1 l2 s=(bk b l1 s,0,0,0,false):=by unfold aA;rw[au,ZE h,ZF h2]
theorem QA (h:kd≠0)(h2:(bk b l1 s).e=0)(h3:aN b l1 s<256):aA b kd le l1 l2 s=(bk b l1 s,aN b l1 s,0,0,false):=by unfold aA;rw[au,ZE h,ZE om,ZF h3]
theorem QB (h:kd≠0)(h2:(bk b l1 s).e=0)(h3:aN b l1 s=256):aA b kd le l1 l2 s=(bk b l1 s,0,0,0,true):=by unfold aA;rw[au,ZE h,ZE om,ZE om,ZF h3]
theorem QC (h:kd≠0)(h2:(bk b l1 s).e=0)(h3:256<aN b l1 s):aA b kd le l1 l2 s=(mf b true (aN b l2 (D4 b l1 s)) (bk b l2 (D4 b l1 s)),0,xk b true (aN b l2 (D4 b l1 s)) (bk b l2 (D4 b l1 s)),xk b false (aN b l1 s) (bk b l1 s),false):=by unfold aA;rw[au,ZE h,ZE om,ZE om,ZE om]
theorem bc.st (h:bc b.length s):bc b.length (aA b kd le l1 l2 s).1:=by
 unfold aA;rw[au]
 split
 ·split
  ·exact h.tk _
  ·exact h
 ·split
  ·exact h.sy _
  ·split
   ·exact h.sy _
   ·split
    ·exact h.sy _
    ·exact(((h.sy _).nb _ _).sy _).nb _ _
theorem jO:(aA b kd le l1 l2 s).2.1<256∧(aA b kd le l1 l2 s).2.2.1<=200000∧(aA b kd le l1 l2 s).2.2.2.1<=200000:=by
 unfold aA;rw[au]
 split
 ·split
  ·exact⟨bP b 8 s,VI _,VI _⟩
  ·exact⟨by show 0<256;decide,VI _,VI _⟩
 ·split
  ·exact⟨by show 0<256;decide,VI _,VI _⟩
  ·split
   ·next q=>exact⟨q,VI _,VI _⟩
   ·split
    ·exact⟨by show 0<256;decide,VI _,VI _⟩
    ·exact⟨by show 0<256;decide,D1 _ _ _ _,D1 _ _ _ _⟩
theorem D5 (h:aG l1 15=0):aN b l1 s<=1000000:=by
 have:=DZ b l1 s;have:=(dD h).1;omega
end
def xq (r:Rs×Nat×Nat×Nat×Bool):D:=.tup [.agg [fP r.2.1,nD r.2.2.1,nD r.2.2.2.1],bD r.2.2.2.2]
theorem mT {x y:Nat}{d e f:D}(h:x<256):V2 [.agg [.v (.int .u8 ((x:Int)%256)),d,e],f]=V2 [.agg [fP x,d,e],f]:=by
 rw[show(x:Int)%256=x from by omega]
def gr (b l:Z1)(c:Rs):Rn:=⟨aN b l c,aY b (rb (aN b l c)) (bk b l c)⟩
def D6 (N many k:Nat)(x:Rn):Bool:=decide (many+bh x<=N)&&(decide (x.s≠16)||decide (1<k+1))
def nC (b l:Z1)(N:Nat)(c:Rs)(many k:Nat):Rs:=fl (bA b (rb (aN b l c)) (bk b l c)) (D6 N many k (gr b l c)) 132
def lnZF (b l:Z1)(N:Nat):Nat->Rs->Nat->List Rn->Rs×List Rn
 |0,c,_,r=>(c,r)
 |k+1,c,many,r=>if N<=many∨c.e≠0 then(c,r)else lnZF b l N k (nC b l N c many r.length) (many+bh (gr b l c)) (r++[gr b l c])
def fm (b l:Z1)(N:Nat)(s:Rs):Rs×List Rn:=lk b (lnZF b l N N s 0 [])
theorem tF (x:Rn):1<=bh x:=by have:=ej x;omega
theorem n9 {b l:Z1}{N k:Nat}{c:Rs}{many:Nat}{r:List Rn}(h:N<=many∨c.e≠0):lnZF b l N k c many r=(c,r):=by
 cases k with
 |zero=>rfl
 |succ k=>rw[lnZF,ZF h]
theorem vN (b l:Z1)(N:Nat):∀(k m:Nat) (c:Rs) (many:Nat) (r:List Rn),N-many<=k->N-many<=m->lnZF b l N k c many r=lnZF b l N m c many r
 |0,m,c,many,r,h,_=>by rw[n9 (k:=m) (.inl om)];rfl
 |k+1,0,c,many,r,_,h=>by rw[n9 (k:=k+1) (.inl om)];rfl
 |k+1,m+1,c,many,r,h1,h2=>by
  rw[lnZF,lnZF]
  split
  ·rfl
  ·have:=tF (gr b l c)
   exact vN b l N k m _ _ _ om om
theorem D7 {b l:Z1}{N:Nat}{c:Rs}{many:Nat}{r:List Rn}{R:Rs×List Rn}(h:¬N<=many)(h2:c.e=0)(hR:lnZF b l N (N-many) c many r=R):lnZF b l N (N-(many+bh (gr b l c))) (nC b l N c many r.length) (many+bh (gr b l c)) (r++[gr b l c])=R:=by
 have:=tF (gr b l c);rw[<-hR,show N-many=(N-many-1)+1 from by omega,lnZF,ZE om];exact vN b l N _ _ _ _ _ om om
theorem GU {b l:Z1}{N k:Nat}{c:Rs}{many:Nat}{r:List Rn}{R:Rs×List Rn}(hR:lnZF b l N k c many r=R)(h:N<=many∨c.e≠0):R=(c,r):=by rw[<-hR,n9 h]
theorem pO (b l:Z1)(N:Nat)(s:Rs):fm b l N s=lnZF b l N N s 0 []:=au _ _
def GV (b l:Z1)(N:Nat)(s:Rs):Z1:=(cv N (fm b l N s).2).1
def xu (b l:Z1)(N:Nat)(s:Rs):Rs:=fl (fm b l N s).1 ((((cv N (fm b l N s).2).2:Nat):Int)==0) 132
theorem gm {b l:Z1}{c:Rs}(hl:l.length<=19):(gr b l c).s<=18∧(gr b l c).x<=128∧bh (gr b l c)<=139:=by
 have h1:=DZ b l c;have h2:=bP b (rb (aN b l c)) (bk b l c);have h3:=dp (aN b l c);have h4:2^rb (aN b l c)<=2^7:=VD (by decide) h3.2;have h5:=ej (gr b l c);have e1:(gr b l c).s=aN b l c:=rfl;have e2:(gr b l c).x=aY b (rb (aN b l c)) (bk b l c):=rfl;omega
theorem mU (s x:Nat):(s=16∧bh ⟨s,x⟩=x+3)∨(s=17∧bh ⟨s,x⟩=x+3)∨(s=18∧bh ⟨s,x⟩=x+11)∨(s≠16∧s≠17∧s≠18∧bh ⟨s,x⟩=1):=ej ⟨s,x⟩
theorem bc.ln {b l:Z1}{N:Nat}{c:Rs}{many k:Nat}(h:bc b.length c):bc b.length (nC b l N c many k):=((h.sy _).tk _).fl _ _
theorem Mi {r:List Rn}{x:Rn}(h:∀i,(r.getD i mq).x<=1000000∧(r.getD i mq).s<=1000000)(hx:x.s<=18∧x.x<=128∧bh x<=139):∀i,((r++[x]).getD i mq).x<=1000000∧((r++[x]).getD i mq).s<=1000000:=λ i=>by
 rw[UZ];rcases Xp i r.length with q|q|q
 ·rw[Vz q,<-UZ];exact h i
 ·rw[q,Vs (Vd _),Wn]
  show x.x<=_∧x.s<=_;omega
 ·rw[VF (by simp;omega)];exact⟨VI _,VI _⟩
theorem Mj:∀i,(([]:List Rn).getD i mq).x<=1000000∧(([]:List Rn).getD i mq).s<=1000000:=λ i=>by
 rw[UZ];exact⟨VI _,VI _⟩
theorem GW {b l:Z1}{N many k:Nat}{c:Rs}{a:D}{d:Bool}{t:TypeId}{r:Bool}(h:d=D6 N many k (gr b l c)):(⟨[a,nD (fl (bA b (rb (aN b l c)) (bk b l c)) d 132).p,nD (fl (bA b (rb (aN b l c)) (bk b l c)) d 132).e],t,r⟩:Blk)=⟨[a,nD (nC b l N c many k).p,nD (nC b l N c many k).e],t,r⟩:=by rw[h];rfl
theorem nE {p:Prop}(h:p:=by(have h9:aN b l c<=18∧aY b (rb (aN b l c)) (bk b l c)<=128∧bh ⟨aN b l c,aY b (rb (aN b l c)) (bk b l c)⟩<=139:=@gm b l c hl;have h8:=mU (aN b l c) (aY b (rb (aN b l c)) (bk b l c));have h7:=dp (aN b l c);have h6:=@gm b l c hl;have h5:=ej (gr b l c);have e1:(gr b l c).s=aN b l c:=rfl;have e2:(gr b l c).x=aY b (rb (aN b l c)) (bk b l c):=rfl;have e3:bh ⟨aN b l c,aY b (rb (aN b l c)) (bk b l c)⟩=bh (gr b l c):=rfl;omega)):p:=h
theorem nF {p:Prop}(h:p:=by(rw[U2,VP];have h9:aN b l c<=18∧aY b (rb (aN b l c)) (bk b l c)<=128∧bh ⟨aN b l c,aY b (rb (aN b l c)) (bk b l c)⟩<=139:=@gm b l c hl;have h8:=mU (aN b l c) (aY b (rb (aN b l c)) (bk b l c));have h7:=dp (aN b l c);have h6:=@gm b l c hl;have h5:=ej (gr b l c);have e1:(gr b l c).s=aN b l c:=rfl;have e2:(gr b l c).x=aY b (rb (aN b l c)) (bk b l c):=rfl;have e3:bh ⟨aN b l c,aY b (rb (aN b l c)) (bk b l c)⟩=bh (gr b l c):=rfl;omega)):p:=h
theorem nG {p:Prop}(h:p:=by(have q:=GU hR om;rw[q];first|done|assumption|omega)):p:=h
theorem Ba {p:Prop}(h:p:=by(rw[U2];rfl)):p:=h
theorem Bb {p:Prop}(h:p:=by(have h9:aN b l c<=18∧aY b (rb (aN b l c)) (bk b l c)<=128∧bh ⟨aN b l c,aY b (rb (aN b l c)) (bk b l c)⟩<=139:=@gm b l c hl;have h8:=mU (aN b l c) (aY b (rb (aN b l c)) (bk b l c));have h7:=dp (aN b l c);refine aR ?_;omega)):p:=h
theorem Bc {p:Prop}(h:p:=by(have h9:aN b l c<=18∧aY b (rb (aN b l c)) (bk b l c)<=128∧bh ⟨aN b l c,aY b (rb (aN b l c)) (bk b l c)⟩<=139:=@gm b l c hl;have h8:=mU (aN b l c) (aY b (rb (aN b l c)) (bk b l c));have h7:=dp (aN b l c);have h6:=@gm b l c hl;have h5:=ej (gr b l c);have e1:(gr b l c).s=aN b l c:=rfl;have e2:(gr b l c).x=aY b (rb (aN b l c)) (bk b l c):=rfl;have e3:bh ⟨aN b l c,aY b (rb (aN b l c)) (bk b l c)⟩=bh (gr b l c):=rfl;refine GW ?_;unfold D6;rw[Bool.eq_iff_iff];simp;omega)):p:=h
theorem Bd {p:Prop}(h:p:=by(subst hn;exact bc.ln hc)):p:=h
theorem Be {p:Prop}(h:p:=by(exact Mi hB (gm hl))):p:=h
theorem Bf {p:Prop}(h:p:=by(exact D7 om om hR)):p:=h
theorem Bg {p:Prop}(h:p:=by show N-(many+bh (gr b l c))<N-many;clear ZA ZD;(have h9:aN b l c<=18∧aY b (rb (aN b l c)) (bk b l c)<=128∧bh ⟨aN b l c,aY b (rb (aN b l c)) (bk b l c)⟩<=139:=@gm b l c hl;have h8:=mU (aN b l c) (aY b (rb (aN b l c)) (bk b l c));have h7:=dp (aN b l c);have h6:=@gm b l c hl;have h5:=ej (gr b l c);have e1:(gr b l c).s=aN b l c:=rfl;have e2:(gr b l c).x=aY b (rb (aN b l c)) (bk b l c):=rfl;have e3:bh ⟨aN b l c,aY b (rb (aN b l c)) (bk b l c)⟩=bh (gr b l c):=rfl;omega)):p:=h
theorem Jy {p:Prop}(h:p:=by exact(VR (D.sim.slw rfl ((bj (o) (off) (k*1)).trans (by(simp;done)))) (qr trivial))):p:=h
theorem Jz {p:Prop}(h:p:=by(simp;have h9:aN b l c<=18∧aY b (rb (aN b l c)) (bk b l c)<=128∧bh ⟨aN b l c,aY b (rb (aN b l c)) (bk b l c)⟩<=139:=@gm b l c hl;have h8:=mU (aN b l c) (aY b (rb (aN b l c)) (bk b l c));have h7:=dp (aN b l c);omega)):p:=h
theorem QD {b l:Z1}{n:Nat}{s:Rs}{t:TypeId}{q:List Blk}(h:s.e=0):((⟨[Vl false n 1 (b.map dB),D.v (.int .i64 (((fZ b l s.p).2.1:Nat):Int)),D.v (.int .i64 (((fl s ((((fZ b l s.p).2.2:Nat):Int)==0) (fZ b l s.p).2.2).e:Nat):Int))],t,false⟩:Blk)::q)=⟨[Vl false n 1 (b.map dB),nD (Rs.mk (fZ b l s.p).2.1 (fZ b l s.p).2.2).p,nD (Rs.mk (fZ b l s.p).2.1 (fZ b l s.p).2.2).e],t,false⟩::q:=by
 rw[(Mc h).1]
theorem D8 (b:Z1)(n:Nat)(hn:n=b.length)(hN:n<=1000000)(s:Rs)(hs:bc n s)(l:Z1)(hT:aG l 15=0):S1 122 [.ptr 0 0 0,.agg (dZ (aa l)++[.ref 1 1 0 (af l).length 1])] [⟨[.sl false n 1 (b.map dB),nD (s).p,nD (s).e], 95,false⟩,⟨(af l).map nD, 3,true⟩] (nD (aN b l s)) [⟨[.sl false n 1 (b.map dB),nD (bk b l s).p,nD (bk b l s).e], 95,false⟩,⟨(af l).map nD, 3,true⟩]:=by
 have ho:s.e=0->s.p<=8*n:=hs;refine SpecH.run T_ok ah Tryz.func122 rfl rfl rfl ⟨rfl,eW _,trivial⟩ rfl 1000 64 (λ R ok=>(.s 13 (.br ((↑(Rs.e s):Int) !=0) (λ p0=>have Z7:=cS p0;(.s 1 (.out [0,1] [0,1] (zI 0) [U1 [Vl false n 1 (map dB b),zN (Rs.p s),zN (Rs.e s)] 95 false,U1 (map nD (af l)) 3 true] R (ok _ _ (by(rw[Jw om];rfl)) (by(rw[vK om])))))) (λ p0=>have Z7:=cT p0;(.s 22 (.call 159 false [] (true&&(true&&(true&&(true&&(true&&(true&&(true&&(true&&(true&&(true&&(true&&(true&&(true&&(true&&(true&&(true&&(true&&(true&&U7 (0+length (af l)*1) (length (map nD (af l)))&&true&&ab (bif true&&U5 (length (af l)*1) (length (map nD (af l)))then map nD (af l)else take (length (af l)*1) (drop 0 (map nD (af l)))))&&true))))))))))))))))&&true) (by(simp[lq,ka];done)) ([Wp [zN (aa l 0),zN (aa l 1),zN (aa l 2),zN (aa l 3),zN (aa l 4),zN (aa l 5),zN (aa l 6),zN (aa l 7),zN (aa l 8),zN (aa l 9),zN (aa l 10),zN (aa l 11),zN (aa l 12),zN (aa l 13),zN (aa l 14),zN (aa l 15),Vl (U7 1 (length (af l))) (length (af l)) 1 (bif true&&U5 (length (af l)*1) (length (map nD (af l)))then map nD (af l)else take (length (af l)*1) (drop 0 (map nD (af l))))],Vl false n 1 (map dB b),zN (Rs.p s)]) _ (by exact(VR (D.sim.agg (qr (qr (qr (qr (qr (qr (qr (qr (qr (qr (qr (qr (qr (qr (qr (qr (VR (D.sim.slw rfl (bW (by(simp[lq,ka];done))|>.trans rfl)) trivial)))))))))))))))))) (qr (qr trivial)))) (true) wr _ _ _ (VC (az.of Tryz.func159 rfl rfl) (@K5 (l) (15) om aF (length (af l)) om (b) (n) om om (Rs.p s) om)) (.s 16 (.cl 73 true [0] (.fn jx (@ci (b) (n) om om (s) ((↑(U0 (U0 (fZ b l (Rs.p s)))):Int)==0) ((↑(U0 (U0 (fZ b l (Rs.p s)))):Int)) om)) (.s 11 (.out [0,1] [0,1] (zN (Va (fZ b l (Rs.p s)))) [U1 [Vl false n 1 (map dB b),zN (Va (U0 (fZ b l (Rs.p s)))),zN (Rs.e (fl s ((↑(U0 (U0 (fZ b l (Rs.p s)))):Int)==0) (U0 (U0 (fZ b l (Rs.p s))))))] 95 false,U1 (map nD (af l)) 3 true] R (ok _ _ (by(rw[DV om])) (by(rw[vL om];exact QD om))))))))))))) kr
theorem GX (b:Z1)(n:Nat)(hn:n=b.length)(hN:n<=1000000)(s:Rs)(hs:bc n s)(o:Z1)(off k:Nat)(hk:off+k<=o.length)(hK:o.length<=1000000)(l:Z1)(hl:l=(o.drop off).take k)(m:Int)(hm:1<=m∧m<=15)(h:aG l m.toNat=0):S1 120 [.ptr 0 0 0,.ref 1 1 off k 1,iD m] [⟨[.sl false n 1 (b.map dB),nD (s).p,nD (s).e], 95,false⟩,⟨(o).map dB, 5,true⟩] (.agg (dZ (aa l)++[.ref 2 2 0 (af l).length 1])) [⟨[.sl false n 1 (b.map dB),nD (s).p,nD (s).e], 95,false⟩,⟨(o).map dB, 5,true⟩,⟨(af l).map nD, 3,true⟩]:=by
 subst hl;refine SpecH.run T_ok ah Tryz.func120 rfl rfl rfl ⟨rfl,cR _,eW _,trivial⟩ rfl 1000 64 (λ R ok=>(.s 5 (.call 157 false [] (true&&(true&&U7 (off+k*1) (length (map dB o))&&true&&ab (bif U5 off 0&&U5 (k*1) (length (map dB o))then map dB o else take (k*1) (drop off (map dB o))))&&true) (by(simp only[bj];simp <;>(omega))) ([Vl (U7 1 k) k 1 (bif U5 off 0&&U5 (k*1) (length (map dB o))then map dB o else take (k*1) (drop off (map dB o))),zI m]) _ Jy (true) wr _ _ _ (VC (az.of Tryz.func157 rfl rfl) (@A9 (take k (drop off o)) (k) (by(simp <;>(omega))) om (m) om om)) (.s 16 (.cl 73 true [0] (.fn jx (@ci (b) (n) om om (s) (true) (132) om)) (.s 10 (.out [0,1,26] [0,1,26] (Wp [zN (aa (take k (drop off o)) 0),zN (aa (take k (drop off o)) 1),zN (aa (take k (drop off o)) 2),zN (aa (take k (drop off o)) 3),zN (aa (take k (drop off o)) 4),zN (aa (take k (drop off o)) 5),zN (aa (take k (drop off o)) 6),zN (aa (take k (drop off o)) 7),zN (aa (take k (drop off o)) 8),zN (aa (take k (drop off o)) 9),zN (aa (take k (drop off o)) 10),zN (aa (take k (drop off o)) 11),zN (aa (take k (drop off o)) 12),zN (aa (take k (drop off o)) 13),zN (aa (take k (drop off o)) 14),zN (aa (take k (drop off o)) 15),U6 2 2 0 (length (af (take k (drop off o)))) 1]) [U1 [Vl false n 1 (map dB b),zN (Rs.p (fl s true 132)),zN (Rs.e (fl s true 132))] 95 false,U1 (map dB o) 5 true,U1 (map nD (af (take k (drop off o)))) 3 true] R (ok _ _ (by exact rfl) (by(rw[show fl s true 132=s from fM])))))))))) kr
theorem GY (b:Z1)(n:Nat)(hn:n=b.length)(hN:n<=1000000)(s:Rs)(hs:bc n s)(o:Z1)(off k:Nat)(hk:off+k<=o.length)(hK:o.length<=1000000)(l:Z1)(hl:l=(o.drop off).take k)(m:Int)(hm:1<=m∧m<=15)(h:aG l m.toNat≠0):S1 120 [.ptr 0 0 0,.ref 1 1 off k 1,iD m] [⟨[.sl false n 1 (b.map dB),nD (s).p,nD (s).e], 95,false⟩,⟨(o).map dB, 5,true⟩] (.agg eE) [⟨[.sl false n 1 (b.map dB),nD (fl s false 132).p,nD (fl s false 132).e], 95,false⟩,⟨(o).map dB, 5,true⟩]:=by
 subst hl;refine SpecH.run T_ok ah Tryz.func120 rfl rfl rfl ⟨rfl,cR _,trivial⟩ rfl 1000 64 (λ R ok=>(.s 5 (.call 157 false [] (true&&(true&&U7 (off+k*1) (length (map dB o))&&true&&ab (bif U5 off 0&&U5 (k*1) (length (map dB o))then map dB o else take (k*1) (drop off (map dB o))))&&true) (by(simp only[bj];simp <;>(omega))) ([Vl (U7 1 k) k 1 (bif U5 off 0&&U5 (k*1) (length (map dB o))then map dB o else take (k*1) (drop off (map dB o))),zI m]) _ Jy (true) wr _ _ _ (VC (az.of Tryz.func157 rfl rfl) (@xp (take k (drop off o)) (k) (by(simp <;>(omega))) om (m) om om)) (.s 16 (.cl 73 true [0] (.fn jx (@ci (b) (n) om om (s) ((↑(aG (take k (drop off o)) (AB m)):Int)==0) (132) om)) (.s 10 (.out [0,1] [0,1] (Wp [zI 0,zI 0,zI 0,zI 0,zI 0,zI 0,zI 0,zI 0,zI 0,zI 0,zI 0,zI 0,zI 0,zI 0,zI 0,zI 0,zS]) [U1 [Vl false n 1 (map dB b),zN (Rs.p (fl s ((↑(aG (take k (drop off o)) (AB m)):Int)==0) 132)),zN (Rs.e (fl s ((↑(aG (take k (drop off o)) (AB m)):Int)==0) 132))] 95 false,U1 (map dB o) 5 true] R (ok _ _ (by exact rfl) (by(rw[show(((aG ((o.drop off).take k) m.toNat:Nat):Int)==0)=false from by simp;omega])))))))))) kr
theorem D9 (b:Z1)(n:Nat)(hn:n=b.length)(hN:n<=1000000)(s:Rs)(hs:bc n s)(o:Z1)(off k:Nat)(hk:off+k<=o.length)(hK:o.length<=1000000)(l:Z1)(hl:l=(o.drop off).take k)(m:Int)(hm:1<=m∧m<=15):S1 120 [.ptr 0 0 0,.ref 1 1 off k 1,iD m] [⟨[.sl false n 1 (b.map dB),nD (s).p,nD (s).e], 95,false⟩,⟨(o).map dB, 5,true⟩] (.agg (dZ (aa (fN l m.toNat))++[.ref 2 2 0 (af (fN l m.toNat)).length 1])) [⟨[.sl false n 1 (b.map dB),nD (fl s (((aG l m.toNat:Nat):Int)==0) 132).p,nD (fl s (((aG l m.toNat:Nat):Int)==0) 132).e], 95,false⟩,⟨(o).map dB, 5,true⟩,⟨(af (fN l m.toNat)).map nD, 3,true⟩]:=by
 by_cases h:aG l m.toNat=0
 ·have h1:=GX b n hn hN s hs o off k hk hK l hl m hm h
  rw[l8 h,h,show fl s ((((0:Nat):Nat):Int)==0) 132=s from fM];exact h1
 ·have h1:=GY b n hn hN s hs o off k hk hK l hl m hm h
  rw[zJ h,show(((aG l m.toNat:Nat):Int)==0)=false from by simp;omega];exact SpecH.nilA h1 _ (Qy 2)
theorem QE (b:Z1)(n:Nat)(hn:n=b.length)(hN:n<=1000000)(s:Rs)(hs:bc n s)(l:Z1)(hT:aG l 15=0)(hl:l.length<=19)(N:Nat)(hNN:N<=320):S1 158 [.ptr 0 0 0,.agg (dZ (aa l)++[.ref 1 1 0 (af l).length 1]),nD N] [⟨[.sl false n 1 (b.map dB),nD (s).p,nD (s).e], 95,false⟩,⟨(af l).map nD, 3,true⟩] (.ref 2 2 0 (GV b l N s).length 1) [⟨[.sl false n 1 (b.map dB),nD (xu b l N s).p,nD (xu b l N s).e], 95,false⟩,⟨(af l).map nD, 3,true⟩,⟨(GV b l N s).map dB, 5,true⟩]:=by
 refine SpecH.run T_ok ah Tryz.func158 rfl rfl rfl ⟨rfl,eW _,cR _,trivial⟩ rfl 1000 64 (λ R ok=>(.s 5 (.nils 7 34 2 187 (Hn.inl T_ok ah false 85 2 (aq Tryz.prog 158 0) (λ(x:(c:Rs)×'(hc:bc n c)×'(many:Nat)×'(hm:many<=N+139)×'(r:List Rn)×'(hr:r.length<=many)×'(hr2:r.length<=N)×'(hB:∀i,(r.getD i mq).x<=1000000∧(r.getD i mq).s<=1000000)×'(hR:lnZF b l N (N-many) c many r=fm b l N s)×'Unit)=>match x with|⟨c,hc,many,hm,r,hr,hr2,hB,hR,_⟩=>Vn [(0,Vh 0 0 0),(2,zN N),(4,Vh 24 24 0),(7,(U6 32 32 0 (r.length) 2)),(8,nD many)] [⟨0,0,0,0,.b ⟨[.sl false n 1 (b.map dB),nD (c).p,nD (c).e],95,false⟩⟩,⟨1,1,1,1,.b ⟨map nD (af l),3,true⟩⟩,⟨24,24,2,2,.b ⟨[zN (aa l 0),zN (aa l 1),zN (aa l 2),zN (aa l 3),zN (aa l 4),zN (aa l 5),zN (aa l 6),zN (aa l 7),zN (aa l 8),zN (aa l 9),zN (aa l 10),zN (aa l 11),zN (aa l 12),zN (aa l 13),zN (aa l 14),zN (aa l 15),U6 1 1 0 (length (af l)) 1],154,false⟩⟩,⟨32,32,34,34,.b ⟨r.flatMap ce,187,true⟩⟩] 40) (λ(x:(c:Rs)×'(hc:bc n c)×'(many:Nat)×'(hm:many<=N+139)×'(r:List Rn)×'(hr:r.length<=many)×'(hr2:r.length<=N)×'(hB:∀i,(r.getD i mq).x<=1000000∧(r.getD i mq).s<=1000000)×'(hR:lnZF b l N (N-many) c many r=fm b l N s)×'Unit)=>match x with|⟨c,hc,many,hm,r,hr,hr2,hB,hR,_⟩=>N-many) [⟨(hc2:bc n (fm b l N s).1)×'(hr3:(fm b l N s).2.length<=N)×'(hB2:∀i,((fm b l N s).2.getD i mq).x<=1000000∧((fm b l N s).2.getD i mq).s<=1000000)×'Unit,.exit 0,λ x=>match x with|⟨hc2,hr3,hB2,_⟩=>Vn [(0,Vh 0 0 0),(2,zN N),(4,Vh 24 24 0),(7,(U6 32 32 0 ((fm b l N s).2.length) 2))] [⟨0,0,0,0,.b ⟨[.sl false n 1 (b.map dB),nD ((fm b l N s).1).p,nD ((fm b l N s).1).e],95,false⟩⟩,⟨1,1,1,1,.b ⟨map nD (af l),3,true⟩⟩,⟨24,24,2,2,.b ⟨[zN (aa l 0),zN (aa l 1),zN (aa l 2),zN (aa l 3),zN (aa l 4),zN (aa l 5),zN (aa l 6),zN (aa l 7),zN (aa l 8),zN (aa l 9),zN (aa l 10),zN (aa l 11),zN (aa l 12),zN (aa l 13),zN (aa l 14),zN (aa l 15),U6 1 1 0 (length (af l)) 1],154,false⟩⟩,⟨32,32,34,34,.b ⟨(fm b l N s).2.flatMap ce,187,true⟩⟩] 40⟩] 1000 64 (fun|⟨c,hc,many,hm,r,hr,hr2,hB,hR,_⟩,Q,ZA,ZD=>(.s 6 (.bd ((many:Int)<N) (λ p0 Z7=>(.s 14 (.br ((↑(Rs.e c):Int)==0) (λ p1=>have Z6:=eq_of_beq p1;(.s 6 (.call 122 true [0,1] (true) wr ([Vh 0 0 0,Wp [zN (aa l 0),zN (aa l 1),zN (aa l 2),zN (aa l 3),zN (aa l 4),zN (aa l 5),zN (aa l 6),zN (aa l 7),zN (aa l 8),zN (aa l 9),zN (aa l 10),zN (aa l 11),zN (aa l 12),zN (aa l 13),zN (aa l 14),zN (aa l 15),U6 1 1 0 (length (af l)) 1]]) _ (by exact(qr (qr trivial))) (true&&(ab (map nD (af l))&&true)) (by(simp;done)) _ _ _ (VC (az.of Tryz.func122 rfl rfl) (@D8 (b) (n) om om (c) om (l) om)) (.s 3 (.cl 113 false [] (.fn Ca (@yD (aN b l c) nE)) (.s 11 (.cl 119 true [0] (.fn fx (@fk (b) (n) om om (bk b l c) (by(subst hn;exact hc.sy _)) ((↑(rb (aN b l c)):Int)) nE)) (.s 15 (.chk (true&&U5 (length r*2) (length (flatMap ce r))&&true&&true&&true&&true&&U7 ((length r+1)*16) 140737488355328) (by(rw[ba (k:=2) (λ _=>rfl)];simp;omega)) (.s 5 (.br ((↑(aN b l c):Int)==18) (λ p2=>have Z5:=eq_of_beq p2;(.s 9 (.op (11+(↑(aY b (rb (aN b l c)) (bk b l c)):Int)) nE (.s 2 (.op (many+(11+(↑(aY b (rb (aN b l c)) (bk b l c)):Int))) nE (.s 8 (.bd ((many:Int)+(11+(↑(aY b (rb (aN b l c)) (bk b l c)):Int))<=(N:Int)) (λ p3 Z4=>(.s 6 (.t ((↑(aN b l c):Int) !=16) Jz (.s 8 (.cl 73 true [0] (.fn jx (@ci (b) (n) om om (bA b (rb (aN b l c)) (bk b l c)) (true) (132) om)) (.val 7 (U6 288 288 0 (length r+1) 2) (U6 288 288 0 (length (r++[Rn.mk (aN b l c) (aY b (rb (aN b l c)) (bk b l c))])) 2) Ba (.val 8 (zI (many+(11+(↑(aY b (rb (aN b l c)) (bk b l c)):Int)))) (zN (many+bh (Rn.mk (aN b l c) (aY b (rb (aN b l c)) (bk b l c))))) Bb (.blk 0 0 (U1 [Vl false n 1 (map dB b),zN (Rs.p (fl (bA b (rb (aN b l c)) (bk b l c)) true 132)),zN (Rs.e (fl (bA b (rb (aN b l c)) (bk b l c)) true 132))] 95 false) (U1 [Vl false n 1 (map dB b),zN (Rs.p (nC b l N c many (length r))),zN (Rs.e (nC b l N c many (length r)))] 95 false) Bc (.blk 288 288 (U1 (flatMap ce r++[zN (aN b l c),zN (aY b (rb (aN b l c)) (bk b l c))]) 187 true) (U1 (flatMap ce (r++[Rn.mk (aN b l c) (aY b (rb (aN b l c)) (bk b l c))])) 187 true) (by(simp;done)) (Hn.next ZA ⟨(nC b l N c many r.length),Bd,(many+bh (gr b l c)),nE,(r++[gr b l c]),nF,nF,Be,Bf,⟨⟩⟩ Bg [(0,0),(1,1),(24,24),(288,288)] ro)))))))))) (λ p3 Z4=>(.s 11 (.cl 73 true [0] (.fn jx (@ci (b) (n) om om (bA b (rb (aN b l c)) (bk b l c)) (false) (132) om)) (.val 7 (U6 288 288 0 (length r+1) 2) (U6 288 288 0 (length (r++[Rn.mk (aN b l c) (aY b (rb (aN b l c)) (bk b l c))])) 2) Ba (.val 8 (zI (many+(11+(↑(aY b (rb (aN b l c)) (bk b l c)):Int)))) (zN (many+bh (Rn.mk (aN b l c) (aY b (rb (aN b l c)) (bk b l c))))) Bb (.blk 0 0 (U1 [Vl false n 1 (map dB b),zN (Rs.p (fl (bA b (rb (aN b l c)) (bk b l c)) false 132)),zN (Rs.e (fl (bA b (rb (aN b l c)) (bk b l c)) false 132))] 95 false) (U1 [Vl false n 1 (map dB b),zN (Rs.p (nC b l N c many (length r))),zN (Rs.e (nC b l N c many (length r)))] 95 false) Bc (.blk 288 288 (U1 (flatMap ce r++[zN (aN b l c),zN (aY b (rb (aN b l c)) (bk b l c))]) 187 true) (U1 (flatMap ce (r++[Rn.mk (aN b l c) (aY b (rb (aN b l c)) (bk b l c))])) 187 true) (by(simp;done)) (Hn.next ZA ⟨(nC b l N c many r.length),Bd,(many+bh (gr b l c)),nE,(r++[gr b l c]),nF,nF,Be,Bf,⟨⟩⟩ Bg [(0,0),(1,1),(24,24),(288,288)] ro))))))))))))))) (λ p2=>have Z5:=ap p2;(.s 4 (.bd (16<=(↑(aN b l c):Int)) (λ p4 Z3=>(.s 9 (.op (3+(↑(aY b (rb (aN b l c)) (bk b l c)):Int)) nE (.s 2 (.op (many+(3+(↑(aY b (rb (aN b l c)) (bk b l c)):Int))) nE (.s 8 (.bd ((many:Int)+(3+(↑(aY b (rb (aN b l c)) (bk b l c)):Int))<=(N:Int)) (λ p5 p5f=>(.s 6 (.br ((↑(aN b l c):Int) !=16) (λ p6=>have p6f:=cS p6;(.s 8 (.cl 73 true [0] (.fn jx (@ci (b) (n) om om (bA b (rb (aN b l c)) (bk b l c)) (true) (132) om)) (.val 7 (U6 288 288 0 (length r+1) 2) (U6 288 288 0 (length (r++[Rn.mk (aN b l c) (aY b (rb (aN b l c)) (bk b l c))])) 2) Ba (.val 8 (zI (many+(3+(↑(aY b (rb (aN b l c)) (bk b l c)):Int)))) (zN (many+bh (Rn.mk (aN b l c) (aY b (rb (aN b l c)) (bk b l c))))) Bb (.blk 0 0 (U1 [Vl false n 1 (map dB b),zN (Rs.p (fl (bA b (rb (aN b l c)) (bk b l c)) true 132)),zN (Rs.e (fl (bA b (rb (aN b l c)) (bk b l c)) true 132))] 95 false) (U1 [Vl false n 1 (map dB b),zN (Rs.p (nC b l N c many (length r))),zN (Rs.e (nC b l N c many (length r)))] 95 false) Bc (.blk 288 288 (U1 (flatMap ce r++[zN (aN b l c),zN (aY b (rb (aN b l c)) (bk b l c))]) 187 true) (U1 (flatMap ce (r++[Rn.mk (aN b l c) (aY b (rb (aN b l c)) (bk b l c))])) 187 true) (by(simp;done)) (Hn.next ZA ⟨(nC b l N c many r.length),Bd,(many+bh (gr b l c)),nE,(r++[gr b l c]),nF,nF,Be,Bf,⟨⟩⟩ Bg [(0,0),(1,1),(24,24),(288,288)] ro)))))))) (λ p6=>have p6f:=cT p6;(.s 9 (.cl 73 true [0] (.fn jx (@ci (b) (n) om om (bA b (rb (aN b l c)) (bk b l c)) (decide (1<(↑(length r+1):Int))) (132) om)) (.val 7 (U6 288 288 0 (length r+1) 2) (U6 288 288 0 (length (r++[Rn.mk (aN b l c) (aY b (rb (aN b l c)) (bk b l c))])) 2) Ba (.val 8 (zI (many+(3+(↑(aY b (rb (aN b l c)) (bk b l c)):Int)))) (zN (many+bh (Rn.mk (aN b l c) (aY b (rb (aN b l c)) (bk b l c))))) Bb (.blk 0 0 (U1 [Vl false n 1 (map dB b),zN (Rs.p (fl (bA b (rb (aN b l c)) (bk b l c)) (decide (1<(↑(length r+1):Int))) 132)),zN (Rs.e (fl (bA b (rb (aN b l c)) (bk b l c)) (decide (1<(↑(length r+1):Int))) 132))] 95 false) (U1 [Vl false n 1 (map dB b),zN (Rs.p (nC b l N c many (length r))),zN (Rs.e (nC b l N c many (length r)))] 95 false) Bc (.blk 288 288 (U1 (flatMap ce r++[zN (aN b l c),zN (aY b (rb (aN b l c)) (bk b l c))]) 187 true) (U1 (flatMap ce (r++[Rn.mk (aN b l c) (aY b (rb (aN b l c)) (bk b l c))])) 187 true) (by(simp;done)) (Hn.next ZA ⟨(nC b l N c many r.length),Bd,(many+bh (gr b l c)),nE,(r++[gr b l c]),nF,nF,Be,Bf,⟨⟩⟩ Bg [(0,0),(1,1),(24,24),(288,288)] ro))))))))))) (λ p5 p5f=>(.s 11 (.cl 73 true [0] (.fn jx (@ci (b) (n) om om (bA b (rb (aN b l c)) (bk b l c)) (false) (132) om)) (.val 7 (U6 288 288 0 (length r+1) 2) (U6 288 288 0 (length (r++[Rn.mk (aN b l c) (aY b (rb (aN b l c)) (bk b l c))])) 2) Ba (.val 8 (zI (many+(3+(↑(aY b (rb (aN b l c)) (bk b l c)):Int)))) (zN (many+bh (Rn.mk (aN b l c) (aY b (rb (aN b l c)) (bk b l c))))) Bb (.blk 0 0 (U1 [Vl false n 1 (map dB b),zN (Rs.p (fl (bA b (rb (aN b l c)) (bk b l c)) false 132)),zN (Rs.e (fl (bA b (rb (aN b l c)) (bk b l c)) false 132))] 95 false) (U1 [Vl false n 1 (map dB b),zN (Rs.p (nC b l N c many (length r))),zN (Rs.e (nC b l N c many (length r)))] 95 false) Bc (.blk 288 288 (U1 (flatMap ce r++[zN (aN b l c),zN (aY b (rb (aN b l c)) (bk b l c))]) 187 true) (U1 (flatMap ce (r++[Rn.mk (aN b l c) (aY b (rb (aN b l c)) (bk b l c))])) 187 true) (by(simp;done)) (Hn.next ZA ⟨(nC b l N c many r.length),Bd,(many+bh (gr b l c)),nE,(r++[gr b l c]),nF,nF,Be,Bf,⟨⟩⟩ Bg [(0,0),(1,1),(24,24),(288,288)] ro))))))))))))))) (λ p4 Z3=>(.s 3 (.ow (many+1) (.s 8 (.t (decide ((many:Int)+1<=N)) aF (.s 6 (.t ((↑(aN b l c):Int) !=16) Jz (.s 8 (.cl 73 true [0] (.fn jx (@ci (b) (n) om om (bA b (rb (aN b l c)) (bk b l c)) (true) (132) om)) (.val 7 (U6 288 288 0 (length r+1) 2) (U6 288 288 0 (length (r++[Rn.mk (aN b l c) (aY b (rb (aN b l c)) (bk b l c))])) 2) Ba (.val 8 (zI (many+1)) (zN (many+bh (Rn.mk (aN b l c) (aY b (rb (aN b l c)) (bk b l c))))) Bb (.blk 0 0 (U1 [Vl false n 1 (map dB b),zN (Rs.p (fl (bA b (rb (aN b l c)) (bk b l c)) true 132)),zN (Rs.e (fl (bA b (rb (aN b l c)) (bk b l c)) true 132))] 95 false) (U1 [Vl false n 1 (map dB b),zN (Rs.p (nC b l N c many (length r))),zN (Rs.e (nC b l N c many (length r)))] 95 false) Bc (.blk 288 288 (U1 (flatMap ce r++[zN (aN b l c),zN (aY b (rb (aN b l c)) (bk b l c))]) 187 true) (U1 (flatMap ce (r++[Rn.mk (aN b l c) (aY b (rb (aN b l c)) (bk b l c))])) 187 true) (by(simp;done)) (Hn.next ZA ⟨(nC b l N c many r.length),Bd,(many+bh (gr b l c)),nE,(r++[gr b l c]),nF,nF,Be,Bf,⟨⟩⟩ Bg [(0,0),(1,1),(24,24),(288,288)] ro)))))))))))))))))))))))))))) (λ p1=>have Z6:=ap p1;(.val 7 (U6 32 32 0 (length r) 2) (U6 32 32 0 (length (U0 (fm b l N s))) 2) nG (.blk 0 0 (U1 [Vl false n 1 (map dB b),zN (Rs.p c),zN (Rs.e c)] 95 false) (U1 [Vl false n 1 (map dB b),zN (Rs.p (Va (fm b l N s))),zN (Rs.e (Va (fm b l N s)))] 95 false) nG (.blk 32 32 (U1 (flatMap ce r) 187 true) (U1 (flatMap ce (U0 (fm b l N s))) 187 true) nG (Hn.last ZD 0 (⟨nG,nG,nG,⟨⟩⟩:(hc2:bc n (fm b l N s).1)×'(hr3:(fm b l N s).2.length<=N)×'(hB2:∀i,((fm b l N s).2.getD i mq).x<=1000000∧((fm b l N s).2.getD i mq).s<=1000000)×'Unit) rfl [(0,0),(1,1),(24,24),(32,32)] ro)))))))) (λ p0 Z7=>(.s 10 (.val 7 (U6 32 32 0 (length r) 2) (U6 32 32 0 (length (U0 (fm b l N s))) 2) nG (.blk 0 0 (U1 [Vl false n 1 (map dB b),zN (Rs.p c),zN (Rs.e c)] 95 false) (U1 [Vl false n 1 (map dB b),zN (Rs.p (Va (fm b l N s))),zN (Rs.e (Va (fm b l N s)))] 95 false) nG (.blk 32 32 (U1 (flatMap ce r) 187 true) (U1 (flatMap ce (U0 (fm b l N s))) 187 true) nG (Hn.last ZD 0 (⟨nG,nG,nG,⟨⟩⟩:(hc2:bc n (fm b l N s).1)×'(hr3:(fm b l N s).2.length<=N)×'(hB2:∀i,((fm b l N s).2.getD i mq).x<=1000000∧((fm b l N s).2.getD i mq).s<=1000000)×'Unit) rfl [(0,0),(1,1),(24,24),(32,32)] ro))))))))) (fun|⟨c,hc,many,hm,r,hr,hr2,hB,hR,_⟩=>by kernel_rfl) ⟨(s),om,(0),om,([]),(by(simp;done)),(by(simp;done)),(by(exact Mj)),(by(exact(pO b l N s).symm)),⟨⟩⟩ [(0,0),(1,1),(2,2),(34,34)] ro (ck (fun|⟨hc2,hr3,hB2,_⟩=>(.s 3 (.call 181 false [] (true&&(true&&U7 (0+length (U0 (fm b l N s))*2) (length (flatMap ce (U0 (fm b l N s))))&&true&&ab (bif true&&U5 (length (U0 (fm b l N s))*2) (length (flatMap ce (U0 (fm b l N s))))then flatMap ce (U0 (fm b l N s))else take (length (U0 (fm b l N s))*2) (drop 0 (flatMap ce (U0 (fm b l N s))))))&&true) (by(rw[ba (k:=2) (λ _=>rfl)];simp;done)) ([Vl (U7 1 (length (U0 (fm b l N s)))) (length (U0 (fm b l N s))) 2 (bif true&&U5 (length (U0 (fm b l N s))*2) (length (flatMap ce (U0 (fm b l N s))))then flatMap ce (U0 (fm b l N s))else take (length (U0 (fm b l N s))*2) (drop 0 (flatMap ce (U0 (fm b l N s))))),zN N]) _ (by exact(VR (D.sim.slw rfl (bW (by(rw[ba (k:=2) (λ _=>rfl)];simp;done))|>.trans rfl)) (qr trivial))) (true) wr _ _ _ (VC (az.of Tryz.func181 rfl rfl) (@Qz (U0 (fm b l N s)) (length (U0 (fm b l N s))) om om (N) om om)) (.s 12 (.cl 73 true [0] (.fn jx (@ci (b) (n) om om (Va (fm b l N s)) ((↑(U0 (cv N (U0 (fm b l N s)))):Int)==0) (132) om)) (.s 2 (.out [0,1,56] [0,1,56] (U6 2 2 0 (length (Va (cv N (U0 (fm b l N s))))) 1) [U1 [Vl false n 1 (map dB b),zN (Rs.p (fl (Va (fm b l N s)) ((↑(U0 (cv N (U0 (fm b l N s)))):Int)==0) 132)),zN (Rs.e (fl (Va (fm b l N s)) ((↑(U0 (cv N (U0 (fm b l N s)))):Int)==0) 132))] 95 false,U1 (map nD (af l)) 3 true,U1 (map dB (Va (cv N (U0 (fm b l N s))))) 5 true] R (ok _ _ (by exact rfl) (by exact rfl)))))))))))))) kr
theorem GZ {p:Prop}(h:p:=by(refine Ea z4 ?_;rw[Bool.eq_iff_iff];simp;omega)):p:=h
theorem G0 {p:Prop}(h:p:=by(have h9:=tG i;have h8:=eH b s4 i;have h7:=bP b 3 (cV b s4 i);omega)):p:=h
theorem G1 {p:Prop}(h:p:=by(refine decide_eq_true ?_;have h9:=tG i;have h8:=eH b s4 i;have h7:=bP b 3 (cV b s4 i);omega)):p:=h
theorem G2 {p:Prop}(h:p:=by(simp only[VM,Vj,eH];refine U8 ?_;have h9:=tG i;omega)):p:=h
theorem G3 {p:Prop}(h:p:=by(refine aR ?_;(omega))):p:=h
theorem G4 {p:Prop}(h:p:=by(refine aB (Ha (by simp only[VG,VK]) ?_);first|exact Hc _ _|exact He _ _)):p:=h
theorem G5 {p:Prop}(h:p:=by show h+4-(i+1)<h+4-i;clear ZA ZD;omega):p:=h
theorem G6 {p:Prop}(h:p:=by(rw[show i=h+4 from by(omega),z5])):p:=h
theorem G7 {p:Prop}(h:p:=by(rw[show i=h+4 from by(omega),x5])):p:=h
theorem G8 {p:Prop}(h:p:=by exact(qr (qr (qr trivial)))):p:=h
theorem JA {p:Prop}(h:p:=by exact(VR (D.sim.slw rfl ((bj (o) (0) (AB ((g:Int)+257)*1)).trans (by(simp;done)))) (qr trivial))):p:=h
theorem l9 (b:Z1)(n:Nat)(hn:n=b.length)(hN:n<=1000000)(s:Rs)(hs:bc n s)(x:Nat)(z:Rs)(hx:aY b 1 s=x)(hz:bA b 1 s=z):S1 119 [.ptr 0 0 0,iD 1] [⟨[.sl false n 1 (b.map dB),nD (s).p,nD (s).e], 95,false⟩] (nD x) [⟨[.sl false n 1 (b.map dB),nD (z).p,nD (z).e], 95,false⟩]:=by
 subst hx hz;exact fk b n hn hN s hs 1 (by decide)
theorem ma (b:Z1)(n:Nat)(hn:n=b.length)(hN:n<=1000000)(s:Rs)(hs:bc n s)(x:Nat)(z:Rs)(hx:aY b 2 s=x)(hz:bA b 2 s=z):S1 119 [.ptr 0 0 0,iD 2] [⟨[.sl false n 1 (b.map dB),nD (s).p,nD (s).e], 95,false⟩] (nD x) [⟨[.sl false n 1 (b.map dB),nD (z).p,nD (z).e], 95,false⟩]:=by
 subst hx hz;exact fk b n hn hN s hs 2 (by decide)
theorem zK (b:Z1)(n:Nat)(hn:n=b.length)(hN:n<=1000000)(s:Rs)(hs:bc n s)(x:Nat)(z:Rs)(hx:aY b 4 s=x)(hz:bA b 4 s=z):S1 119 [.ptr 0 0 0,iD 4] [⟨[.sl false n 1 (b.map dB),nD (s).p,nD (s).e], 95,false⟩] (nD x) [⟨[.sl false n 1 (b.map dB),nD (z).p,nD (z).e], 95,false⟩]:=by
 subst hx hz;exact fk b n hn hN s hs 4 (by decide)
theorem oa (b:Z1)(n:Nat)(hn:n=b.length)(hN:n<=1000000)(s:Rs)(hs:bc n s)(x:Nat)(z:Rs)(hx:aY b 5 s=x)(hz:bA b 5 s=z):S1 119 [.ptr 0 0 0,iD 5] [⟨[.sl false n 1 (b.map dB),nD (s).p,nD (s).e], 95,false⟩] (nD x) [⟨[.sl false n 1 (b.map dB),nD (z).p,nD (z).e], 95,false⟩]:=by
 subst hx hz;exact fk b n hn hN s hs 5 (by decide)
theorem vO (b:Z1)(n:Nat)(hn:n=b.length)(hN:n<=1000000)(s:Rs)(hs:bc n s)(x:Nat)(z:Rs)(hx:aY b 16 s=x)(hz:bA b 16 s=z):S1 119 [.ptr 0 0 0,iD 16] [⟨[.sl false n 1 (b.map dB),nD (s).p,nD (s).e], 95,false⟩] (nD x) [⟨[.sl false n 1 (b.map dB),nD (z).p,nD (z).e], 95,false⟩]:=by
 subst hx hz;exact fk b n hn hN s hs 16 (by decide)
structure FlE (s:Rs)(c:Bool)(x:Nat)(z:Rs):Prop where
 h:fl s c x=z
theorem ik (b:Z1)(n:Nat)(hn:n=b.length)(hN:n<=1000000)(s:Rs)(c:Bool)(z:Rs)(hz:FlE s c 130 z):S1 73 [.ptr 0 0 0,bD c,iD 130] [⟨[.sl false n 1 (b.map dB),nD (s).p,nD (s).e], 95,false⟩] (.tup []) [⟨[.sl false n 1 (b.map dB),nD (z).p,nD (z).e], 95,false⟩]:=by
 have hz:=hz.h;subst hz;exact ci b n hn hN s c 130 (by decide)
theorem Bi (b:Z1)(n:Nat)(hn:n=b.length)(hN:n<=1000000)(s:Rs)(c:Bool)(z:Rs)(hz:FlE s c 131 z):S1 73 [.ptr 0 0 0,bD c,iD 131] [⟨[.sl false n 1 (b.map dB),nD (s).p,nD (s).e], 95,false⟩] (.tup []) [⟨[.sl false n 1 (b.map dB),nD (z).p,nD (z).e], 95,false⟩]:=by
 have hz:=hz.h;subst hz;exact ci b n hn hN s c 131 (by decide)
theorem eo (b:Z1)(n:Nat)(hn:n=b.length)(hN:n<=1000000)(s:Rs)(c:Bool)(z:Rs)(hz:FlE s c 132 z):S1 73 [.ptr 0 0 0,bD c,iD 132] [⟨[.sl false n 1 (b.map dB),nD (s).p,nD (s).e], 95,false⟩] (.tup []) [⟨[.sl false n 1 (b.map dB),nD (z).p,nD (z).e], 95,false⟩]:=by
 have hz:=hz.h;subst hz;exact ci b n hn hN s c 132 (by decide)
theorem oc (b:Z1)(n:Nat)(hn:n=b.length)(hN:n<=1000000)(s:Rs)(hs:bc n s)(o:Z1)(off k:Nat)(hk:off+k<=o.length)(hK:o.length<=1000000)(l:Z1)(hl:l=(o.drop off).take k)(t:Z1)(z:Rs)(ht:fN l 7=t)(hz:fl s (((aG l 7:Nat):Int)==0) 132=z):S1 120 [.ptr 0 0 0,.ref 1 1 off k 1,iD 7] [⟨[.sl false n 1 (b.map dB),nD (s).p,nD (s).e], 95,false⟩,⟨(o).map dB, 5,true⟩] (.agg (dZ (aa t)++[.ref 2 2 0 (af t).length 1])) [⟨[.sl false n 1 (b.map dB),nD (z).p,nD (z).e], 95,false⟩,⟨(o).map dB, 5,true⟩,⟨(af t).map nD, 3,true⟩]:=by
 subst ht hz;exact D9 b n hn hN s hs o off k hk hK l hl 7 (by decide)
theorem il (b:Z1)(n:Nat)(hn:n=b.length)(hN:n<=1000000)(s:Rs)(hs:bc n s)(o:Z1)(off k:Nat)(hk:off+k<=o.length)(hK:o.length<=1000000)(l:Z1)(hl:l=(o.drop off).take k)(t:Z1)(z:Rs)(ht:fN l 15=t)(hz:fl s (((aG l 15:Nat):Int)==0) 132=z):S1 120 [.ptr 0 0 0,.ref 1 1 off k 1,iD 15] [⟨[.sl false n 1 (b.map dB),nD (s).p,nD (s).e], 95,false⟩,⟨(o).map dB, 5,true⟩] (.agg (dZ (aa t)++[.ref 2 2 0 (af t).length 1])) [⟨[.sl false n 1 (b.map dB),nD (z).p,nD (z).e], 95,false⟩,⟨(o).map dB, 5,true⟩,⟨(af t).map nD, 3,true⟩]:=by
 subst ht hz;exact D9 b n hn hN s hs o off k hk hK l hl 15 (by decide)
theorem G9 (b:Z1)(n:Nat)(hn:n=b.length)(hN:n<=1000000)(s:Rs)(hs:bc n s)(l:Z1)(hT:aG l 15=0)(hl:l.length<=19)(N:Nat)(Ni:Int)(o:Z1)(z:Rs)(ho:GV b l N s=o)(hz:xu b l N s=z)(hNi:Ni=N)(hNN:N<=320):S1 158 [.ptr 0 0 0,.agg (dZ (aa l)++[.ref 1 1 0 (af l).length 1]),iD Ni] [⟨[.sl false n 1 (b.map dB),nD (s).p,nD (s).e], 95,false⟩,⟨(af l).map nD, 3,true⟩] (.ref 2 2 0 o.length 1) [⟨[.sl false n 1 (b.map dB),nD (z).p,nD (z).e], 95,false⟩,⟨(af l).map nD, 3,true⟩,⟨(o).map dB, 5,true⟩]:=by
 subst hz ho hNi;exact QE b n hn hN s hs l hT hl N hNN
theorem JB (l:Z1)(n:Nat)(hn:n=l.length)(hN:n<=1000000)(L:Z1)(hl:l=L):S0 148 [.sl false n 1 (l.map dB),iD 15] [] (nD (aG L 15)) []:=by
 subst hl;exact Mf l n hn hN 15 (by decide)
def vP:List Nat:=[16,17,18,0,8,7,9,6,10,5,11,4,12,3,13,2,14,1,15]
def cK (i:Nat):Nat:=vP.getD i 0
def cV (b:Z1)(s:Rs):Nat->Rs
 |0=>s
 |i+1=>bA b 3 (cV b s i)
def im (b:Z1)(s:Rs):Nat->Z1
 |0=>Vk 19 0
 |i+1=>(im b s i).set (cK i) (V6 (aY b 3 (cV b s i)))
theorem eH (b:Z1)(s:Rs):∀i,(im b s i).length=19
 |0=>rfl
 |i+1=>by rw[im,List.length_set];exact eH b s i
theorem bc.rw {b:Z1}{s:Rs}(h:bc b.length s):∀i,bc b.length (cV b s i)
 |0=>h
 |i+1=>(bc.rw h i).tk 3
theorem tG (i:Nat):cK i<19:=by
 unfold cK;rcases VL i 19 with h|h
 ·have:∀j:Fin 19,vP.getD j.1 0<19:=by decide
  exact this ⟨i,h⟩
 ·rw[UZ,VF (by exact h)];decide
theorem Mk (i:Nat)(h:i<19):(vP.map nD)[i]? =some (nD (cK i)):=by
 unfold cK;rw[Vu,UZ,U4 (by exact h)];rfl
theorem zL (i:Nat)(h:i<19):(vP.map nD)[0+i*1]? =some (nD (cK i)):=by rw[VG,VK];exact Mk i h
theorem Ha {b:Z1}{s:Rs}{i o:Nat}{d:D}(ho:o=cK i)(hd:d=dB (V6 (aY b 3 (cV b s i)))):ai ((im b s i).map dB) o [d]=(im b s (i+1)).map dB:=by
 have h1:=tG i;have h2:=eH b s i;subst ho hd;apply List.ext_getElem?;intro j;rw[cD (by simp only[Vj,VP];omega),VP,im,Vu,Vu,List.getElem?_set]
 by_cases h:j=cK i
 ·subst h
  rw[ZF ⟨Vd _,by omega⟩,ZF rfl,ZF om,Wn];rfl
 ·rw[ZE om,ZE (λ q=>h q.symm)]
structure DyA (b:Z1)(s:Rs)(g f h:Nat)(s1 s2 s3 s4 s5 s6 s7 s8:Rs)(W t:Z1)(N:Nat)(o:Z1):Prop where
 x1:aY b 5 s=g
 z1:bA b 5 s=s1
 x2:aY b 5 s1=f
 z2:bA b 5 s1=s2
 x3:aY b 4 s2=h
 z3:bA b 4 s2=s3
 z4:fl s3 (decide (g+257<=286)&&decide (f+1<=30)) 132=s4
 z5:cV b s4 (h+4)=s5
 x5:im b s4 (h+4)=W
 x6:fN W 7=t
 z6:fl s5 (((aG W 7:Nat):Int)==0) 132=s6
 z7:FlE s6 (decide ((1:Int)<(((af t).length:Nat):Int))) 132 s7
 eN:N=g+257+(f+1)
 x8:GV b t N s7=o
 z8:xu b t N s7=s8
theorem vQ (n:Nat):∀(l:List Rn) (o:Z1),(cq n l o).2=0->(cq n l o).1.length=n
 |[],o,h=>by
  rw[cq]at *;split
  ·next q=>exact q
  ·next q=>rw[ZE q]at h;cases h
 |r::q,o,h=>by
  rw[cq]at *
  split
  ·next q=>rw[ZF q]at h;cases h
  ·next h1=>
   rw[ZE h1]at h
   split
   ·next q=>rw[ZF q]at h;cases h
   ·next h2=>
    rw[ZE h2]at h
    split
    ·next q=>rw[ZF q]at h;cases h
    ·next h3=>rw[ZE h3]at h;exact vQ n q _ h
theorem Hb {b t:Z1}{N:Nat}{s:Rs}(h:(xu b t N s).e=0):(GV b t N s).length=N:=by
 unfold xu at h;have h1:=xg (by decide) h;have h2:(cv N (fm b t N s).2).2=0:=by have:=h1.2.1;simpa using this
 unfold GV;rw[iS]at *;exact vQ _ _ _ h2
theorem Hc (b:Z1)(s:Rs):D.v (.int .u8 (((aY b 3 s:Nat):Int)%256))=dB (V6 (aY b 3 s)):=by
 unfold dB;rw[WQ];rfl
theorem He (b:Z1)(s:Rs):D.v (.int .u8 ((aY b 3 s:Nat):Int))=dB (V6 (aY b 3 s)):=by
 have h:=bP b 3 s;unfold dB;rw[WQ,Wq om]
theorem Ea {a:D}{S Z:Rs}{c d:Bool}{t:TypeId}{r:Bool}(h:fl S d 132=Z)(hc:c=d):(⟨[a,nD (fl S c 132).p,nD (fl S c 132).e],t,r⟩:Blk)=⟨[a,nD Z.p,nD Z.e],t,r⟩:=by rw[hc,h]
theorem QF (b:Z1)(n:Nat)(hn:n=b.length)(hN:n<=1000000)(s:Rs)(hs:bc n s)(kd le:Nat)(la:Bool)(g f h:Nat)(s1 s2 s3 s4 s5 s6 s7 s8:Rs)(W t:Z1)(N:Nat)(o:Z1)(D:DyA b s g f h s1 s2 s3 s4 s5 s6 s7 s8 W t N o)(he:s8.e≠0):S1 121 [.ptr 0 0 0,.ptr 1 1 0] [⟨[.sl false n 1 (b.map dB),nD (s).p,nD (s).e], 95,false⟩,⟨[fP kd,bD la,nD le]++eE++eE, 156,false⟩] (.tup []) [⟨[.sl false n 1 (b.map dB),nD (s8).p,nD (s8).e], 95,false⟩,⟨[fP kd,bD la,nD le]++eE++eE, 156,false⟩]:=by
 obtain⟨x1,z1,x2,z2,x3,z3,z4,z5,x5,x6,z6,z7,eN,x8,z8⟩:=D;have hg:g<32:=by rw[<-x1];exact bP b 5 s
 have hf:f<32:=by rw[<-x2];exact bP b 5 s1
 have hh:h<16:=by rw[<-x3];exact bP b 4 s2
 have r1:bc n s1:=by rw[<-z1];subst hn;exact hs.tk _
 have r2:bc n s2:=by rw[<-z2];subst hn;exact r1.tk _
 have r3:bc n s3:=by rw[<-z3];subst hn;exact r2.tk _
 have r4:bc n s4:=by rw[<-z4];exact r3.fl _ _
 have r5:bc n s5:=by rw[<-z5];subst hn;exact r4.rw _
 have r6:bc n s6:=by rw[<-z6];exact r5.fl _ _
 have r7:bc n s7:=by rw[<-z7.h];exact r6.fl _ _
 have hW:W.length=19:=by rw[<-x5];exact eH _ _ _
 have hT:aG t 15=0:=by rw[<-x6];exact tE W (by decide)
 have hl:t.length<=19:=by
  rw[<-x6]
  by_cases q:aG W 7=0
  ·rw[l8 q];omega
  ·rw[zJ q];exact VI _
 have hWl:W=(W.drop 0).take 19:=by rw[Wm,VB om]
 have r4i:∀i,bc n (cV b s4 i):=λ i=>by subst hn;exact r4.rw i
 refine SpecH.run T_ok ah Tryz.func121 rfl rfl rfl ⟨rfl,rfl,trivial⟩ rfl 1000 64 (λ R ok=>(.s 2 (.cl 119 true [0] (.fn fx (@oa (b) (n) om om (s) om (g) (s1) aF aF)) (.s 2 (.ow (g+257) (.s 2 (.cl 119 true [0] (.fn fx (@oa (b) (n) om om (s1) om (f) (s2) aF aF)) (.s 2 (.ow (f+1) (.s 2 (.cl 119 true [0] (.fn fx (@zK (b) (n) om om (s2) om (h) (s3) aF aF)) (.s 2 (.ow (h+4) (.s 9 (.bd ((g:Int)+257<=286) (λ p0 Z7=>(.s 5 (.cl 73 true [0] (.fn jx (@ci (b) (n) om om (s3) (decide ((f:Int)+1<=30)) (132) om)) (.s 4 (.cl 111 false [] (.fn B9 (@lD)) (.s 7 (.chk (aU none (some ((h:Int)+4)) none 19&&true&&true&&true) (by(simp <;>(omega))) (.s 2 (.blk 0 0 (U1 [Vl false n 1 (map dB b),zN (Rs.p (fl s3 (decide ((f:Int)+1<=30)) 132)),zN (Rs.e (fl s3 (decide ((f:Int)+1<=30)) 132))] 95 false) (U1 [Vl false n 1 (map dB b),zN (Rs.p (cV b s4 0)),zN (Rs.e (cV b s4 0))] 95 false) GZ (Hn.inl T_ok ah false 95 2 (aq Tryz.prog 121 0) (λ(x:(i:Nat)×'(hi:i<=h+4)×'Unit)=>match x with|⟨i,hi,_⟩=>Vn [(0,Vh 0 0 0),(1,Vh 1 1 0),(4,zI (g+257)),(5,zI (f+1)),(7,U6 24 24 0 19 1),(33,U6 32 32 0 (AB ((h:Int)+4)) 1),(34,zN (AB ((h:Int)+4))),(35,nD i)] [⟨0,0,0,0,.b ⟨[.sl false n 1 (b.map dB),nD (cV b s4 i).p,nD (cV b s4 i).e],95,false⟩⟩,⟨1,1,1,1,.b ⟨[bl kd,D.v (.bool la),zN le,zI 0,zI 0,zI 0,zI 0,zI 0,zI 0,zI 0,zI 0,zI 0,zI 0,zI 0,zI 0,zI 0,zI 0,zI 0,zI 0,zS,zI 0,zI 0,zI 0,zI 0,zI 0,zI 0,zI 0,zI 0,zI 0,zI 0,zI 0,zI 0,zI 0,zI 0,zI 0,zI 0,zS],156,false⟩⟩,⟨24,24,162,162,.b ⟨(im b s4 i).map dB,5,true⟩⟩,⟨32,32,186,186,.b ⟨[zI 16,zI 17,zI 18,zI 0,zI 8,zI 7,zI 9,zI 6,zI 10,zI 5,zI 11,zI 4,zI 12,zI 3,zI 13,zI 2,zI 14,zI 1,zI 15],185,false⟩⟩] 40) (λ(x:(i:Nat)×'(hi:i<=h+4)×'Unit)=>match x with|⟨i,hi,_⟩=>h+4-i) [⟨Unit,.exit 0,λ x=>match x with|()=>Vn [(0,Vh 0 0 0),(1,Vh 1 1 0),(4,zI (g+257)),(5,zI (f+1)),(7,U6 24 24 0 19 1),(33,U6 32 32 0 (AB ((h:Int)+4)) 1),(34,zN (AB ((h:Int)+4)))] [⟨0,0,0,0,.b ⟨[.sl false n 1 (b.map dB),nD (s5).p,nD (s5).e],95,false⟩⟩,⟨1,1,1,1,.b ⟨[bl kd,D.v (.bool la),zN le,zI 0,zI 0,zI 0,zI 0,zI 0,zI 0,zI 0,zI 0,zI 0,zI 0,zI 0,zI 0,zI 0,zI 0,zI 0,zI 0,zS,zI 0,zI 0,zI 0,zI 0,zI 0,zI 0,zI 0,zI 0,zI 0,zI 0,zI 0,zI 0,zI 0,zI 0,zI 0,zI 0,zS],156,false⟩⟩,⟨24,24,162,162,.b ⟨W.map dB,5,true⟩⟩,⟨32,32,186,186,.b ⟨[zI 16,zI 17,zI 18,zI 0,zI 8,zI 7,zI 9,zI 6,zI 10,zI 5,zI 11,zI 4,zI 12,zI 3,zI 13,zI 2,zI 14,zI 1,zI 15],185,false⟩⟩] 40⟩] 1000 64 (fun|⟨i,hi,_⟩,Q,ZA,ZD=>(.s 2 (.bd ((i:Int)<(↑(AB ((h:Int)+4)):Int)) (λ p1 Z6=>(.s 1 (.chk (true&&decide ((i:Int)<(↑(AB ((h:Int)+4)):Int))) aF (.s 2 (.opt ((map nD vP)[0+i*1]?) (nD (cK i)) (@zL i om) (.s 5 (.cl 119 true [0] (.fn fx (@fk (b) (n) om om (cV b s4 i) (by(exact r4i _)) (3) om)) (.s 1 (.opt (ax .u8 (↑(aY b 3 (cV b s4 i)):Int)) (bl (aY b 3 (cV b s4 i))) (b4 G0) (.s 1 (.chk (true&&decide ((↑(cK i):Int)<(↑19:Int))) G1 (.s 1 (.chk (true&&U7 (0+cK i*1+1) (length (map dB (im b s4 i)))) G2 (.lst (ai (map dB (im b s4 i)) (0+cK i*1) [bl (aY b 3 (cV b s4 i))]) (ai (map dB (im b s4 i)) (cK i) [bl (aY b 3 (cV b s4 i))]) (by(simp;done)) (.s 2 (.ow (i+1) (.s 1 (.val 35 (zI (i+1)) (zN (i+1)) G3 (.blk 0 0 (U1 [Vl false n 1 (map dB b),zN (Rs.p (bA b 3 (cV b s4 i))),zN (Rs.e (bA b 3 (cV b s4 i)))] 95 false) (U1 [Vl false n 1 (map dB b),zN (Rs.p (cV b s4 (i+1))),zN (Rs.e (cV b s4 (i+1)))] 95 false) (by exact rfl) (.blk 24 24 (U1 (ai (map dB (im b s4 i)) (cK i) [bl (aY b 3 (cV b s4 i))]) 5 true) (U1 (map dB (im b s4 (i+1))) 5 true) G4 (Hn.next ZA ⟨(i+1),om,⟨⟩⟩ G5 [(0,0),(1,1),(24,24),(32,32)] ro))))))))))))))))))))) (λ p1 Z6=>(.blk 0 0 (U1 [Vl false n 1 (map dB b),zN (Rs.p (cV b s4 i)),zN (Rs.e (cV b s4 i))] 95 false) (U1 [Vl false n 1 (map dB b),zN (Rs.p s5),zN (Rs.e s5)] 95 false) G6 (.blk 24 24 (U1 (map dB (im b s4 i)) 5 true) (U1 (map dB W) 5 true) G7 (Hn.last ZD 0 (():Unit) rfl [(0,0),(1,1),(24,24),(32,32)] ro))))))) (fun|⟨i,hi,_⟩=>by kernel_rfl) ⟨(0),om,⟨⟩⟩ [(0,0),(1,1),(162,162),(186,186)] ro (ck (fun|()=>(.s 3 (.call 120 true [0,24] (true) wr ([Vh 0 0 0,U6 1 1 0 19 1,zI 7]) _ (cQ.refl _) (true&&(ab (map dB W)&&true)) (by(simp;done)) _ _ _ (VC (az.of Tryz.func120 rfl rfl) (@oc (b) (n) om om (s5) om (W) (0) (19) om om (W) aF (t) (s6) aF aF)) (.s 16 (.cl 73 true [0] (.fn jx (@eo (b) (n) om om (s6) (decide (1<(↑(length (af t)):Int))) (s7) aF)) (.s 9 (.ow (g+257+(f+1)) (.s 1 (.call 158 true [0,56] (true) wr ([Vh 0 0 0,Wp [zN (aa t 0),zN (aa t 1),zN (aa t 2),zN (aa t 3),zN (aa t 4),zN (aa t 5),zN (aa t 6),zN (aa t 7),zN (aa t 8),zN (aa t 9),zN (aa t 10),zN (aa t 11),zN (aa t 12),zN (aa t 13),zN (aa t 14),zN (aa t 15),U6 1 1 0 (length (af t)) 1],zI (g+257+(f+1))]) _ G8 (true&&(ab (map nD (af t))&&true)) (by(simp;done)) _ _ _ (VC (az.of Tryz.func158 rfl rfl) (@G9 (b) (n) om om (s7) om (t) om om (N) ((g:Int)+257+(f+1)) (o) (s8) aF aF om om)) (.s 11 (.t ((↑(Rs.e s8):Int) !=0) (by(simp <;>(omega))) (.out [0,1] [0,1] (V2 []) [U1 [Vl false n 1 (map dB b),zN (Rs.p s8),zN (Rs.e s8)] 95 false,U1 [bl kd,D.v (.bool la),zN le,zI 0,zI 0,zI 0,zI 0,zI 0,zI 0,zI 0,zI 0,zI 0,zI 0,zI 0,zI 0,zI 0,zI 0,zI 0,zI 0,zS,zI 0,zI 0,zI 0,zI 0,zI 0,zI 0,zI 0,zI 0,zI 0,zI 0,zI 0,zI 0,zI 0,zI 0,zI 0,zI 0,zS] 156 false] R (ok _ _ wr (by exact rfl))))))))))))))))))))))))) (λ p0 Z7=>(.s 4 (.cl 73 true [0] (.fn jx (@ci (b) (n) om om (s3) (false) (132) om)) (.s 4 (.cl 111 false [] (.fn B9 (@lD)) (.s 7 (.chk (aU none (some ((h:Int)+4)) none 19&&true&&true&&true) (by(simp <;>(omega))) (.s 2 (.blk 0 0 (U1 [Vl false n 1 (map dB b),zN (Rs.p (fl s3 false 132)),zN (Rs.e (fl s3 false 132))] 95 false) (U1 [Vl false n 1 (map dB b),zN (Rs.p (cV b s4 0)),zN (Rs.e (cV b s4 0))] 95 false) GZ (Hn.inl T_ok ah false 95 2 (aq Tryz.prog 121 0) (λ(x:(i:Nat)×'(hi:i<=h+4)×'Unit)=>match x with|⟨i,hi,_⟩=>Vn [(0,Vh 0 0 0),(1,Vh 1 1 0),(4,zI (g+257)),(5,zI (f+1)),(7,U6 24 24 0 19 1),(33,U6 32 32 0 (AB ((h:Int)+4)) 1),(34,zN (AB ((h:Int)+4))),(35,nD i)] [⟨0,0,0,0,.b ⟨[.sl false n 1 (b.map dB),nD (cV b s4 i).p,nD (cV b s4 i).e],95,false⟩⟩,⟨1,1,1,1,.b ⟨[bl kd,D.v (.bool la),zN le,zI 0,zI 0,zI 0,zI 0,zI 0,zI 0,zI 0,zI 0,zI 0,zI 0,zI 0,zI 0,zI 0,zI 0,zI 0,zI 0,zS,zI 0,zI 0,zI 0,zI 0,zI 0,zI 0,zI 0,zI 0,zI 0,zI 0,zI 0,zI 0,zI 0,zI 0,zI 0,zI 0,zS],156,false⟩⟩,⟨24,24,162,162,.b ⟨(im b s4 i).map dB,5,true⟩⟩,⟨32,32,186,186,.b ⟨[zI 16,zI 17,zI 18,zI 0,zI 8,zI 7,zI 9,zI 6,zI 10,zI 5,zI 11,zI 4,zI 12,zI 3,zI 13,zI 2,zI 14,zI 1,zI 15],185,false⟩⟩] 40) (λ(x:(i:Nat)×'(hi:i<=h+4)×'Unit)=>match x with|⟨i,hi,_⟩=>h+4-i) [⟨Unit,.exit 0,λ x=>match x with|()=>Vn [(0,Vh 0 0 0),(1,Vh 1 1 0),(4,zI (g+257)),(5,zI (f+1)),(7,U6 24 24 0 19 1),(33,U6 32 32 0 (AB ((h:Int)+4)) 1),(34,zN (AB ((h:Int)+4)))] [⟨0,0,0,0,.b ⟨[.sl false n 1 (b.map dB),nD (s5).p,nD (s5).e],95,false⟩⟩,⟨1,1,1,1,.b ⟨[bl kd,D.v (.bool la),zN le,zI 0,zI 0,zI 0,zI 0,zI 0,zI 0,zI 0,zI 0,zI 0,zI 0,zI 0,zI 0,zI 0,zI 0,zI 0,zI 0,zS,zI 0,zI 0,zI 0,zI 0,zI 0,zI 0,zI 0,zI 0,zI 0,zI 0,zI 0,zI 0,zI 0,zI 0,zI 0,zI 0,zS],156,false⟩⟩,⟨24,24,162,162,.b ⟨W.map dB,5,true⟩⟩,⟨32,32,186,186,.b ⟨[zI 16,zI 17,zI 18,zI 0,zI 8,zI 7,zI 9,zI 6,zI 10,zI 5,zI 11,zI 4,zI 12,zI 3,zI 13,zI 2,zI 14,zI 1,zI 15],185,false⟩⟩] 40⟩] 1000 64 (fun|⟨i,hi,_⟩,Q,ZA,ZD=>(.s 2 (.bd ((i:Int)<(↑(AB ((h:Int)+4)):Int)) (λ p2 Z5=>(.s 1 (.chk (true&&decide ((i:Int)<(↑(AB ((h:Int)+4)):Int))) aF (.s 2 (.opt ((map nD vP)[0+i*1]?) (nD (cK i)) (@zL i om) (.s 5 (.cl 119 true [0] (.fn fx (@fk (b) (n) om om (cV b s4 i) (by(exact r4i _)) (3) om)) (.s 1 (.opt (ax .u8 (↑(aY b 3 (cV b s4 i)):Int)) (bl (aY b 3 (cV b s4 i))) (b4 G0) (.s 1 (.chk (true&&decide ((↑(cK i):Int)<(↑19:Int))) G1 (.s 1 (.chk (true&&U7 (0+cK i*1+1) (length (map dB (im b s4 i)))) G2 (.lst (ai (map dB (im b s4 i)) (0+cK i*1) [bl (aY b 3 (cV b s4 i))]) (ai (map dB (im b s4 i)) (cK i) [bl (aY b 3 (cV b s4 i))]) (by(simp;done)) (.s 2 (.ow (i+1) (.s 1 (.val 35 (zI (i+1)) (zN (i+1)) G3 (.blk 0 0 (U1 [Vl false n 1 (map dB b),zN (Rs.p (bA b 3 (cV b s4 i))),zN (Rs.e (bA b 3 (cV b s4 i)))] 95 false) (U1 [Vl false n 1 (map dB b),zN (Rs.p (cV b s4 (i+1))),zN (Rs.e (cV b s4 (i+1)))] 95 false) (by exact rfl) (.blk 24 24 (U1 (ai (map dB (im b s4 i)) (cK i) [bl (aY b 3 (cV b s4 i))]) 5 true) (U1 (map dB (im b s4 (i+1))) 5 true) G4 (Hn.next ZA ⟨(i+1),om,⟨⟩⟩ G5 [(0,0),(1,1),(24,24),(32,32)] ro))))))))))))))))))))) (λ p2 Z5=>(.blk 0 0 (U1 [Vl false n 1 (map dB b),zN (Rs.p (cV b s4 i)),zN (Rs.e (cV b s4 i))] 95 false) (U1 [Vl false n 1 (map dB b),zN (Rs.p s5),zN (Rs.e s5)] 95 false) G6 (.blk 24 24 (U1 (map dB (im b s4 i)) 5 true) (U1 (map dB W) 5 true) G7 (Hn.last ZD 0 (():Unit) rfl [(0,0),(1,1),(24,24),(32,32)] ro))))))) (fun|⟨i,hi,_⟩=>by kernel_rfl) ⟨(0),om,⟨⟩⟩ [(0,0),(1,1),(162,162),(186,186)] ro (ck (fun|()=>(.s 3 (.call 120 true [0,24] (true) wr ([Vh 0 0 0,U6 1 1 0 19 1,zI 7]) _ (cQ.refl _) (true&&(ab (map dB W)&&true)) (by(simp;done)) _ _ _ (VC (az.of Tryz.func120 rfl rfl) (@oc (b) (n) om om (s5) om (W) (0) (19) om om (W) aF (t) (s6) aF aF)) (.s 16 (.cl 73 true [0] (.fn jx (@eo (b) (n) om om (s6) (decide (1<(↑(length (af t)):Int))) (s7) aF)) (.s 9 (.ow (g+257+(f+1)) (.s 1 (.call 158 true [0,56] (true) wr ([Vh 0 0 0,Wp [zN (aa t 0),zN (aa t 1),zN (aa t 2),zN (aa t 3),zN (aa t 4),zN (aa t 5),zN (aa t 6),zN (aa t 7),zN (aa t 8),zN (aa t 9),zN (aa t 10),zN (aa t 11),zN (aa t 12),zN (aa t 13),zN (aa t 14),zN (aa t 15),U6 1 1 0 (length (af t)) 1],zI (g+257+(f+1))]) _ G8 (true&&(ab (map nD (af t))&&true)) (by(simp;done)) _ _ _ (VC (az.of Tryz.func158 rfl rfl) (@G9 (b) (n) om om (s7) om (t) om om (N) ((g:Int)+257+(f+1)) (o) (s8) aF aF om om)) (.s 11 (.t ((↑(Rs.e s8):Int) !=0) (by(simp <;>(omega))) (.out [0,1] [0,1] (V2 []) [U1 [Vl false n 1 (map dB b),zN (Rs.p s8),zN (Rs.e s8)] 95 false,U1 [bl kd,D.v (.bool la),zN le,zI 0,zI 0,zI 0,zI 0,zI 0,zI 0,zI 0,zI 0,zI 0,zI 0,zI 0,zI 0,zI 0,zI 0,zI 0,zI 0,zS,zI 0,zI 0,zI 0,zI 0,zI 0,zI 0,zI 0,zI 0,zI 0,zI 0,zI 0,zI 0,zI 0,zI 0,zI 0,zI 0,zS] 156 false] R (ok _ _ wr (by exact rfl)))))))))))))))))))))))))))))))))))))))) kr
structure DyB (G N:Nat)(o:Z1)(s8 s9 s10 s11 s12:Rs)(L1 L2 t1 t2:Z1):Prop where
 h8:s8.e=0
 z9:FlE s8 (decide ((0:Int)<(((o.getD 256 mq).toNat:Nat):Int))) 132 s9
 y1:L1=(o.drop 0).take G
 y2:L2=(o.drop G).take (N-G)
 z10:FlE s9 (((aG L1 15:Nat):Int)==0) 132 s10
 z11:fl s10 (((aG L1 15:Nat):Int)==0) 132=s11
 z12:fl s11 (((aG L2 15:Nat):Int)==0) 132=s12
 w1:fN L1 15=t1
 w2:fN L2 15=t2
theorem JC {o:Z1}{x y z w:Nat}(h:x=z)(h2:y=w):VX x (VW y o)=VX z (VW w o):=by rw[h,h2]
theorem Eb {b l:Z1}{N n:Nat}(hn:n=b.length):∀(k:Nat) (c:Rs) (many:Nat) (r:List Rn),bc n c->bc n (lnZF b l N k c many r).1
 |0,_,_,_,h=>h
 |k+1,c,many,r,h=>by
  rw[lnZF];split
  ·exact h
  ·exact Eb hn k _ _ _ (by subst hn;exact h.ln)
theorem Ec {b l:Z1}{N n:Nat}{s:Rs}(hn:n=b.length)(h:bc n s):bc n (xu b l N s):=by
 unfold xu;rw[pO];exact(Eb hn _ _ _ _ h).fl _ _
theorem QG (b:Z1)(n:Nat)(hn:n=b.length)(hN:n<=1000000)(s:Rs)(hs:bc n s)(kd le:Nat)(la:Bool)(g f h:Nat)(s1 s2 s3 s4 s5 s6 s7 s8:Rs)(W t:Z1)(N:Nat)(o:Z1)(D:DyA b s g f h s1 s2 s3 s4 s5 s6 s7 s8 W t N o)(G:Nat)(eG:G=g+257)(s9 s10 s11 s12:Rs)(L1 L2 t1 t2:Z1)(Bh:DyB G N o s8 s9 s10 s11 s12 L1 L2 t1 t2):S1 121 [.ptr 0 0 0,.ptr 1 1 0] [⟨[.sl false n 1 (b.map dB),nD (s).p,nD (s).e], 95,false⟩,⟨[fP kd,bD la,nD le]++eE++eE, 156,false⟩] (.tup []) [⟨[.sl false n 1 (b.map dB),nD (s12).p,nD (s12).e], 95,false⟩,⟨[fP kd,bD la,nD le]++(dZ (aa t1)++[.ref 2 2 0 (af t1).length 1])++(dZ (aa t2)++[.ref 3 3 0 (af t2).length 1]), 156,false⟩,⟨(af t1).map nD, 3,true⟩,⟨(af t2).map nD, 3,true⟩]:=by
 obtain⟨x1,z1,x2,z2,x3,z3,z4,z5,x5,x6,z6,z7,eN,x8,z8⟩:=D;have hg:g<32:=by rw[<-x1];exact bP b 5 s
 have hf:f<32:=by rw[<-x2];exact bP b 5 s1
 have hh:h<16:=by rw[<-x3];exact bP b 4 s2
 have r1:bc n s1:=by rw[<-z1];subst hn;exact hs.tk _
 have r2:bc n s2:=by rw[<-z2];subst hn;exact r1.tk _
 have r3:bc n s3:=by rw[<-z3];subst hn;exact r2.tk _
 have r4:bc n s4:=by rw[<-z4];exact r3.fl _ _
 have r5:bc n s5:=by rw[<-z5];subst hn;exact r4.rw _
 have r6:bc n s6:=by rw[<-z6];exact r5.fl _ _
 have r7:bc n s7:=by rw[<-z7.h];exact r6.fl _ _
 have hW:W.length=19:=by rw[<-x5];exact eH _ _ _
 have hT:aG t 15=0:=by rw[<-x6];exact tE W (by decide)
 have hl:t.length<=19:=by
  rw[<-x6]
  by_cases q:aG W 7=0
  ·rw[l8 q];omega
  ·rw[zJ q];exact VI _
 have hWl:W=(W.drop 0).take 19:=by rw[Wm,VB om]
 have r4i:∀i,bc n (cV b s4 i):=λ i=>by subst hn;exact r4.rw i
 obtain⟨h8,z9,y1,y2,z10,z11,z12,w1,w2⟩:=Bh;have oN:o.length=N:=by rw[<-x8];exact Hb (by rw[z8];exact h8)
 have r8:bc n s8:=by rw[<-z8];exact Ec hn r7
 have r9:bc n s9:=by rw[<-z9.h];exact r8.fl _ _
 have r10:bc n s10:=by rw[<-z10.h];exact r9.fl _ _
 have r11:bc n s11:=by rw[<-z11];exact r10.fl _ _
 have y3:o.take (AB ((g:Int)+257))=L1:=by rw[y1,Wm,show AB ((g:Int)+257)=G from by omega]
 have y1':L1=VX (AB ((g:Int)+257)) (VW 0 o):=y1.trans (JC om om);have y2':L2=VX (o.length-AB ((g:Int)+257)) (VW (0+AB ((g:Int)+257)*1) o):=y2.trans (JC om om);refine SpecH.run T_ok ah Tryz.func121 rfl rfl rfl ⟨rfl,rfl,eW _,eW _,trivial⟩ rfl 1000 64 (λ R ok=>(.s 2 (.cl 119 true [0] (.fn fx (@oa (b) (n) om om (s) om (g) (s1) aF aF)) (.s 2 (.ow (g+257) (.s 2 (.cl 119 true [0] (.fn fx (@oa (b) (n) om om (s1) om (f) (s2) aF aF)) (.s 2 (.ow (f+1) (.s 2 (.cl 119 true [0] (.fn fx (@zK (b) (n) om om (s2) om (h) (s3) aF aF)) (.s 2 (.ow (h+4) (.s 9 (.bd ((g:Int)+257<=286) (λ p0 Z7=>(.s 5 (.cl 73 true [0] (.fn jx (@ci (b) (n) om om (s3) (decide ((f:Int)+1<=30)) (132) om)) (.s 4 (.cl 111 false [] (.fn B9 (@lD)) (.s 7 (.chk (aU none (some ((h:Int)+4)) none 19&&true&&true&&true) (by(simp <;>(omega))) (.s 2 (.blk 0 0 (U1 [Vl false n 1 (map dB b),zN (Rs.p (fl s3 (decide ((f:Int)+1<=30)) 132)),zN (Rs.e (fl s3 (decide ((f:Int)+1<=30)) 132))] 95 false) (U1 [Vl false n 1 (map dB b),zN (Rs.p (cV b s4 0)),zN (Rs.e (cV b s4 0))] 95 false) GZ (Hn.inl T_ok ah false 95 2 (aq Tryz.prog 121 0) (λ(x:(i:Nat)×'(hi:i<=h+4)×'Unit)=>match x with|⟨i,hi,_⟩=>Vn [(0,Vh 0 0 0),(1,Vh 1 1 0),(4,zI (g+257)),(5,zI (f+1)),(7,U6 24 24 0 19 1),(33,U6 32 32 0 (AB ((h:Int)+4)) 1),(34,zN (AB ((h:Int)+4))),(35,nD i)] [⟨0,0,0,0,.b ⟨[.sl false n 1 (b.map dB),nD (cV b s4 i).p,nD (cV b s4 i).e],95,false⟩⟩,⟨1,1,1,1,.b ⟨[bl kd,D.v (.bool la),zN le,zI 0,zI 0,zI 0,zI 0,zI 0,zI 0,zI 0,zI 0,zI 0,zI 0,zI 0,zI 0,zI 0,zI 0,zI 0,zI 0,zS,zI 0,zI 0,zI 0,zI 0,zI 0,zI 0,zI 0,zI 0,zI 0,zI 0,zI 0,zI 0,zI 0,zI 0,zI 0,zI 0,zS],156,false⟩⟩,⟨24,24,162,162,.b ⟨(im b s4 i).map dB,5,true⟩⟩,⟨32,32,186,186,.b ⟨[zI 16,zI 17,zI 18,zI 0,zI 8,zI 7,zI 9,zI 6,zI 10,zI 5,zI 11,zI 4,zI 12,zI 3,zI 13,zI 2,zI 14,zI 1,zI 15],185,false⟩⟩] 40) (λ(x:(i:Nat)×'(hi:i<=h+4)×'Unit)=>match x with|⟨i,hi,_⟩=>h+4-i) [⟨Unit,.exit 0,λ x=>match x with|()=>Vn [(0,Vh 0 0 0),(1,Vh 1 1 0),(4,zI (g+257)),(5,zI (f+1)),(7,U6 24 24 0 19 1),(33,U6 32 32 0 (AB ((h:Int)+4)) 1),(34,zN (AB ((h:Int)+4)))] [⟨0,0,0,0,.b ⟨[.sl false n 1 (b.map dB),nD (s5).p,nD (s5).e],95,false⟩⟩,⟨1,1,1,1,.b ⟨[bl kd,D.v (.bool la),zN le,zI 0,zI 0,zI 0,zI 0,zI 0,zI 0,zI 0,zI 0,zI 0,zI 0,zI 0,zI 0,zI 0,zI 0,zI 0,zI 0,zS,zI 0,zI 0,zI 0,zI 0,zI 0,zI 0,zI 0,zI 0,zI 0,zI 0,zI 0,zI 0,zI 0,zI 0,zI 0,zI 0,zS],156,false⟩⟩,⟨24,24,162,162,.b ⟨W.map dB,5,true⟩⟩,⟨32,32,186,186,.b ⟨[zI 16,zI 17,zI 18,zI 0,zI 8,zI 7,zI 9,zI 6,zI 10,zI 5,zI 11,zI 4,zI 12,zI 3,zI 13,zI 2,zI 14,zI 1,zI 15],185,false⟩⟩] 40⟩] 1000 64 (fun|⟨i,hi,_⟩,Q,ZA,ZD=>(.s 2 (.bd ((i:Int)<(↑(AB ((h:Int)+4)):Int)) (λ p1 Z6=>(.s 1 (.chk (true&&decide ((i:Int)<(↑(AB ((h:Int)+4)):Int))) aF (.s 2 (.opt ((map nD vP)[0+i*1]?) (nD (cK i)) (@zL i om) (.s 5 (.cl 119 true [0] (.fn fx (@fk (b) (n) om om (cV b s4 i) (by(exact r4i _)) (3) om)) (.s 1 (.opt (ax .u8 (↑(aY b 3 (cV b s4 i)):Int)) (bl (aY b 3 (cV b s4 i))) (b4 G0) (.s 1 (.chk (true&&decide ((↑(cK i):Int)<(↑19:Int))) G1 (.s 1 (.chk (true&&U7 (0+cK i*1+1) (length (map dB (im b s4 i)))) G2 (.lst (ai (map dB (im b s4 i)) (0+cK i*1) [bl (aY b 3 (cV b s4 i))]) (ai (map dB (im b s4 i)) (cK i) [bl (aY b 3 (cV b s4 i))]) (by(simp;done)) (.s 2 (.ow (i+1) (.s 1 (.val 35 (zI (i+1)) (zN (i+1)) G3 (.blk 0 0 (U1 [Vl false n 1 (map dB b),zN (Rs.p (bA b 3 (cV b s4 i))),zN (Rs.e (bA b 3 (cV b s4 i)))] 95 false) (U1 [Vl false n 1 (map dB b),zN (Rs.p (cV b s4 (i+1))),zN (Rs.e (cV b s4 (i+1)))] 95 false) (by exact rfl) (.blk 24 24 (U1 (ai (map dB (im b s4 i)) (cK i) [bl (aY b 3 (cV b s4 i))]) 5 true) (U1 (map dB (im b s4 (i+1))) 5 true) G4 (Hn.next ZA ⟨(i+1),om,⟨⟩⟩ G5 [(0,0),(1,1),(24,24),(32,32)] ro))))))))))))))))))))) (λ p1 Z6=>(.blk 0 0 (U1 [Vl false n 1 (map dB b),zN (Rs.p (cV b s4 i)),zN (Rs.e (cV b s4 i))] 95 false) (U1 [Vl false n 1 (map dB b),zN (Rs.p s5),zN (Rs.e s5)] 95 false) G6 (.blk 24 24 (U1 (map dB (im b s4 i)) 5 true) (U1 (map dB W) 5 true) G7 (Hn.last ZD 0 (():Unit) rfl [(0,0),(1,1),(24,24),(32,32)] ro))))))) (fun|⟨i,hi,_⟩=>by kernel_rfl) ⟨(0),om,⟨⟩⟩ [(0,0),(1,1),(162,162),(186,186)] ro (ck (fun|()=>(.s 3 (.call 120 true [0,24] (true) wr ([Vh 0 0 0,U6 1 1 0 19 1,zI 7]) _ (cQ.refl _) (true&&(ab (map dB W)&&true)) (by(simp;done)) _ _ _ (VC (az.of Tryz.func120 rfl rfl) (@oc (b) (n) om om (s5) om (W) (0) (19) om om (W) aF (t) (s6) aF aF)) (.s 16 (.cl 73 true [0] (.fn jx (@eo (b) (n) om om (s6) (decide (1<(↑(length (af t)):Int))) (s7) aF)) (.s 9 (.ow (g+257+(f+1)) (.s 1 (.call 158 true [0,56] (true) wr ([Vh 0 0 0,Wp [zN (aa t 0),zN (aa t 1),zN (aa t 2),zN (aa t 3),zN (aa t 4),zN (aa t 5),zN (aa t 6),zN (aa t 7),zN (aa t 8),zN (aa t 9),zN (aa t 10),zN (aa t 11),zN (aa t 12),zN (aa t 13),zN (aa t 14),zN (aa t 15),U6 1 1 0 (length (af t)) 1],zI (g+257+(f+1))]) _ G8 (true&&(ab (map nD (af t))&&true)) (by(simp;done)) _ _ _ (VC (az.of Tryz.func158 rfl rfl) (@G9 (b) (n) om om (s7) om (t) om om (N) ((g:Int)+257+(f+1)) (o) (s8) aF aF om om)) (.s 11 (.f ((↑(Rs.e s8):Int) !=0) (by(simp <;>(omega))) (.s 3 (.chk (true&&decide (256<(↑(length o):Int))) (by(refine decide_eq_true ?_;(omega))) (.s 2 (.opt ((map dB o)[256]?) (dB (getD o 256 mq)) (av _ _ om) (.s 3 (.cl 73 true [0] (.fn jx (@eo (b) (n) om om (s8) (decide (0<(↑(U3 (getD o 256 mq)):Int))) (s9) aF)) (.s 4 (.chk (aU none (some ((g:Int)+257)) none (length o)&&true) (by(simp <;>(omega))) (.s 1 (.call 148 false [] (true&&(true&&U7 (0+AB ((g:Int)+257)*1) (length (map dB o))&&true&&ab (bif true&&U5 (AB ((g:Int)+257)*1) (length (map dB o))then map dB o else take (AB ((g:Int)+257)*1) (drop 0 (map dB o))))&&true) (by(simp <;>(omega))) ([Vl true (AB ((g:Int)+257)) 1 (bif true&&U5 (AB ((g:Int)+257)*1) (length (map dB o))then map dB o else take (AB ((g:Int)+257)*1) (drop 0 (map dB o))),zI 15]) _ JA (true) wr _ _ _ (VC (az.of Tryz.func148 rfl rfl) (@JB (take (AB ((g:Int)+257)) o) (AB ((g:Int)+257)) (by(simp <;>(omega))) om (L1) aF)) (.s 3 (.cl 73 true [0] (.fn jx (@eo (b) (n) om om (s9) ((↑(aG L1 15):Int)==0) (s10) aF)) (.s 7 (.chk (aU none (some ((g:Int)+257)) none (length o)&&true) (by(simp <;>(omega))) (.s 1 (.call 120 true [0,168] (true) wr ([Vh 0 0 0,U6 1 1 0 (AB ((g:Int)+257)) 1,zI 15]) _ (cQ.refl _) (true&&(ab (map dB o)&&true)) (by(simp;done)) _ _ _ (VC (az.of Tryz.func120 rfl rfl) (@il (b) (n) om om (s10) om (o) (0) (AB ((g:Int)+257)) om om (L1) aF (t1) (s11) aF aF)) (.s 4 (.chk (aU (some ((g:Int)+257)) none none (length o)&&true) (by(simp <;>(omega))) (.s 1 (.call 120 true [0,168] (true) wr ([Vh 0 0 0,U6 1 1 (0+AB ((g:Int)+257)*1) (length o-AB ((g:Int)+257)) 1,zI 15]) _ (cQ.refl _) (true&&(ab (map dB o)&&true)) (by(simp;done)) _ _ _ (VC (az.of Tryz.func120 rfl rfl) (@il (b) (n) om om (s11) om (o) (0+AB ((g:Int)+257)*1) (length o-AB ((g:Int)+257)) om om (L2) aF (t2) (s12) aF aF)) (.s 14 (.out [0,1,376,416] [0,1,376,416] (V2 []) [U1 [Vl false n 1 (map dB b),zN (Rs.p s12),zN (Rs.e s12)] 95 false,U1 [bl kd,D.v (.bool la),zN le,zN (aa t1 0),zN (aa t1 1),zN (aa t1 2),zN (aa t1 3),zN (aa t1 4),zN (aa t1 5),zN (aa t1 6),zN (aa t1 7),zN (aa t1 8),zN (aa t1 9),zN (aa t1 10),zN (aa t1 11),zN (aa t1 12),zN (aa t1 13),zN (aa t1 14),zN (aa t1 15),U6 2 2 0 (length (af t1)) 1,zN (aa t2 0),zN (aa t2 1),zN (aa t2 2),zN (aa t2 3),zN (aa t2 4),zN (aa t2 5),zN (aa t2 6),zN (aa t2 7),zN (aa t2 8),zN (aa t2 9),zN (aa t2 10),zN (aa t2 11),zN (aa t2 12),zN (aa t2 13),zN (aa t2 14),zN (aa t2 15),U6 3 3 0 (length (af t2)) 1] 156 false,U1 (map nD (af t1)) 3 true,U1 (map nD (af t2)) 3 true] R (ok _ _ wr (by exact rfl)))))))))))))))))))))))))))))))))))))))))))))) (λ p0 Z7=>(.s 4 (.cl 73 true [0] (.fn jx (@ci (b) (n) om om (s3) (false) (132) om)) (.s 4 (.cl 111 false [] (.fn B9 (@lD)) (.s 7 (.chk (aU none (some ((h:Int)+4)) none 19&&true&&true&&true) (by(simp <;>(omega))) (.s 2 (.blk 0 0 (U1 [Vl false n 1 (map dB b),zN (Rs.p (fl s3 false 132)),zN (Rs.e (fl s3 false 132))] 95 false) (U1 [Vl false n 1 (map dB b),zN (Rs.p (cV b s4 0)),zN (Rs.e (cV b s4 0))] 95 false) GZ (Hn.inl T_ok ah false 95 2 (aq Tryz.prog 121 0) (λ(x:(i:Nat)×'(hi:i<=h+4)×'Unit)=>match x with|⟨i,hi,_⟩=>Vn [(0,Vh 0 0 0),(1,Vh 1 1 0),(4,zI (g+257)),(5,zI (f+1)),(7,U6 24 24 0 19 1),(33,U6 32 32 0 (AB ((h:Int)+4)) 1),(34,zN (AB ((h:Int)+4))),(35,nD i)] [⟨0,0,0,0,.b ⟨[.sl false n 1 (b.map dB),nD (cV b s4 i).p,nD (cV b s4 i).e],95,false⟩⟩,⟨1,1,1,1,.b ⟨[bl kd,D.v (.bool la),zN le,zI 0,zI 0,zI 0,zI 0,zI 0,zI 0,zI 0,zI 0,zI 0,zI 0,zI 0,zI 0,zI 0,zI 0,zI 0,zI 0,zS,zI 0,zI 0,zI 0,zI 0,zI 0,zI 0,zI 0,zI 0,zI 0,zI 0,zI 0,zI 0,zI 0,zI 0,zI 0,zI 0,zS],156,false⟩⟩,⟨24,24,162,162,.b ⟨(im b s4 i).map dB,5,true⟩⟩,⟨32,32,186,186,.b ⟨[zI 16,zI 17,zI 18,zI 0,zI 8,zI 7,zI 9,zI 6,zI 10,zI 5,zI 11,zI 4,zI 12,zI 3,zI 13,zI 2,zI 14,zI 1,zI 15],185,false⟩⟩] 40) (λ(x:(i:Nat)×'(hi:i<=h+4)×'Unit)=>match x with|⟨i,hi,_⟩=>h+4-i) [⟨Unit,.exit 0,λ x=>match x with|()=>Vn [(0,Vh 0 0 0),(1,Vh 1 1 0),(4,zI (g+257)),(5,zI (f+1)),(7,U6 24 24 0 19 1),(33,U6 32 32 0 (AB ((h:Int)+4)) 1),(34,zN (AB ((h:Int)+4)))] [⟨0,0,0,0,.b ⟨[.sl false n 1 (b.map dB),nD (s5).p,nD (s5).e],95,false⟩⟩,⟨1,1,1,1,.b ⟨[bl kd,D.v (.bool la),zN le,zI 0,zI 0,zI 0,zI 0,zI 0,zI 0,zI 0,zI 0,zI 0,zI 0,zI 0,zI 0,zI 0,zI 0,zI 0,zI 0,zS,zI 0,zI 0,zI 0,zI 0,zI 0,zI 0,zI 0,zI 0,zI 0,zI 0,zI 0,zI 0,zI 0,zI 0,zI 0,zI 0,zS],156,false⟩⟩,⟨24,24,162,162,.b ⟨W.map dB,5,true⟩⟩,⟨32,32,186,186,.b ⟨[zI 16,zI 17,zI 18,zI 0,zI 8,zI 7,zI 9,zI 6,zI 10,zI 5,zI 11,zI 4,zI 12,zI 3,zI 13,zI 2,zI 14,zI 1,zI 15],185,false⟩⟩] 40⟩] 1000 64 (fun|⟨i,hi,_⟩,Q,ZA,ZD=>(.s 2 (.bd ((i:Int)<(↑(AB ((h:Int)+4)):Int)) (λ p2 Z5=>(.s 1 (.chk (true&&decide ((i:Int)<(↑(AB ((h:Int)+4)):Int))) aF (.s 2 (.opt ((map nD vP)[0+i*1]?) (nD (cK i)) (@zL i om) (.s 5 (.cl 119 true [0] (.fn fx (@fk (b) (n) om om (cV b s4 i) (by(exact r4i _)) (3) om)) (.s 1 (.opt (ax .u8 (↑(aY b 3 (cV b s4 i)):Int)) (bl (aY b 3 (cV b s4 i))) (b4 G0) (.s 1 (.chk (true&&decide ((↑(cK i):Int)<(↑19:Int))) G1 (.s 1 (.chk (true&&U7 (0+cK i*1+1) (length (map dB (im b s4 i)))) G2 (.lst (ai (map dB (im b s4 i)) (0+cK i*1) [bl (aY b 3 (cV b s4 i))]) (ai (map dB (im b s4 i)) (cK i) [bl (aY b 3 (cV b s4 i))]) (by(simp;done)) (.s 2 (.ow (i+1) (.s 1 (.val 35 (zI (i+1)) (zN (i+1)) G3 (.blk 0 0 (U1 [Vl false n 1 (map dB b),zN (Rs.p (bA b 3 (cV b s4 i))),zN (Rs.e (bA b 3 (cV b s4 i)))] 95 false) (U1 [Vl false n 1 (map dB b),zN (Rs.p (cV b s4 (i+1))),zN (Rs.e (cV b s4 (i+1)))] 95 false) (by exact rfl) (.blk 24 24 (U1 (ai (map dB (im b s4 i)) (cK i) [bl (aY b 3 (cV b s4 i))]) 5 true) (U1 (map dB (im b s4 (i+1))) 5 true) G4 (Hn.next ZA ⟨(i+1),om,⟨⟩⟩ G5 [(0,0),(1,1),(24,24),(32,32)] ro))))))))))))))))))))) (λ p2 Z5=>(.blk 0 0 (U1 [Vl false n 1 (map dB b),zN (Rs.p (cV b s4 i)),zN (Rs.e (cV b s4 i))] 95 false) (U1 [Vl false n 1 (map dB b),zN (Rs.p s5),zN (Rs.e s5)] 95 false) G6 (.blk 24 24 (U1 (map dB (im b s4 i)) 5 true) (U1 (map dB W) 5 true) G7 (Hn.last ZD 0 (():Unit) rfl [(0,0),(1,1),(24,24),(32,32)] ro))))))) (fun|⟨i,hi,_⟩=>by kernel_rfl) ⟨(0),om,⟨⟩⟩ [(0,0),(1,1),(162,162),(186,186)] ro (ck (fun|()=>(.s 3 (.call 120 true [0,24] (true) wr ([Vh 0 0 0,U6 1 1 0 19 1,zI 7]) _ (cQ.refl _) (true&&(ab (map dB W)&&true)) (by(simp;done)) _ _ _ (VC (az.of Tryz.func120 rfl rfl) (@oc (b) (n) om om (s5) om (W) (0) (19) om om (W) aF (t) (s6) aF aF)) (.s 16 (.cl 73 true [0] (.fn jx (@eo (b) (n) om om (s6) (decide (1<(↑(length (af t)):Int))) (s7) aF)) (.s 9 (.ow (g+257+(f+1)) (.s 1 (.call 158 true [0,56] (true) wr ([Vh 0 0 0,Wp [zN (aa t 0),zN (aa t 1),zN (aa t 2),zN (aa t 3),zN (aa t 4),zN (aa t 5),zN (aa t 6),zN (aa t 7),zN (aa t 8),zN (aa t 9),zN (aa t 10),zN (aa t 11),zN (aa t 12),zN (aa t 13),zN (aa t 14),zN (aa t 15),U6 1 1 0 (length (af t)) 1],zI (g+257+(f+1))]) _ G8 (true&&(ab (map nD (af t))&&true)) (by(simp;done)) _ _ _ (VC (az.of Tryz.func158 rfl rfl) (@G9 (b) (n) om om (s7) om (t) om om (N) ((g:Int)+257+(f+1)) (o) (s8) aF aF om om)) (.s 11 (.f ((↑(Rs.e s8):Int) !=0) (by(simp <;>(omega))) (.s 3 (.chk (true&&decide (256<(↑(length o):Int))) (by(refine decide_eq_true ?_;(omega))) (.s 2 (.opt ((map dB o)[256]?) (dB (getD o 256 mq)) (av _ _ om) (.s 3 (.cl 73 true [0] (.fn jx (@eo (b) (n) om om (s8) (decide (0<(↑(U3 (getD o 256 mq)):Int))) (s9) aF)) (.s 4 (.chk (aU none (some ((g:Int)+257)) none (length o)&&true) (by(simp <;>(omega))) (.s 1 (.call 148 false [] (true&&(true&&U7 (0+AB ((g:Int)+257)*1) (length (map dB o))&&true&&ab (bif true&&U5 (AB ((g:Int)+257)*1) (length (map dB o))then map dB o else take (AB ((g:Int)+257)*1) (drop 0 (map dB o))))&&true) (by(simp <;>(omega))) ([Vl true (AB ((g:Int)+257)) 1 (bif true&&U5 (AB ((g:Int)+257)*1) (length (map dB o))then map dB o else take (AB ((g:Int)+257)*1) (drop 0 (map dB o))),zI 15]) _ JA (true) wr _ _ _ (VC (az.of Tryz.func148 rfl rfl) (@JB (take (AB ((g:Int)+257)) o) (AB ((g:Int)+257)) (by(simp <;>(omega))) om (L1) aF)) (.s 3 (.cl 73 true [0] (.fn jx (@eo (b) (n) om om (s9) ((↑(aG L1 15):Int)==0) (s10) aF)) (.s 7 (.chk (aU none (some ((g:Int)+257)) none (length o)&&true) (by(simp <;>(omega))) (.s 1 (.call 120 true [0,168] (true) wr ([Vh 0 0 0,U6 1 1 0 (AB ((g:Int)+257)) 1,zI 15]) _ (cQ.refl _) (true&&(ab (map dB o)&&true)) (by(simp;done)) _ _ _ (VC (az.of Tryz.func120 rfl rfl) (@il (b) (n) om om (s10) om (o) (0) (AB ((g:Int)+257)) om om (L1) aF (t1) (s11) aF aF)) (.s 4 (.chk (aU (some ((g:Int)+257)) none none (length o)&&true) (by(simp <;>(omega))) (.s 1 (.call 120 true [0,168] (true) wr ([Vh 0 0 0,U6 1 1 (0+AB ((g:Int)+257)*1) (length o-AB ((g:Int)+257)) 1,zI 15]) _ (cQ.refl _) (true&&(ab (map dB o)&&true)) (by(simp;done)) _ _ _ (VC (az.of Tryz.func120 rfl rfl) (@il (b) (n) om om (s11) om (o) (0+AB ((g:Int)+257)*1) (length o-AB ((g:Int)+257)) om om (L2) aF (t2) (s12) aF aF)) (.s 14 (.out [0,1,376,416] [0,1,376,416] (V2 []) [U1 [Vl false n 1 (map dB b),zN (Rs.p s12),zN (Rs.e s12)] 95 false,U1 [bl kd,D.v (.bool la),zN le,zN (aa t1 0),zN (aa t1 1),zN (aa t1 2),zN (aa t1 3),zN (aa t1 4),zN (aa t1 5),zN (aa t1 6),zN (aa t1 7),zN (aa t1 8),zN (aa t1 9),zN (aa t1 10),zN (aa t1 11),zN (aa t1 12),zN (aa t1 13),zN (aa t1 14),zN (aa t1 15),U6 2 2 0 (length (af t1)) 1,zN (aa t2 0),zN (aa t2 1),zN (aa t2 2),zN (aa t2 3),zN (aa t2 4),zN (aa t2 5),zN (aa t2 6),zN (aa t2 7),zN (aa t2 8),zN (aa t2 9),zN (aa t2 10),zN (aa t2 11),zN (aa t2 12),zN (aa t2 13),zN (aa t2 14),zN (aa t2 15),U6 3 3 0 (length (af t2)) 1] 156 false,U1 (map nD (af t1)) 3 true,U1 (map nD (af t2)) 3 true] R (ok _ _ wr (by exact rfl))))))))))))))))))))))))))))))))))))))))))))))))))))))))))))) kr
theorem Ed {p:Prop}(h:p:=by(refine decide_eq_false ?_;(omega))):p:=h
structure PlE (s:Rs)(p:Int)(z:Rs):Prop where
 h:p=z.p
 e:s.e=0
 e2:z.e=0
theorem Ee (b:Z1)(n:Nat)(hn:n=b.length)(hN:n<=1000000)(s:Rs)(p:Int)(z:Rs)(hp:PlE s p z)(hz:bc n z)(x:Nat)(y:Rs)(hx:aY b 16 z=x)(hy:bA b 16 z=y):S1 119 [.ptr 0 0 0,iD 16] [⟨[.sl false n 1 (b.map dB),iD p,nD s.e], 95,false⟩] (nD x) [⟨[.sl false n 1 (b.map dB),nD (y).p,nD (y).e], 95,false⟩]:=by
 have h1:=vO b n hn hN z hz x y hx hy;have e:s.e=z.e:=by rw[hp.e,hp.e2]
 rw[hp.h,e];exact h1
theorem Ml (b:Z1)(n:Nat)(hn:n=b.length)(hN:n<=1000000)(s:Rs)(hs:bc n s)(a kd:Nat)(s1 s2 s3:Rs)(x1:aY b 1 s=a)(z1:bA b 1 s=s1)(x2:aY b 2 s1=kd)(z2:bA b 2 s1=s2)(z3:FlE s2 (decide ((kd:Int)<=2)) 130 s3)(h3:s3.e≠0):S1 93 [.ptr 0 0 0] [⟨[.sl false n 1 (b.map dB),nD (s).p,nD (s).e], 95,false⟩] (.agg ([fP kd,bD (((a:Nat):Int)==1),iD 0]++eE++eE)) [⟨[.sl false n 1 (b.map dB),nD (s3).p,nD (s3).e], 95,false⟩]:=by
 have ha:a<2:=by rw[<-x1];exact bP b 1 s
 have hk:kd<4:=by rw[<-x2];exact bP b 2 s1
 have r1:bc n s1:=by rw[<-z1];subst hn;exact hs.tk _
 have r2:bc n s2:=by rw[<-z2];subst hn;exact r1.tk _
 have r3:bc n s3:=by rw[<-z3.h];exact r2.fl _ _
 refine SpecH.run T_ok ah Tryz.func93 rfl rfl rfl ⟨rfl,trivial⟩ rfl 1000 64 (λ R ok=>(.s 4 (.cl 119 true [0] (.fn fx (@l9 (b) (n) om om (s) om (a) (s1) aF aF)) (.s 10 (.cl 119 true [0] (.fn fx (@ma (b) (n) om om (s1) om (kd) (s2) aF aF)) (.s 1 (.opt (ax .u8 (kd:Int)) (bl kd) (b4 om) (.s 16 (.cl 73 true [0] (.fn jx (@ik (b) (n) om om (s2) (decide ((kd:Int)<=2)) (s3) aF)) (.s 11 (.t ((↑(Rs.e s3):Int) !=0) (by(simp <;>(omega))) (.s 10 (.out [0] [0] (Wp [bl kd,D.v (.bool ((a:Int)==1)),zI 0,zI 0,zI 0,zI 0,zI 0,zI 0,zI 0,zI 0,zI 0,zI 0,zI 0,zI 0,zI 0,zI 0,zI 0,zI 0,zI 0,zS,zI 0,zI 0,zI 0,zI 0,zI 0,zI 0,zI 0,zI 0,zI 0,zI 0,zI 0,zI 0,zI 0,zI 0,zI 0,zI 0,zS]) [U1 [Vl false n 1 (map dB b),zN (Rs.p s3),zN (Rs.e s3)] 95 false] R (ok _ _ (by exact rfl) wr)))))))))))))) kr
theorem Mm (b:Z1)(n:Nat)(hn:n=b.length)(hN:n<=1000000)(s:Rs)(hs:bc n s)(a kd:Nat)(s1 s2 s3:Rs)(x1:aY b 1 s=a)(z1:bA b 1 s=s1)(x2:aY b 2 s1=kd)(z2:bA b 2 s1=s2)(z3:FlE s2 (decide ((kd:Int)<=2)) 130 s3)(h3:s3.e=0)(h0:kd=0)(s4 s5 s6 s7:Rs)(le ag:Nat)(hp2:PlE s3 ((((s3.p:Nat):Int)+7)/8*8) s4)(x4:aY b 16 s4=le)(z4:bA b 16 s4=s5)(x5:aY b 16 s5=ag)(z5:bA b 16 s5=s6)(z6:FlE s6 (((le:Nat):Int)+((ag:Nat):Int)==65535) 131 s7):S1 93 [.ptr 0 0 0] [⟨[.sl false n 1 (b.map dB),nD (s).p,nD (s).e], 95,false⟩] (.agg ([fP kd,bD (((a:Nat):Int)==1),nD le]++eE++eE)) [⟨[.sl false n 1 (b.map dB),nD (s7).p,nD (s7).e], 95,false⟩]:=by
 have ha:a<2:=by rw[<-x1];exact bP b 1 s
 have hk:kd<4:=by rw[<-x2];exact bP b 2 s1
 have r1:bc n s1:=by rw[<-z1];subst hn;exact hs.tk _
 have r2:bc n s2:=by rw[<-z2];subst hn;exact r1.tk _
 have r3:bc n s3:=by rw[<-z3.h];exact r2.fl _ _
 have hle:le<65536:=by rw[<-x4];exact bP b 16 s4
 have hag:ag<65536:=by rw[<-x5];exact bP b 16 s5
 have ho3:s3.p<=8*n:=r3 h3;have hp3:=hp2.h;have r4:bc n s4:=λ _=>by omega
 have r5:bc n s5:=by rw[<-z4];subst hn;exact r4.tk _
 have r6:bc n s6:=by rw[<-z5];subst hn;exact r5.tk _
 refine SpecH.run T_ok ah Tryz.func93 rfl rfl rfl ⟨rfl,trivial⟩ rfl 1000 64 (λ R ok=>(.s 4 (.cl 119 true [0] (.fn fx (@l9 (b) (n) om om (s) om (a) (s1) aF aF)) (.s 10 (.cl 119 true [0] (.fn fx (@ma (b) (n) om om (s1) om (kd) (s2) aF aF)) (.s 1 (.opt (ax .u8 (kd:Int)) (bl kd) (b4 om) (.s 16 (.cl 73 true [0] (.fn jx (@ik (b) (n) om om (s2) (decide ((kd:Int)<=2)) (s3) aF)) (.s 11 (.f ((↑(Rs.e s3):Int) !=0) (by(simp <;>(omega))) (.s 9 (.t ((kd:Int)==0) (by(refine decide_eq_true ?_;(omega))) (.s 11 (.ow ((↑(Rs.p s3):Int)+7) (.s 2 (.opt (bY VN (Vo VN (Int.tdiv ((↑(Rs.p s3):Int)+7) 8))) (zI (((↑(Rs.p s3):Int)+7)/8)) (aQ (@cF  ((↑(Rs.p s3):Int)+7) (8) om om)) (.s 2 (.ow (((↑(Rs.p s3):Int)+7)/8*8) (.s 9 (.cl 119 true [0] (.fn fx (@Ee (b) (n) om om (s3) (((↑(Rs.p s3):Int)+7)/8*8) (s4) aF om (le) (s5) aF aF)) (.s 8 (.cl 119 true [0] (.fn fx (@vO (b) (n) om om (s5) om (ag) (s6) aF aF)) (.s 11 (.ow (le+ag) (.s 3 (.cl 73 true [0] (.fn jx (@Bi (b) (n) om om (s6) ((le:Int)+ag==65535) (s7) aF)) (.s 10 (.out [0] [0] (Wp [bl kd,D.v (.bool ((a:Int)==1)),zN le,zI 0,zI 0,zI 0,zI 0,zI 0,zI 0,zI 0,zI 0,zI 0,zI 0,zI 0,zI 0,zI 0,zI 0,zI 0,zI 0,zS,zI 0,zI 0,zI 0,zI 0,zI 0,zI 0,zI 0,zI 0,zI 0,zI 0,zI 0,zI 0,zI 0,zI 0,zI 0,zI 0,zS]) [U1 [Vl false n 1 (map dB b),zN (Rs.p s7),zN (Rs.e s7)] 95 false] R (ok _ _ (by exact rfl) wr)))))))))))))))))))))))))))))) kr
theorem Mn (b:Z1)(n:Nat)(hn:n=b.length)(hN:n<=1000000)(s:Rs)(hs:bc n s)(a kd:Nat)(s1 s2 s3:Rs)(x1:aY b 1 s=a)(z1:bA b 1 s=s1)(x2:aY b 2 s1=kd)(z2:bA b 2 s1=s2)(z3:FlE s2 (decide ((kd:Int)<=2)) 130 s3)(h3:s3.e=0)(h0:kd=1)(L F:Z1)(hL:L=bE)(hF:F=cY)(y1:L=VX 288 (VW 0 L))(y2:F=VX 32 (VW 0 F))(l1:L.length=288)(l2:F.length=32)(w1:fN L 15=L)(w2:fN F 15=F)(z4:fl s3 (((aG L 15:Nat):Int)==0) 132=s3)(z5:fl s3 (((aG F 15:Nat):Int)==0) 132=s3):S1 93 [.ptr 0 0 0] [⟨[.sl false n 1 (b.map dB),nD (s).p,nD (s).e], 95,false⟩] (.agg ([fP kd,bD (((a:Nat):Int)==1),iD 0]++(dZ (aa L)++[.ref 1 1 0 (af L).length 1])++(dZ (aa F)++[.ref 2 2 0 (af F).length 1]))) [⟨[.sl false n 1 (b.map dB),nD (s3).p,nD (s3).e], 95,false⟩,⟨(af L).map nD, 3,true⟩,⟨(af F).map nD, 3,true⟩]:=by
 have ha:a<2:=by rw[<-x1];exact bP b 1 s
 have hk:kd<4:=by rw[<-x2];exact bP b 2 s1
 have r1:bc n s1:=by rw[<-z1];subst hn;exact hs.tk _
 have r2:bc n s2:=by rw[<-z2];subst hn;exact r1.tk _
 have r3:bc n s3:=by rw[<-z3.h];exact r2.fl _ _
 refine SpecH.run T_ok ah Tryz.func93 rfl rfl rfl ⟨rfl,eW _,eW _,trivial⟩ rfl 1000 64 (λ R ok=>(.s 4 (.cl 119 true [0] (.fn fx (@l9 (b) (n) om om (s) om (a) (s1) aF aF)) (.s 10 (.cl 119 true [0] (.fn fx (@ma (b) (n) om om (s1) om (kd) (s2) aF aF)) (.s 1 (.opt (ax .u8 (kd:Int)) (bl kd) (b4 om) (.s 16 (.cl 73 true [0] (.fn jx (@ik (b) (n) om om (s2) (decide ((kd:Int)<=2)) (s3) aF)) (.s 11 (.f ((↑(Rs.e s3):Int) !=0) (by(simp <;>(omega))) (.s 9 (.f ((kd:Int)==0) Ed (.s 9 (.t ((kd:Int)==1) (by(refine decide_eq_true ?_;(omega))) (.s 1 (.cl 86 false [] (.fn N2 (@ly (L) (F) aF aF)) (.s 10 (.call 120 true [0,241] (true) wr ([Vh 0 0 0,U6 1 1 0 288 1,zI 15]) _ (cQ.refl _) (true&&(ab (map dB L)&&true)) (by(simp;done)) _ _ _ (VC (az.of Tryz.func120 rfl rfl) (@il (b) (n) om om (s3) om (L) (0) (288) om om (L) aF (L) (s3) aF aF)) (.s 3 (.call 120 true [0,242] (true) wr ([Vh 0 0 0,U6 1 1 0 32 1,zI 15]) _ (cQ.refl _) (true&&(ab (map dB F)&&true)) (by(simp;done)) _ _ _ (VC (az.of Tryz.func120 rfl rfl) (@il (b) (n) om om (s3) om (F) (0) (32) om om (F) aF (F) (s3) aF aF)) (.s 22 (.out [0,305,329] [0,305,329] (Wp [bl kd,D.v (.bool ((a:Int)==1)),zI 0,zN (aa L 0),zN (aa L 1),zN (aa L 2),zN (aa L 3),zN (aa L 4),zN (aa L 5),zN (aa L 6),zN (aa L 7),zN (aa L 8),zN (aa L 9),zN (aa L 10),zN (aa L 11),zN (aa L 12),zN (aa L 13),zN (aa L 14),zN (aa L 15),U6 1 1 0 (length (af L)) 1,zN (aa F 0),zN (aa F 1),zN (aa F 2),zN (aa F 3),zN (aa F 4),zN (aa F 5),zN (aa F 6),zN (aa F 7),zN (aa F 8),zN (aa F 9),zN (aa F 10),zN (aa F 11),zN (aa F 12),zN (aa F 13),zN (aa F 14),zN (aa F 15),U6 2 2 0 (length (af F)) 1]) [U1 [Vl false n 1 (map dB b),zN (Rs.p s3),zN (Rs.e s3)] 95 false,U1 (map nD (af L)) 3 true,U1 (map nD (af F)) 3 true] R (ok _ _ (by exact rfl) wr)))))))))))))))))))))))) kr
theorem Hf (b:Z1)(n:Nat)(hn:n=b.length)(hN:n<=1000000)(s:Rs)(hs:bc n s)(a kd:Nat)(s1 s2 s3:Rs)(x1:aY b 1 s=a)(z1:bA b 1 s=s1)(x2:aY b 2 s1=kd)(z2:bA b 2 s1=s2)(z3:FlE s2 (decide ((kd:Int)<=2)) 130 s3)(h3:s3.e=0)(h0:kd=2)(g f h:Nat)(d1 d2 d3 d4 d5 d6 d7 d8:Rs)(W t:Z1)(N:Nat)(o:Z1)(Dh:DyA b s3 g f h d1 d2 d3 d4 d5 d6 d7 d8 W t N o)(he:d8.e≠0):S1 93 [.ptr 0 0 0] [⟨[.sl false n 1 (b.map dB),nD (s).p,nD (s).e], 95,false⟩] (.agg ([fP kd,bD (((a:Nat):Int)==1),iD 0]++eE++eE)) [⟨[.sl false n 1 (b.map dB),nD (d8).p,nD (d8).e], 95,false⟩]:=by
 have ha:a<2:=by rw[<-x1];exact bP b 1 s
 have hk:kd<4:=by rw[<-x2];exact bP b 2 s1
 have r1:bc n s1:=by rw[<-z1];subst hn;exact hs.tk _
 have r2:bc n s2:=by rw[<-z2];subst hn;exact r1.tk _
 have r3:bc n s3:=by rw[<-z3.h];exact r2.fl _ _
 refine SpecH.run T_ok ah Tryz.func93 rfl rfl rfl ⟨rfl,trivial⟩ rfl 1000 64 (λ R ok=>(.s 4 (.cl 119 true [0] (.fn fx (@l9 (b) (n) om om (s) om (a) (s1) aF aF)) (.s 10 (.cl 119 true [0] (.fn fx (@ma (b) (n) om om (s1) om (kd) (s2) aF aF)) (.s 1 (.opt (ax .u8 (kd:Int)) (bl kd) (b4 om) (.s 16 (.cl 73 true [0] (.fn jx (@ik (b) (n) om om (s2) (decide ((kd:Int)<=2)) (s3) aF)) (.s 11 (.f ((↑(Rs.e s3):Int) !=0) (by(simp <;>(omega))) (.s 9 (.f ((kd:Int)==0) Ed (.s 9 (.f ((kd:Int)==1) Ed (.s 2 (.cl 121 true [0,1] (.fn N4 (@QF (b) (n) om om (s3) om (kd) (0) ((a:Int)==1) (g) (f) (h) (d1) (d2) (d3) (d4) (d5) (d6) (d7) (d8) (W) (t) (N) (o) aF om)) (.s 10 (.out [0] [0] (Wp [bl kd,D.v (.bool ((a:Int)==1)),zI 0,zI 0,zI 0,zI 0,zI 0,zI 0,zI 0,zI 0,zI 0,zI 0,zI 0,zI 0,zI 0,zI 0,zI 0,zI 0,zI 0,zS,zI 0,zI 0,zI 0,zI 0,zI 0,zI 0,zI 0,zI 0,zI 0,zI 0,zI 0,zI 0,zI 0,zI 0,zI 0,zI 0,zS]) [U1 [Vl false n 1 (map dB b),zN (Rs.p d8),zN (Rs.e d8)] 95 false] R (ok _ _ (by exact rfl) wr)))))))))))))))))))) kr
theorem Hg (b:Z1)(n:Nat)(hn:n=b.length)(hN:n<=1000000)(s:Rs)(hs:bc n s)(a kd:Nat)(s1 s2 s3:Rs)(x1:aY b 1 s=a)(z1:bA b 1 s=s1)(x2:aY b 2 s1=kd)(z2:bA b 2 s1=s2)(z3:FlE s2 (decide ((kd:Int)<=2)) 130 s3)(h3:s3.e=0)(h0:kd=2)(g f h:Nat)(d1 d2 d3 d4 d5 d6 d7 d8:Rs)(W t:Z1)(N:Nat)(o:Z1)(Dh:DyA b s3 g f h d1 d2 d3 d4 d5 d6 d7 d8 W t N o)(G:Nat)(eG:G=g+257)(s9 s10 s11 s12:Rs)(L1 L2 t1 t2:Z1)(Bh:DyB G N o d8 s9 s10 s11 s12 L1 L2 t1 t2):S1 93 [.ptr 0 0 0] [⟨[.sl false n 1 (b.map dB),nD (s).p,nD (s).e], 95,false⟩] (.agg ([fP kd,bD (((a:Nat):Int)==1),iD 0]++(dZ (aa t1)++[.ref 1 1 0 (af t1).length 1])++(dZ (aa t2)++[.ref 2 2 0 (af t2).length 1]))) [⟨[.sl false n 1 (b.map dB),nD (s12).p,nD (s12).e], 95,false⟩,⟨(af t1).map nD, 3,true⟩,⟨(af t2).map nD, 3,true⟩]:=by
 have ha:a<2:=by rw[<-x1];exact bP b 1 s
 have hk:kd<4:=by rw[<-x2];exact bP b 2 s1
 have r1:bc n s1:=by rw[<-z1];subst hn;exact hs.tk _
 have r2:bc n s2:=by rw[<-z2];subst hn;exact r1.tk _
 have r3:bc n s3:=by rw[<-z3.h];exact r2.fl _ _
 refine SpecH.run T_ok ah Tryz.func93 rfl rfl rfl ⟨rfl,eW _,eW _,trivial⟩ rfl 1000 64 (λ R ok=>(.s 4 (.cl 119 true [0] (.fn fx (@l9 (b) (n) om om (s) om (a) (s1) aF aF)) (.s 10 (.cl 119 true [0] (.fn fx (@ma (b) (n) om om (s1) om (kd) (s2) aF aF)) (.s 1 (.opt (ax .u8 (kd:Int)) (bl kd) (b4 om) (.s 16 (.cl 73 true [0] (.fn jx (@ik (b) (n) om om (s2) (decide ((kd:Int)<=2)) (s3) aF)) (.s 11 (.f ((↑(Rs.e s3):Int) !=0) (by(simp <;>(omega))) (.s 9 (.f ((kd:Int)==0) Ed (.s 9 (.f ((kd:Int)==1) Ed (.s 2 (.cl 121 true [0,1] (.fn N4 (@QG (b) (n) om om (s3) om (kd) (0) ((a:Int)==1) (g) (f) (h) (d1) (d2) (d3) (d4) (d5) (d6) (d7) (d8) (W) (t) (N) (o) aF (G) aF (s9) (s10) (s11) (s12) (L1) (L2) (t1) (t2) aF)) (.s 10 (.out [0,249,250] [0,249,250] (Wp [bl kd,D.v (.bool ((a:Int)==1)),zI 0,zN (aa t1 0),zN (aa t1 1),zN (aa t1 2),zN (aa t1 3),zN (aa t1 4),zN (aa t1 5),zN (aa t1 6),zN (aa t1 7),zN (aa t1 8),zN (aa t1 9),zN (aa t1 10),zN (aa t1 11),zN (aa t1 12),zN (aa t1 13),zN (aa t1 14),zN (aa t1 15),U6 1 1 0 (length (af t1)) 1,zN (aa t2 0),zN (aa t2 1),zN (aa t2 2),zN (aa t2 3),zN (aa t2 4),zN (aa t2 5),zN (aa t2 6),zN (aa t2 7),zN (aa t2 8),zN (aa t2 9),zN (aa t2 10),zN (aa t2 11),zN (aa t2 12),zN (aa t2 13),zN (aa t2 14),zN (aa t2 15),U6 2 2 0 (length (af t2)) 1]) [U1 [Vl false n 1 (map dB b),zN (Rs.p s12),zN (Rs.e s12)] 95 false,U1 (map nD (af t1)) 3 true,U1 (map nD (af t2)) 3 true] R (ok _ _ (by exact rfl) wr)))))))))))))))))))) kr
def Bj (b:Z1)(s:Rs):Rs×Z1×Z1:=
 let g:=aY b 5 s
 let s1:=bA b 5 s
 let f:=aY b 5 s1
 let s2:=bA b 5 s1
 let h:=aY b 4 s2
 let s3:=bA b 4 s2
 let s4:=fl s3 (decide (g+257<=286)&&decide (f+1<=30)) 132
 let s5:=cV b s4 (h+4)
 let W:=im b s4 (h+4)
 let t:=fN W 7
 let s6:=fl s5 (((aG W 7:Nat):Int)==0) 132
 let s7:=fl s6 (decide ((1:Int)<(((af t).length:Nat):Int))) 132
 let N:=g+257+(f+1)
 let o:=GV b t N s7
 let s8:=xu b t N s7
 if s8.e≠0 then(s8,[],[])else
 let L1:=(o.drop 0).take (g+257)
 let L2:=(o.drop (g+257)).take (N-(g+257))
 let s9:=fl s8 (decide ((0:Int)<(((o.getD 256 mq).toNat:Nat):Int))) 132
 let s10:=fl s9 (((aG L1 15:Nat):Int)==0) 132
 let s11:=fl s10 (((aG L1 15:Nat):Int)==0) 132
 let s12:=fl s11 (((aG L2 15:Nat):Int)==0) 132
 (s12,fN L1 15,fN L2 15)
structure Hd where
 s:Rs
 kd:Nat
 la:Bool
 le:Nat
 l1:Z1
 l2:Z1
def EX (b:Z1)(s:Rs):Hd:=
 let a:=aY b 1 s
 let s1:=bA b 1 s
 let kd:=aY b 2 s1
 let s2:=bA b 2 s1
 let s3:=fl s2 (decide ((kd:Int)<=2)) 130
 let la:=((a:Nat):Int)==1
 if s3.e≠0 then⟨s3,kd,la,0,[],[]⟩else if kd=0 then
  let s4:Rs:=⟨(s3.p+7)/8*8,0⟩
  let le:=aY b 16 s4
  let s5:=bA b 16 s4
  let ag:=aY b 16 s5
  let s6:=bA b 16 s5
  ⟨fl s6 (((le:Nat):Int)+((ag:Nat):Int)==65535) 131,kd,la,le,[],[]⟩
 else if kd=1 then⟨s3,kd,la,0,bE,cY⟩
 else⟨(Bj b s3).1,kd,la,0,(Bj b s3).2.1,(Bj b s3).2.2⟩
def io (b:Z1)(s:Rs):Hd:=lk b (EX b s)
theorem jP (b:Z1)(s:Rs):io b s=EX b s:=au _ _
theorem Ef (j:Nat):dS j eE (dZ (aa [])++[.ref j j 0 0 1]):=dS.app (a:=[iD 0,iD 0,iD 0,iD 0,iD 0,iD 0,iD 0,iD 0,iD 0,iD 0,iD 0,iD 0,iD 0,iD 0,iD 0,iD 0]) (dS.refl j _) ⟨et.nil j 1,trivial⟩
theorem Mo {f:FuncId}{ds:List D}{hin:List Blk}{x y z:D}{B:Blk}(h:S1 f ds hin (.agg ([x,y,z]++eE++eE)) [B]):S1 f ds hin (.agg ([x,y,z]++(dZ (aa [])++[.ref 1 1 0 (af []).length 1])++(dZ (aa [])++[.ref 2 2 0 (af []).length 1]))) [B,⟨(af []).map nD, 3,true⟩,⟨(af []).map nD, 3,true⟩]:=by
 have h1:=SpecH.nilA h 3 (r':= .agg ([x,y,z]++(dZ (aa [])++[.ref 1 1 0 0 1])++eE)) (et.agg ((dS.refl 1 [x,y,z]).app (Ef 1)|>.app (dS.refl 1 _)));exact SpecH.nilA h1 3 (r':= .agg ([x,y,z]++(dZ (aa [])++[.ref 1 1 0 0 1])++(dZ (aa [])++[.ref 2 2 0 0 1]))) (show et 2 _ _ from et.agg ((dS.refl 2 ([x,y,z]++(dZ (aa [])++[.ref 1 1 0 0 1]))).app (Ef 2)))
theorem mV:bE.length=288:=by unfold bE;rw[U2,U2,U2,VJ,VJ,VJ,VJ]
theorem pP:cY.length=32:=by unfold cY;rw[VJ]
theorem pQ:aG bE 15=0:=by decide+kernel
theorem rB:aG cY 15=0:=by decide+kernel
theorem Hh (L F:Z1)(hL:L=bE)(hF:F=cY)(b:Z1)(n:Nat)(hn:n=b.length)(hN:n<=1000000)(s:Rs)(hs:bc n s)(a kd:Nat)(s1 s2 s3:Rs)(x1:aY b 1 s=a)(z1:bA b 1 s=s1)(x2:aY b 2 s1=kd)(z2:bA b 2 s1=s2)(z3:FlE s2 (decide ((kd:Int)<=2)) 130 s3)(h3:s3.e=0)(h0:kd=1):S1 93 [.ptr 0 0 0] [⟨[.sl false n 1 (b.map dB),nD (s).p,nD (s).e], 95,false⟩] (.agg ([fP kd,bD (((a:Nat):Int)==1),iD 0]++(dZ (aa L)++[.ref 1 1 0 (af L).length 1])++(dZ (aa F)++[.ref 2 2 0 (af F).length 1]))) [⟨[.sl false n 1 (b.map dB),nD (s3).p,nD (s3).e], 95,false⟩,⟨(af L).map nD, 3,true⟩,⟨(af F).map nD, 3,true⟩]:=by
 have c1:aG L 15=0:=by rw[hL];exact pQ
 have c2:aG F 15=0:=by rw[hF];exact rB
 have l1:L.length=288:=by rw[hL];exact mV
 have l2:F.length=32:=by rw[hF];exact pP
 exact Mn b n hn hN s hs a kd s1 s2 s3 x1 z1 x2 z2 z3 h3 h0 L F hL hF (by rw[Wm,VB (Zd l1)]) (by rw[Wm,VB (Zd l2)]) l1 l2 (l8 c1) (l8 c2) (by rw[c1];exact fM) (by rw[c2];exact fM)
set_option maxRecDepth 100000 in
set_option maxHeartbeats 2000000 in
theorem Mp (b:Z1)(n:Nat)(hn:n=b.length)(hN:n<=1000000)(s:Rs)(hs:bc n s):S1 93 [.ptr 0 0 0] [⟨[.sl false n 1 (b.map dB),nD (s).p,nD (s).e], 95,false⟩] (.agg ([fP (io b s).kd,bD (io b s).la,nD (io b s).le]++(dZ (aa (io b s).l1)++[.ref 1 1 0 (af (io b s).l1).length 1])++(dZ (aa (io b s).l2)++[.ref 2 2 0 (af (io b s).l2).length 1]))) [⟨[.sl false n 1 (b.map dB),nD ((io b s).s).p,nD ((io b s).s).e], 95,false⟩,⟨(af (io b s).l1).map nD, 3,true⟩,⟨(af (io b s).l2).map nD, 3,true⟩]:=by
 rw[jP];unfold EX;dsimp only;have r1:bc n (bA b 1 s):=by subst hn;exact hs.tk _
 have r2:bc n (bA b 2 (bA b 1 s)):=by subst hn;exact(hs.tk _).tk _
 have hk:aY b 2 (bA b 1 s)<4:=bP b 2 _;generalize e3:fl (bA b 2 (bA b 1 s)) (decide (((aY b 2 (bA b 1 s):Nat):Int)<=2)) 130=s3;have r3:bc n s3:=by rw[<-e3];exact r2.fl _ _
 split
 ·next h=>exact Mo (Ml b n hn hN s hs _ _ _ _ s3 rfl rfl rfl rfl ⟨e3⟩ h)
 ·next h=>
  have h:s3.e=0:=by omega
  have hk2:aY b 2 (bA b 1 s)<=2:=by
   rw[<-e3]at h;have:=(xg (by decide) h).2.1;simp at this;omega
  split
  ·next h0=>exact Mo (Mm b n hn hN s hs _ _ _ _ s3 rfl rfl rfl rfl ⟨e3⟩ h h0 ⟨(s3.p+7)/8*8,0⟩ _ _ _ _ _ ⟨by push_cast;rfl,h,rfl⟩ rfl rfl rfl rfl ⟨rfl⟩)
  ·next h0=>
   split
   ·next h1=>exact Hh _ _ rfl rfl b n hn hN s hs _ _ _ _ s3 rfl rfl rfl rfl ⟨e3⟩ h h1
   ·next h1=>
    have h2:aY b 2 (bA b 1 s)=2:=by omega
    unfold Bj;dsimp only
    split
    ·next h3=>exact Mo (Hf b n hn hN s hs _ _ _ _ s3 rfl rfl rfl rfl ⟨e3⟩ h h2 _ _ _ _ _ _ _ _ _ _ _ _ _ _ _ ⟨rfl,rfl,rfl,rfl,rfl,rfl,rfl,rfl,rfl,rfl,rfl,⟨rfl⟩,rfl,rfl,rfl⟩ h3)
    ·next h3=>exact Hg b n hn hN s hs _ _ _ _ s3 rfl rfl rfl rfl ⟨e3⟩ h h2 _ _ _ _ _ _ _ _ _ _ _ _ _ _ _ ⟨rfl,rfl,rfl,rfl,rfl,rfl,rfl,rfl,rfl,rfl,rfl,⟨rfl⟩,rfl,rfl,rfl⟩ _ rfl _ _ _ _ _ _ _ _ ⟨by omega,⟨rfl⟩,rfl,rfl,⟨rfl⟩,rfl,rfl,rfl,rfl⟩
theorem Bk {p:Prop}(h:p:=by(rw[hE (by first|exact .inl om|exact .inr aF)])):p:=h
theorem Mq {p:Prop}(h:p:=by(have h9:=bP b 8 s;have h8:=@D5 b l1 s hT1;have h7:=@D5 b l2 (mf b false (aN b l1 s) (bk b l1 s)) hT2;omega)):p:=h
theorem Mr {p:Prop}(h:p:=by(have h9:=@jO b kd le l1 l2 c;omega)):p:=h
theorem Ms {p:Prop}(h:p:=by(rw[Hj hR om aF (show(fl (fl (aA b kd le l1 l2 c).1 (decide (((aA b kd le l1 l2 c).2.2.1:Int)<=((o.length:Nat):Int))) 60) (decide (((o.length:Nat):Int)+max 1 (((aA b kd le l1 l2 c).2.2.2.1:Nat):Int)<=most)) 140).e≠0 by omega)])):p:=h
theorem QH {p:Prop}(h:p:=by(have q:=@TR b kd le l1 l2 s om om;rw[q];first|done|rfl|(unfold xq;refine mT ?_;omega))):p:=h
theorem QI {p:Prop}(h:p:=by(have q:=@QA b kd le l1 l2 s om om om;rw[q];first|done|rfl|(unfold xq;refine mT ?_;omega))):p:=h
theorem QJ {p:Prop}(h:p:=by(have q:=@QB b kd le l1 l2 s om om om;rw[q];first|done|rfl|(unfold xq;refine mT ?_;omega))):p:=h
theorem QK {p:Prop}(h:p:=by(have q:=@QC b kd le l1 l2 s om om om;rw[q];first|done|rfl|(unfold xq;refine mT ?_;omega))):p:=h
theorem QL {p:Prop}(h:p:=by(exact zQ hn hc hR (by first|exact .inl om|exact .inr aF))):p:=h
theorem QM {p:Prop}(h:p:=by(simp only[Vj,VG,Wo,VM,VV];refine U8 ?_;omega)):p:=h
theorem JD {p:Prop}(h:p:=by(have h9:=@jO b kd le l1 l2 c;have q:=fQ (most:=most) (d:=(aA b kd le l1 l2 c).2.2.1) (long:=(aA b kd le l1 l2 c).2.2.2.1) (s:=(aA b kd le l1 l2 c).1) (o:=o) (show(fl (fl (aA b kd le l1 l2 c).1 (decide (((aA b kd le l1 l2 c).2.2.1:Int)<=((o.length:Nat):Int))) 60) (decide (((o.length:Nat):Int)+max 1 (((aA b kd le l1 l2 c).2.2.2.1:Nat):Int)<=most)) 140).e=0 by omega);rw[oe];omega)):p:=h
theorem JE {p:Prop}(h:p:=by(exact Ek hn hc hR om aF (show(fl (fl (aA b kd le l1 l2 c).1 (decide (((aA b kd le l1 l2 c).2.2.1:Int)<=((o.length:Nat):Int))) 60) (decide (((o.length:Nat):Int)+max 1 (((aA b kd le l1 l2 c).2.2.2.1:Nat):Int)<=most)) 140).e=0 by omega))):p:=h
theorem JF {p:Prop}(h:p:=by show mu b (some (Kb.mk kd la (le-1) l1 l2)) (ip most (Va (U0 (U0 (aA b kd le l1 l2 c)))) (Va (U0 (U0 (U0 (aA b kd le l1 l2 c))))) (Va (aA b kd le l1 l2 c)) o)<mu b (some (Kb.mk kd la le l1 l2)) c;clear Z9 ZC ZA ZD;(exact Mx hn hc om aF (show(fl (fl (aA b kd le l1 l2 c).1 (decide (((aA b kd le l1 l2 c).2.2.1:Int)<=((o.length:Nat):Int))) 60) (decide (((o.length:Nat):Int)+max 1 (((aA b kd le l1 l2 c).2.2.2.1:Nat):Int)<=most)) 140).e=0 by omega))):p:=h
theorem JG {p:Prop}(h:p:=by(have h9:=@jO b kd le l1 l2 c;have q:=fQ (most:=most) (d:=(aA b kd le l1 l2 c).2.2.1) (long:=(aA b kd le l1 l2 c).2.2.2.1) (s:=(aA b kd le l1 l2 c).1) (o:=o) (show(fl (fl (aA b kd le l1 l2 c).1 (decide (((aA b kd le l1 l2 c).2.2.1:Int)<=((o.length:Nat):Int))) 60) (decide (((o.length:Nat):Int)+max 1 (((aA b kd le l1 l2 c).2.2.2.1:Nat):Int)<=most)) 140).e=0 by omega);have h7:=@rC b kd le l1 l2 c om om;exact QU om)):p:=h
theorem JH {p:Prop}(h:p:=by(have h9:=@jO b kd le l1 l2 c;have q:=fQ (most:=most) (d:=(aA b kd le l1 l2 c).2.2.1) (long:=(aA b kd le l1 l2 c).2.2.2.1) (s:=(aA b kd le l1 l2 c).1) (o:=o) (show(fl (fl (aA b kd le l1 l2 c).1 (decide (((aA b kd le l1 l2 c).2.2.1:Int)<=((o.length:Nat):Int))) 60) (decide (((o.length:Nat):Int)+max 1 (((aA b kd le l1 l2 c).2.2.2.1:Nat):Int)<=most)) 140).e=0 by omega);have h8:=gL (aA b kd le l1 l2 c).2.2.1 o j;have h7:=@rC b kd le l1 l2 c om om;omega)):p:=h
structure Kb where
 kd:Nat
 la:Bool
 le:Nat
 l1:Z1
 l2:Z1
def gY (d:Nat):Nat->Z1->Z1
 |0,o=>o
 |k+1,o=>gY d k o++[(gY d k o).getD ((gY d k o).length-d) mq]
def od (lit d long:Nat)(o:Z1):Z1:=if long=0 then o++[V6 lit]else gY d long o
abbrev ip (most:Int)(d long:Nat)(s:Rs)(o:Z1):Rs:=fl (fl s (decide ((d:Int)<=((o.length:Nat):Int))) 60) (decide (((o.length:Nat):Int)+max 1 ((long:Nat):Int)<=most)) 140
def RX (b:Z1)(s:Rs):Kb:=⟨(io b s).kd,(io b s).la,(io b s).le,(io b s).l1,(io b s).l2⟩
abbrev bM (b:Z1)(K:Kb)(s:Rs):=aA b K.kd K.le K.l1 K.l2 s
def g7 (b:Z1)(most:Int):Nat->Option Kb->Rs->Z1->Rs×Z1
 |0,_,s,o=>(s,o)
 |k+1,none,s,o=>g7 b most k (some (RX b s)) (io b s).s o
 |k+1,some K,s,o=>
  if(bM b K s).1.e≠0∨(bM b K s).2.2.2.2=true then(if(bM b K s).1.e≠0∨K.la=true then((bM b K s).1,o)else g7 b most k none (bM b K s).1 o)
  else if(ip most (bM b K s).2.2.1 (bM b K s).2.2.2.1 (bM b K s).1 o).e≠0 then(ip most (bM b K s).2.2.1 (bM b K s).2.2.2.1 (bM b K s).1 o,o)
  else g7 b most k (some {K with le:=K.le-1}) (ip most (bM b K s).2.2.1 (bM b K s).2.2.2.1 (bM b K s).1 o) (od (bM b K s).2.1 (bM b K s).2.2.1 (bM b K s).2.2.2.1 o)
def cM (s z:Rs):Prop:=z.e=0->s.e=0∧s.p<=z.p
theorem cM.refl (s:Rs):cM s s:=λ h=>⟨h,Vd _⟩
theorem cM.trans {s z y:Rs}(h:cM s z)(k:cM z y):cM s y:=λ q=>by
 have h1:=k q;have h2:=h h1.1;exact⟨h2.1,Vq h2.2 h1.2⟩
theorem cM.tk (b:Z1)(m:Nat)(s:Rs):cM s (bA b m s):=λ q=>by
 by_cases h:s.e=0
 ·rw[pL h];exact⟨h,XF _ _⟩
 ·rw[rA h]at q;exact absurd q h
theorem cM.fl (s:Rs)(c:Bool){x:Nat}(hx:x≠0):cM s (fl s c x):=λ q=>by
 rw[xf];exact⟨(xg hx q).1,Vd _⟩
theorem cM.sy (b l:Z1)(s:Rs):cM s (bk b l s):=λ q=>by
 by_cases h:s.e=0
 ·rw[vL h]at q ⊢;exact⟨h,Nat.le_of_lt (xh q).1⟩
 ·rw[vK h]at q;exact absurd q h
theorem QN {b l:Z1}{s:Rs}(q:(bk b l s).e=0):s.e=0∧s.p<(bk b l s).p:=by
 by_cases h:s.e=0
 ·rw[vL h]at q ⊢;exact⟨h,(xh q).1⟩
 ·rw[vK h]at q;exact absurd q h
theorem cM.fe (s:Rs)(x:Nat):cM s (Vp.fl s (((x:Nat):Int)==0) x):=λ q=>by
 rw[xf];refine⟨?_,Vd _⟩
 by_cases h:s.e=0
 ·exact h
 ·rw[GQ h]at q;exact absurd q h
theorem cM.nb (b:Z1)(far:Bool)(y:Nat)(s:Rs):cM s (mf b far y s):=by
 by_cases h0:s.e=0
 ·by_cases h1:(xj b far y s).e=0
  ·rw[(l7 h0 h1).1];exact((cM.fe s _).trans (cM.tk b _ _)).trans (cM.fe _ _)
  ·rw[(pN h0 h1).1];exact(cM.fe s _).trans (cM.tk b _ _)
 ·rw[(pM h0).1];exact cM.refl s
theorem cM.st (b:Z1)(kd le:Nat)(l1 l2:Z1)(s:Rs):cM s (aA b kd le l1 l2 s).1:=by
 unfold aA;rw[au]
 split
 ·split
  ·exact cM.tk b _ _
  ·exact cM.refl _
 ·split
  ·exact cM.sy b _ _
  ·split
   ·exact cM.sy b _ _
   ·split
    ·exact cM.sy b _ _
    ·exact((cM.sy b _ _).trans (cM.nb b _ _ _)).trans ((cM.sy b _ _).trans (cM.nb b _ _ _))
theorem QO {b:Z1}{kd le:Nat}{l1 l2:Z1}{s:Rs}(h:(aA b kd le l1 l2 s).1.e=0)(h2:(aA b kd le l1 l2 s).2.2.2.2=false):s.e=0∧s.p<(aA b kd le l1 l2 s).1.p:=by
 unfold aA at *;rw[au]at *
 split at h
 ·next q=>
  rw[ZF q]at h2 ⊢
  split at h
  ·next q2=>
   rw[ZF q2]at h2 ⊢;have:=cM.tk b 8 s h;refine⟨this.1,?_⟩;show s.p<(bA b 8 s).p;rw[pL this.1];show s.p<s.p+8;omega
  ·next q2=>rw[ZE q2]at h2;cases h2
 ·next q=>
  rw[ZE q]at h2 ⊢
  split at h
  ·next q2=>exact absurd h q2
  ·next q2=>
   rw[ZE q2]at h2 ⊢;have q3:(bk b l1 s).e=0:=by omega
   have q4:=QN q3
   split at h
   ·next q5=>rw[ZF q5]at h2 ⊢;exact q4
   ·next q5=>
    rw[ZE q5]at h2 ⊢
    split at h
    ·next q6=>rw[ZF q6]at h2;cases h2
    ·next q6=>
     rw[ZE q6]at h2 ⊢;have:=((cM.nb b false (aN b l1 s) (bk b l1 s)).trans ((cM.sy b l2 _).trans (cM.nb b true _ _))) h;exact⟨q4.1,VZ q4.2 this.2⟩
theorem cM.rw (b:Z1)(s:Rs):∀i,cM s (cV b s i)
 |0=>cM.refl s
 |i+1=>(cM.rw b s i).trans (cM.tk b 3 _)
theorem cM.lnF (b l:Z1)(N:Nat):∀(k:Nat) (c:Rs) (many:Nat) (r:List Rn),cM c (lnZF b l N k c many r).1
 |0,_,_,_=>cM.refl _
 |k+1,c,many,r=>by
  rw[Vp.lnZF];split
  ·exact cM.refl _
  ·exact(((cM.sy b l c).trans (cM.tk b _ _)).trans (cM.fl _ _ (by decide))).trans (cM.lnF b l N k _ _ _)
theorem cM.ln (b l:Z1)(N:Nat)(s:Rs):cM s (xu b l N s):=by
 unfold xu;rw[pO];exact(cM.lnF b l N N s 0 []).trans (cM.fl _ _ (by decide))
theorem cM.dy (b:Z1)(s:Rs):cM s (Bj b s).1:=by
 unfold Bj;dsimp only;have h8:∀(W:Z1) (N:Nat) (c d e:Bool) (h:Nat),cM s (xu b (fN W 7) N (Vp.fl (Vp.fl (cV b (Vp.fl (bA b 4 (bA b 5 (bA b 5 s))) c 132) h) d 132) e 132)):=λ W N c d e h=>
  ((((((cM.tk b 5 s).trans (cM.tk b 5 _)).trans (cM.tk b 4 _)).trans (cM.fl _ c (by decide))).trans (cM.rw b _ h)).trans (cM.fl _ d (by decide))).trans (cM.fl _ e (by decide))|>.trans (cM.ln b _ N _)
 split
 ·exact h8 _ _ _ _ _ _
 ·exact(((h8 _ _ _ _ _ _).trans (cM.fl _ _ (by decide))).trans (cM.fl _ _ (by decide))).trans ((cM.fl _ _ (by decide)).trans (cM.fl _ _ (by decide)))
theorem bc.dy {b:Z1}{s:Rs}(h:bc b.length s):bc b.length (Bj b s).1:=by
 unfold Bj;dsimp only;have h8:∀(W:Z1) (N:Nat) (c d e:Bool) (i:Nat),bc b.length (xu b (fN W 7) N (Vp.fl (Vp.fl (cV b (Vp.fl (bA b 4 (bA b 5 (bA b 5 s))) c 132) i) d 132) e 132)):=λ W N c d e i=>
  Ec rfl (((((((h.tk 5).tk 5).tk 4).fl c 132).rw i).fl d 132).fl e 132)
 split
 ·exact h8 _ _ _ _ _ _
 ·exact((((h8 _ _ _ _ _ _).fl _ _).fl _ _).fl _ _).fl _ _
theorem Eg (b:Z1)(s:Rs)(h:(io b s).s.e=0):s.e=0∧s.p+3<=(io b s).s.p:=by
 rw[jP]at *;unfold EX at *;dsimp only at *;have h3:∀c:Bool,(fl (bA b 2 (bA b 1 s)) c 130).e=0->s.e=0∧(fl (bA b 2 (bA b 1 s)) c 130).p=s.p+3:=λ c q=>by
  have q1:=(xg (by decide) q).1;have q2:=(cM.tk b 2 _ q1).1;have q3:=(cM.tk b 1 _ q2).1;refine⟨q3,?_⟩;rw[xf,pL q2];show(bA b 1 s).p+2=_;rw[pL q3]
 have h4:=h3 (decide (((aY b 2 (bA b 1 s):Nat):Int)<=2));generalize fl (bA b 2 (bA b 1 s)) (decide (((aY b 2 (bA b 1 s):Nat):Int)<=2)) 130=s3 at *
 split at h
 ·next q=>exact absurd h q
 ·next q=>
  have q0:s3.e=0:=by omega
  have h5:=h4 q0;rw[ZE q]
  split at h
  ·next q2=>
   rw[ZF q2];have h6:=((cM.tk b 16 ⟨(s3.p+7)/8*8,0⟩).trans ((cM.tk b 16 _).trans (cM.fl _ _ (by decide)))) h;exact⟨h5.1,Vq (show s.p+3<=(s3.p+7)/8*8 by omega) h6.2⟩
  ·next q2=>
   rw[ZE q2]
   split at h
   ·next q3=>rw[ZF q3];exact⟨h5.1,by show s.p+3<=s3.p;omega⟩
   ·next q3=>
    rw[ZE q3];have h6:=cM.dy b s3 h;exact⟨h5.1,by show s.p+3<=(Bj b s3).1.p;omega⟩
theorem zM {b:Z1}{s:Rs}(h:bc b.length s):bc b.length (io b s).s:=by
 rw[jP];unfold EX;dsimp only;have h4:bc b.length (fl (bA b 2 (bA b 1 s)) (decide (((aY b 2 (bA b 1 s):Nat):Int)<=2)) 130):=((h.tk 1).tk 2).fl _ _;generalize fl (bA b 2 (bA b 1 s)) (decide (((aY b 2 (bA b 1 s):Nat):Int)<=2)) 130=s3 at *
 split
 ·exact h4
 ·next q=>
  split
  ·have h5:bc b.length ⟨(s3.p+7)/8*8,0⟩:=λ _=>by
    have:=h4 om;show(s3.p+7)/8*8<=_;omega
   exact((h5.tk 16).tk 16).fl _ _
  ·split
   ·exact h4
   ·exact h4.dy
set_option maxRecDepth 100000 in
theorem Eh (b:Z1)(s:Rs):aG (io b s).l1 15=0∧aG (io b s).l2 15=0∧(io b s).kd<4∧(io b s).le<65536∧((io b s).s.e=0->(io b s).kd<=2):=by
 rw[jP];unfold EX;dsimp only;have hk:aY b 2 (bA b 1 s)<4:=bP b 2 _;have h4:(fl (bA b 2 (bA b 1 s)) (decide (((aY b 2 (bA b 1 s):Nat):Int)<=2)) 130).e=0->aY b 2 (bA b 1 s)<=2:=λ q=>by
  have:=(xg (by decide) q).2.1;simp at this;omega
 generalize fl (bA b 2 (bA b 1 s)) (decide (((aY b 2 (bA b 1 s):Nat):Int)<=2)) 130=s3 at *
 split
 ·next q=>exact⟨rfl,rfl,hk,by show 0<65536;decide,λ z=>absurd z q⟩
 ·next q=>
  have q0:s3.e=0:=by omega
  split
  ·exact⟨rfl,rfl,hk,bP b 16 _,λ _=>h4 q0⟩
  ·split
   ·exact⟨pQ,rB,hk,by show 0<65536;decide,λ _=>h4 q0⟩
   ·refine⟨?_,?_,hk,by show 0<65536;decide,λ _=>h4 q0⟩
    ·unfold Bj;dsimp only;split
     ·rfl
     ·exact tE (m:=15) _ (Vd 15)
    ·unfold Bj;dsimp only;split
     ·rfl
     ·exact tE (m:=15) _ (Vd 15)
set_option maxRecDepth 20000 in
theorem Hi {s x:Nat}(h:v5 aC 0 s x=0):1<=Bn aC 0 s x:=by
 rw[KH h];have this:∀y∈aC,1<=y.least:=λ y hy=>of_decide_eq_true (List.all_eq_true.1 (show aC.all (λ y=>decide (1<=y.least))=true by decide) y hy)
 have h2:(0:Int)<=s∧(s:Int)<0+aC.length:=by
  rcases Yb ((0:Int)<=s∧(s:Int)<0+aC.length)with q|q
  ·exact q
  ·rw[KI q]at h;cases h
 have h3:((s:Int)-0).toNat<aC.length:=by omega
 have:=this (aC.getD ((s:Int)-0).toNat mq) (by rw[UZ,U4 h3];exact V3 h3);omega
theorem rC {b:Z1}{kd le:Nat}{l1 l2:Z1}{s:Rs}(h:(aA b kd le l1 l2 s).1.e=0)(h2:(aA b kd le l1 l2 s).2.2.2.1≠0):1<=(aA b kd le l1 l2 s).2.2.1:=by
 unfold aA at *;rw[au]at *
 split at h
 ·next q=>
  rw[ZF q]at h2
  split at h2<;>exact absurd rfl h2
 ·next q=>
  rw[ZE q]at h2 ⊢
  split at h
  ·next q2=>exact absurd h q2
  ·next q2=>
   rw[ZE q2]at h2 ⊢
   split at h
   ·next q5=>rw[ZF q5]at h2;exact absurd rfl h2
   ·next q5=>
    rw[ZE q5]at h2 ⊢
    split at h
    ·next q6=>rw[ZF q6]at h2;exact absurd rfl h2
    ·next q6=>
     rw[ZE q6]at h2 ⊢;generalize aN b l2 (D4 b l1 s)=y at *;generalize bk b l2 (D4 b l1 s)=z at *;show 1<=xk b true y z;have h:(mf b true y z).e=0:=h
     by_cases h0:z.e=0
     ·by_cases h1:(xj b true y z).e=0
      ·rw[(l7 h0 h1).1]at h
       rw[(l7 h0 h1).2];refine Hi ?_
       by_cases hz:qh true y (zH b true y z)=0
       ·exact hz
       ·rw[show(((qh true y (zH b true y z):Nat):Int)==0)=false from by simp;exact hz,DT h1]at h
        exact absurd h hz
      ·rw[(pN h0 h1).1]at h;exact absurd h h1
     ·rw[(pM h0).1]at h;exact absurd h h0
theorem TS {b:Z1}{s:Rs}(h:s.e≠0):(io b s).s=s:=by
 rw[jP];unfold EX;dsimp only;have e:∀c:Bool,fl (bA b 2 (bA b 1 s)) c 130=s:=λ c=>by rw[rA h,rA h,GQ h]
 rw[e,ZF h]
theorem TU {b:Z1}{kd le:Nat}{l1 l2:Z1}{s:Rs}(h:s.e≠0):(aA b kd le l1 l2 s).1=s:=by
 unfold aA;rw[au,vK h]
 split
 ·split
  ·exact rA h
  ·rfl
 ·first|rfl|rw[ZF h]
theorem i7 {b:Z1}{most:Int}:∀(k:Nat) (m:Option Kb) (s:Rs) (o:Z1),s.e≠0->g7 b most k m s o=(s,o)
 |0,_,_,_,_=>rfl
 |k+1,none,s,o,h=>by rw[g7,TS h];exact i7 k _ s o h
 |k+1,some K,s,o,h=>by
  have e:(bM b K s).1=s:=TU h;rw[g7,e,ZF (.inl h),ZF (.inl h)]
def mu (b:Z1)(m:Option Kb)(s:Rs):Nat:=if s.e≠0 then 0 else 2*(8*b.length+1-s.p)+(match m with|none=>0|some _=>1)
theorem kj {b:Z1}{s:Rs}(h:s.e=0):mu b none s=2*(8*b.length+1-s.p):=ZE om
theorem i8 {b:Z1}{s:Rs}{K:Kb}(h:s.e=0):mu b (some K) s=2*(8*b.length+1-s.p)+1:=ZE om
theorem TV {b:Z1}{s:Rs}{m:Option Kb}(h:s.e≠0):mu b m s=0:=ZF h
theorem zO (most:Int)(d long:Nat)(s:Rs)(o:Z1):(ip most d long s o).p=s.p:=by unfold ip;rw[xf,xf]
theorem fQ {most:Int}{d long:Nat}{s:Rs}{o:Z1}(h:(ip most d long s o).e=0):s.e=0∧d<=o.length∧((o.length:Nat):Int)+max 1 ((long:Nat):Int)<=most∧ip most d long s o=s:=by
 unfold ip at *;have h1:=xg (by decide) h;have h2:=xg (by decide) h1.1;have h3:=of_decide_eq_true h1.2.1;have h4:=of_decide_eq_true h2.2.1;exact⟨h2.1,by omega,h3,h1.2.2.trans h2.2.2⟩
theorem bc.tc {n:Nat}{most:Int}{d long:Nat}{s:Rs}{o:Z1}(h:bc n s):bc n (ip most d long s o):=(h.fl _ _).fl _ _
theorem JI {b:Z1}{s:Rs}(hs:bc b.length s)(h:s.e=0):mu b (some (RX b s)) (io b s).s<mu b none s:=by
 have:=hs h;rw[kj h]
 by_cases q:(io b s).s.e=0
 ·have:=Eg b s q
  have:=zM hs q;rw[i8 q];omega
 ·rw[TV q];omega
theorem Ei {b:Z1}{K:Kb}{s:Rs}(hs:bc b.length s)(h:(bM b K s).1.e=0):mu b none (bM b K s).1<mu b (some K) s:=by
 have h1:s.e=0∧s.p<=(bM b K s).1.p:=cM.st b K.kd K.le K.l1 K.l2 s h;have:=hs h1.1;rw[kj h,i8 h1.1];omega
theorem Ej {b:Z1}{K K2:Kb}{s z:Rs}(hs:bc b.length s)(hz:bc b.length z)(h:(bM b K s).1.e=0)(h2:(bM b K s).2.2.2.2=false)(hp:z.p=(bM b K s).1.p)(he:z.e=0):mu b (some K2) z<mu b (some K) s:=by
 have h1:s.e=0∧s.p<(bM b K s).1.p:=QO h h2;have:=hs h1.1;have:=hz he;rw[i8 he,i8 h1.1];omega
theorem kn {b:Z1}{most:Int}:∀(k m:Nat) (md:Option Kb) (s:Rs) (o:Z1),bc b.length s->mu b md s<=k->mu b md s<=m->g7 b most k md s o=g7 b most m md s o
 |0,m,md,s,o,_,h,_=>by
  by_cases he:s.e=0
  ·have:0<mu b md s:=by
    cases md with
    |none=>rw[kj he];have:=‹bc b.length s› he;omega
    |some K=>rw[i8 he];omega
   omega
  ·rw[i7 _ _ _ _ he,i7 _ _ _ _ he]
 |k+1,0,md,s,o,_,_,h=>by
  by_cases he:s.e=0
  ·have:0<mu b md s:=by
    cases md with
    |none=>rw[kj he];have:=‹bc b.length s› he;omega
    |some K=>rw[i8 he];omega
   omega
  ·rw[i7 _ _ _ _ he,i7 _ _ _ _ he]
 |k+1,m+1,none,s,o,hs,h1,h2=>by
  by_cases he:s.e=0
  ·have:=JI hs he
   rw[g7,g7];exact kn k m _ _ _ (zM hs) om om
  ·rw[i7 _ _ _ _ he,i7 _ _ _ _ he]
 |k+1,m+1,some K,s,o,hs,h1,h2=>by
  have hr:bc b.length (bM b K s).1:=bc.st hs;rw[g7,g7]
  split
  ·split
   ·rfl
   ·next q=>
    have q1:(bM b K s).1.e=0:=by
     rcases Yb ((bM b K s).1.e=0)with y|y
     ·exact y
     ·exact absurd (.inl y) q
    have:=Ei hs q1;exact kn k m _ _ _ hr om om
  ·next q=>
   split
   ·rfl
   ·next q2=>
    have q1:(bM b K s).1.e=0:=by
     rcases Yb ((bM b K s).1.e=0)with y|y
     ·exact y
     ·exact absurd (.inl y) q
    have q3:(bM b K s).2.2.2.2=false:=by
     cases y:(bM b K s).2.2.2.2
     ·rfl
     ·exact absurd (.inr y) q
    have:=Ej (K2:={K with le:=K.le-1}) hs hr.tc q1 q3 (zO most (bM b K s).2.2.1 (bM b K s).2.2.2.1 (bM b K s).1 o) om;exact kn k m _ _ _ hr.tc om om
def cZ (b:Z1)(most:Int)(m:Option Kb)(s:Rs)(o:Z1):Rs×Z1:=lk b (g7 b most (mu b m s) m s o)
theorem pR {b:Z1}{most:Int}{m:Option Kb}{s:Rs}{o:Z1}:cZ b most m s o=g7 b most (mu b m s) m s o:=au _ _
section
variable {b:Z1} {most:Int} {K:Kb} {s:Rs} {o:Z1} {R:Rs×Z1}
theorem JJ (hs:bc b.length s)(h:s.e=0)(hR:cZ b most none s o=R):cZ b most (some (RX b s)) (io b s).s o=R:=by
 rw[pR]at *;have:=JI hs h;rw[<-hR,show mu b none s=(mu b none s-1)+1 from by omega,g7];exact kn _ _ _ _ _ (zM hs) (Vd _) om
theorem Mt (K:Kb)(h:s.e=0):0<mu b (some K) s:=by rw[i8 h];omega
theorem zP (hR:cZ b most (some K) s o=R)(h:s.e=0∨(bM b K s).1.e≠0):R=g7 b most (mu b (some K) s-1+1) (some K) s o:=by
 rw[pR]at hR;rw[<-hR]
 by_cases q:s.e=0
 ·have:=Mt (b:=b) K q
  rw[show mu b (some K) s-1+1=mu b (some K) s from by omega]
 ·rw[i7 _ _ _ _ q,i7 _ _ _ _ q]
theorem Mu (hs:bc b.length s)(hR:cZ b most (some K) s o=R)(h:(bM b K s).1.e≠0∨K.la=true)(h2:(bM b K s).1.e≠0∨(bM b K s).2.2.2.2=true):R=((bM b K s).1,o):=by
 rcases Yb (s.e=0∨(bM b K s).1.e≠0)with q|q
 ·rw[zP hR q,g7,ZF h2,ZF h]
 ·exfalso
  have q1:(bM b K s).1.e=0:=by
   rcases Yb ((bM b K s).1.e=0)with y|y
   ·exact y
   ·exact absurd (.inr y) q
  exact q (.inl (cM.st b K.kd K.le K.l1 K.l2 s q1).1)
theorem Mv (hs:bc b.length s)(hR:cZ b most (some K) s o=R)(h:(bM b K s).1.e=0)(h1:K.la=false)(h2:(bM b K s).2.2.2.2=true):cZ b most none (bM b K s).1 o=R:=by
 have h3:=(cM.st b K.kd K.le K.l1 K.l2 s h).1;have h4:=Ei hs h;rw[zP hR (.inl h3),g7,ZF (.inr h2),ZE (λ q=>q.elim (λ y=>y h) (λ y=>by rw[h1]at y;cases y)),pR];exact kn _ _ _ _ _ (bc.st hs) (Vd _) (Nat.le_sub_one_of_lt h4)
theorem Mw (hR:cZ b most (some K) s o=R)(h:(bM b K s).1.e=0)(h2:(bM b K s).2.2.2.2=false)(h3:(ip most (bM b K s).2.2.1 (bM b K s).2.2.2.1 (bM b K s).1 o).e≠0):R=(ip most (bM b K s).2.2.1 (bM b K s).2.2.2.1 (bM b K s).1 o,o):=by
 have h4:=(cM.st b K.kd K.le K.l1 K.l2 s h).1;rw[zP hR (.inl h4),g7,ZE (λ q=>q.elim (λ y=>y h) (λ y=>by rw[h2]at y;cases y)),ZF h3]
theorem QP (hs:bc b.length s)(hR:cZ b most (some K) s o=R)(h:(bM b K s).1.e=0)(h2:(bM b K s).2.2.2.2=false)(h3:(ip most (bM b K s).2.2.1 (bM b K s).2.2.2.1 (bM b K s).1 o).e=0):cZ b most (some {K with le:=K.le-1}) (ip most (bM b K s).2.2.1 (bM b K s).2.2.2.1 (bM b K s).1 o) (od (bM b K s).2.1 (bM b K s).2.2.1 (bM b K s).2.2.2.1 o)=R:=by
 have h4:=(cM.st b K.kd K.le K.l1 K.l2 s h).1;have hr:bc b.length (bM b K s).1:=bc.st hs;have h5:=Ej (K2:={K with le:=K.le-1}) hs hr.tc h h2 (zO most (bM b K s).2.2.1 (bM b K s).2.2.2.1 (bM b K s).1 o) h3;rw[zP hR (.inl h4),g7,ZE (λ q=>q.elim (λ y=>y h) (λ y=>by rw[h2]at y;cases y)),ZE om,pR];exact kn _ _ _ _ _ hr.tc (Vd _) om
end
section
variable {b:Z1} {n:Nat} {most:Int} {kd le:Nat} {la:Bool} {l1 l2:Z1} {s:Rs} {o:Z1} {R:Rs×Z1}
theorem zQ (hn:n=b.length)(hs:bc n s)(hR:cZ b most (some ⟨kd,la,le,l1,l2⟩) s o=R)(h2:(aA b kd le l1 l2 s).1.e≠0∨(aA b kd le l1 l2 s).2.2.2.2=true)(h:(aA b kd le l1 l2 s).1.e≠0∨la=true):R=((aA b kd le l1 l2 s).1,o):=by
 subst hn;exact Mu (K:=⟨kd,la,le,l1,l2⟩) hs hR h h2
theorem zR (hn:n=b.length)(hs:bc n s)(hR:cZ b most (some ⟨kd,la,le,l1,l2⟩) s o=R)(h:(aA b kd le l1 l2 s).1.e=0)(h1:la=false)(h2:(aA b kd le l1 l2 s).2.2.2.2=true):cZ b most none (aA b kd le l1 l2 s).1 o=R:=by
 subst hn;exact Mv (K:=⟨kd,la,le,l1,l2⟩) hs hR h h1 h2
theorem Hj (hR:cZ b most (some ⟨kd,la,le,l1,l2⟩) s o=R)(h:(aA b kd le l1 l2 s).1.e=0)(h2:(aA b kd le l1 l2 s).2.2.2.2=false)(h3:(ip most (aA b kd le l1 l2 s).2.2.1 (aA b kd le l1 l2 s).2.2.2.1 (aA b kd le l1 l2 s).1 o).e≠0):R=(ip most (aA b kd le l1 l2 s).2.2.1 (aA b kd le l1 l2 s).2.2.2.1 (aA b kd le l1 l2 s).1 o,o):=Mw (K:=⟨kd,la,le,l1,l2⟩) hR h h2 h3
theorem Ek (hn:n=b.length)(hs:bc n s)(hR:cZ b most (some ⟨kd,la,le,l1,l2⟩) s o=R)(h:(aA b kd le l1 l2 s).1.e=0)(h2:(aA b kd le l1 l2 s).2.2.2.2=false)(h3:(ip most (aA b kd le l1 l2 s).2.2.1 (aA b kd le l1 l2 s).2.2.2.1 (aA b kd le l1 l2 s).1 o).e=0):cZ b most (some ⟨kd,la,le-1,l1,l2⟩) (ip most (aA b kd le l1 l2 s).2.2.1 (aA b kd le l1 l2 s).2.2.2.1 (aA b kd le l1 l2 s).1 o) (od (aA b kd le l1 l2 s).2.1 (aA b kd le l1 l2 s).2.2.1 (aA b kd le l1 l2 s).2.2.2.1 o)=R:=by
 subst hn;exact QP (K:=⟨kd,la,le,l1,l2⟩) hs hR h h2 h3
theorem Mx (hn:n=b.length)(hs:bc n s)(h:(aA b kd le l1 l2 s).1.e=0)(h2:(aA b kd le l1 l2 s).2.2.2.2=false)(h3:(ip most (aA b kd le l1 l2 s).2.2.1 (aA b kd le l1 l2 s).2.2.2.1 (aA b kd le l1 l2 s).1 o).e=0):mu b (some ⟨kd,la,le-1,l1,l2⟩) (ip most (aA b kd le l1 l2 s).2.2.1 (aA b kd le l1 l2 s).2.2.2.1 (aA b kd le l1 l2 s).1 o)<mu b (some ⟨kd,la,le,l1,l2⟩) s:=by
 subst hn;exact Ej (K:=⟨kd,la,le,l1,l2⟩) hs (bc.tc (bc.st hs)) h h2 (zO _ _ _ _ _) h3
theorem QQ {a c:Rs}(hn:n=b.length)(hc:bc n c)(h0:a.e=0)(h1:c.e=0)(hp:a.p+3<=c.p):mu b none c<mu b none a:=by
 have:=hc h1;rw[kj h0,kj h1];omega
theorem QR {a:Rs}(hp:s.e=0->a.p+3<=s.p)(q:(ip most (aA b kd le l1 l2 s).2.2.1 (aA b kd le l1 l2 s).2.2.2.1 (aA b kd le l1 l2 s).1 o).e=0):a.p+3<=(ip most (aA b kd le l1 l2 s).2.2.1 (aA b kd le l1 l2 s).2.2.2.1 (aA b kd le l1 l2 s).1 o).p:=by
 have h:=fQ q;have h7:=cM.st b kd le l1 l2 s h.1;rw[zO];exact Vq (hp h7.1) h7.2
end
theorem gL (d:Nat)(o:Z1):∀k,(gY d k o).length=o.length+k
 |0=>rfl
 |k+1=>by rw[gY,U2,gL d o k];rfl
theorem JK {lit d long:Nat}{o:Z1}(h:long≠0):od lit d long o=gY d long o:=ZE h
theorem QS {lit d long:Nat}{o:Z1}{t:TypeId}{r:Bool}(h:long=0)(hl:lit<256):(⟨WY dB o++[D.v (.int .u8 ((lit:Nat):Int))],t,r⟩:Blk)=⟨WY dB (od lit d long o),t,r⟩:=by
 unfold od;rw[ZF h,V4]
 congr 2
 show _=[dB _];unfold dB;rw[WQ,Wq om]
theorem QT {lit d long k g:Nat}{o:Z1}{t:TypeId}{r:Bool}(h:long=0):(⟨[U6 k g 0 (o.length+1) 1],t,r⟩:Blk)=⟨[U6 k g 0 (od lit d long o).length 1],t,r⟩:=by
 unfold od;rw[ZF h,U2];rfl
theorem QU {d x:Nat}{o:Z1}{t:TypeId}{r:Bool}(h:x=o.length-d):(⟨WY dB o++[dB (o.getD x mq)],t,r⟩:Blk)=⟨WY dB (gY d 1 o),t,r⟩:=by
 rw[gY,V4,h];rfl
theorem QV {d k g:Nat}{o:Z1}{t:TypeId}{r:Bool}:(⟨[U6 k g 0 (o.length+1) 1],t,r⟩:Blk)=⟨[U6 k g 0 (gY d 1 o).length 1],t,r⟩:=by rw[gL]
theorem TW {d j k g:Nat}{o:Z1}{t:TypeId}{r:Bool}:(⟨[U6 k g 0 ((gY d j o).length+1) 1],t,r⟩:Blk)=⟨[U6 k g 0 (gY d (j+1) o).length 1],t,r⟩:=by rw[gL,gL];rfl
theorem oe (lit d long:Nat)(o:Z1):(od lit d long o).length=o.length+max 1 long:=by
 unfold od;split
 ·rw[U2];simp;omega
 ·rw[gL];omega
theorem My (b:Z1)(n:Nat)(hn:n=b.length)(hN:n<=1000000)(s:Rs)(hs:bc n s)(kd le:Nat)(la:Bool)(hkd:kd<=3)(hle:le<=1000000)(l1 l2:Z1)(hT1:aG l1 15=0)(hT2:aG l2 15=0):S1 94 [.ptr 0 0 0,.agg ([fP kd,bD la,nD le]++(dZ (aa l1)++[.ref 1 1 0 (af l1).length 1])++(dZ (aa l2)++[.ref 2 2 0 (af l2).length 1]))] [⟨[.sl false n 1 (b.map dB),nD (s).p,nD (s).e], 95,false⟩,⟨(af l1).map nD, 3,true⟩,⟨(af l2).map nD, 3,true⟩] (xq (aA b kd le l1 l2 s)) [⟨[.sl false n 1 (b.map dB),nD ((aA b kd le l1 l2 s).1).p,nD ((aA b kd le l1 l2 s).1).e], 95,false⟩,⟨(af l1).map nD, 3,true⟩,⟨(af l2).map nD, 3,true⟩]:=by
 have ho:s.e=0->s.p<=8*n:=hs;have hr1:bc n (bk b l1 s):=by subst hn;exact hs.sy _
 have hr2:bc n (mf b false (aN b l1 s) (bk b l1 s)):=by subst hn;exact(hs.sy _).nb _ _
 have hr3:bc n (bk b l2 (mf b false (aN b l1 s) (bk b l1 s))):=by subst hn;exact((hs.sy _).nb _ _).sy _
 refine SpecH.run T_ok ah Tryz.func94 rfl rfl rfl ⟨rfl,eW _,eW _,trivial⟩ rfl 1000 64 (λ R ok=>(.s 13 (.br ((kd:Int)==0) (λ p0=>have Z7:=eq_of_beq p0;(.s 8 (.bd (0<(le:Int)) (λ p1 Z6=>(.s 2 (.cl 119 true [0] (.fn fx (@fk (b) (n) om om (s) om (8) om)) (.s 1 (.opt (ax .u8 (↑(aY b 8 s):Int)) (bl (aY b 8 s)) (b4 Mq) (.s 26 (.out [0,1,2] [0,1,2] (V2 [Wp [bl (aY b 8 s),zI 0,zI 0],D.v (.bool ((le:Int)==0))]) [U1 [Vl false n 1 (map dB b),zN (Rs.p (bA b 8 s)),zN (Rs.e (bA b 8 s))] 95 false,U1 (map nD (af l1)) 3 true,U1 (map nD (af l2)) 3 true] R (ok _ _ (by(rw[Mg om om,show(((le:Nat):Int)==0)=false from by simp;omega];rfl)) (by(have q:=@Mg b kd le l1 l2 s om om;rw[q];first|done|rfl|(unfold xq;refine mT ?_;omega))))))))))) (λ p1 Z6=>(.s 20 (.out [0,1,2] [0,1,2] (V2 [Wp [bI 0,zI 0,zI 0],D.v (.bool ((le:Int)==0))]) [U1 [Vl false n 1 (map dB b),zN (Rs.p s),zN (Rs.e s)] 95 false,U1 (map nD (af l1)) 3 true,U1 (map nD (af l2)) 3 true] R (ok _ _ (by(rw[Mh om om,show(((le:Nat):Int)==0)=true from by simp;omega];rfl)) (by(have q:=@Mh b kd le l1 l2 s om om;rw[q];first|done|rfl|(unfold xq;refine mT ?_;omega)))))))))) (λ p0=>have Z7:=ap p0;(.s 9 (.call 122 true [0,1] (true) wr ([Vh 0 0 0,Wp [zN (aa l1 0),zN (aa l1 1),zN (aa l1 2),zN (aa l1 3),zN (aa l1 4),zN (aa l1 5),zN (aa l1 6),zN (aa l1 7),zN (aa l1 8),zN (aa l1 9),zN (aa l1 10),zN (aa l1 11),zN (aa l1 12),zN (aa l1 13),zN (aa l1 14),zN (aa l1 15),U6 1 1 0 (length (af l1)) 1]]) _ (by exact(qr (qr trivial))) (true&&(ab (map nD (af l1))&&true)) (by(simp;done)) _ _ _ (VC (az.of Tryz.func122 rfl rfl) (@D8 (b) (n) om om (s) om (l1) om)) (.s 12 (.br ((↑(Rs.e (bk b l1 s)):Int) !=0) (λ p2=>have Z5:=cS p2;(.s 12 (.out [0,1,2] [0,1,2] (V2 [Wp [bI 0,zI 0,zI 0],D.v (.bool false)]) [U1 [Vl false n 1 (map dB b),zN (Rs.p (bk b l1 s)),zN (Rs.e (bk b l1 s))] 95 false,U1 (map nD (af l1)) 3 true,U1 (map nD (af l2)) 3 true] R (ok _ _ QH QH)))) (λ p2=>have Z5:=cT p2;(.s 4 (.bd ((↑(aN b l1 s):Int)<256) (λ p3 Z4=>(.s 2 (.opt (ax .u8 (↑(aN b l1 s):Int)) (bl (aN b l1 s)) (b4 om) (.s 18 (.out [0,1,2] [0,1,2] (V2 [Wp [bl (aN b l1 s),zI 0,zI 0],D.v (.bool false)]) [U1 [Vl false n 1 (map dB b),zN (Rs.p (bk b l1 s)),zN (Rs.e (bk b l1 s))] 95 false,U1 (map nD (af l1)) 3 true,U1 (map nD (af l2)) 3 true] R (ok _ _ QI QI)))))) (λ p3 Z4=>(.s 4 (.br ((↑(aN b l1 s):Int)==256) (λ p4=>have Z3:=eq_of_beq p4;(.s 13 (.out [0,1,2] [0,1,2] (V2 [Wp [bI 0,zI 0,zI 0],D.v (.bool true)]) [U1 [Vl false n 1 (map dB b),zN (Rs.p (bk b l1 s)),zN (Rs.e (bk b l1 s))] 95 false,U1 (map nD (af l1)) 3 true,U1 (map nD (af l2)) 3 true] R (ok _ _ QJ QJ)))) (λ p4=>have Z3:=ap p4;(.s 3 (.cl 123 true [0] (.fn N5 (@D3 (b) (n) om om (bk b l1 s) om (aN b l1 s) Mq)) (.s 16 (.call 122 true [0,2] (true) wr ([Vh 0 0 0,Wp [zN (aa l2 0),zN (aa l2 1),zN (aa l2 2),zN (aa l2 3),zN (aa l2 4),zN (aa l2 5),zN (aa l2 6),zN (aa l2 7),zN (aa l2 8),zN (aa l2 9),zN (aa l2 10),zN (aa l2 11),zN (aa l2 12),zN (aa l2 13),zN (aa l2 14),zN (aa l2 15),U6 1 1 0 (length (af l2)) 1]]) _ (by exact(qr (qr trivial))) (true&&(ab (map nD (af l2))&&true)) (by(simp;done)) _ _ _ (VC (az.of Tryz.func122 rfl rfl) (@D8 (b) (n) om om (mf b false (aN b l1 s) (bk b l1 s)) om (l2) om)) (.s 1 (.cl 123 true [0] (.fn N5 (@GS (b) (n) om om (bk b l2 (mf b false (aN b l1 s) (bk b l1 s))) om (aN b l2 (mf b false (aN b l1 s) (bk b l1 s))) Mq)) (.s 18 (.out [0,1,2] [0,1,2] (V2 [Wp [bI 0,zN (xk b true (aN b l2 (mf b false (aN b l1 s) (bk b l1 s))) (bk b l2 (mf b false (aN b l1 s) (bk b l1 s)))),zN (xk b false (aN b l1 s) (bk b l1 s))],D.v (.bool false)]) [U1 [Vl false n 1 (map dB b),zN (Rs.p (mf b true (aN b l2 (mf b false (aN b l1 s) (bk b l1 s))) (bk b l2 (mf b false (aN b l1 s) (bk b l1 s))))),zN (Rs.e (mf b true (aN b l2 (mf b false (aN b l1 s) (bk b l1 s))) (bk b l2 (mf b false (aN b l1 s) (bk b l1 s)))))] 95 false,U1 (map nD (af l1)) 3 true,U1 (map nD (af l2)) 3 true] R (ok _ _ QK QK)))))))))))))))))))))))) kr
theorem Mz (b:Z1)(n:Nat)(hn:n=b.length)(hN:n<=1000000)(s:Rs)(hs:bc n s)(he:s.e=0)(most:Int)(hm:0<=most∧most<=1000000):S1 55 [.ptr 0 0 0,iD most] [⟨[.sl false n 1 (b.map dB),nD (s).p,nD (s).e], 95,false⟩] (.ref 1 1 0 ((cZ b most none s [])).2.length 1) [⟨[.sl false n 1 (b.map dB),nD ((cZ b most none s []).1).p,nD ((cZ b most none s []).1).e], 95,false⟩,⟨((cZ b most none s []).2).map dB, 5,true⟩]:=by
 refine SpecH.run T_ok ah Tryz.func55 rfl rfl rfl ⟨rfl,cR _,trivial⟩ rfl 1000 64 (λ R ok=>(.s 16 (.nilc 17 17 (U1 [zS] 24 false) 0 97 1 5 (Hn.inl T_ok ah false 40 97 (aq Tryz.prog 92 0) (λ(x:(a:Rs)×'(ha:bc n a)×'(h0:a.e=0)×'(o:Z1)×'(ho:(o.length:Int)<=most)×'(hR:cZ b most none a o=(cZ b most none s []))×'Unit)=>match x with|⟨a,ha,h0,o,ho,hR,_⟩=>Vn [(0,D.yl 89 89),(1,Vh 41 41 0)] [⟨0,0,0,0,.b ⟨[.sl false n 1 (b.map dB),nD (a).p,nD (a).e],95,false⟩⟩,⟨1,1,1,1,.b ⟨[Vh 0 0 0],90,false⟩⟩,⟨9,9,9,9,.b ⟨[zI most],3,false⟩⟩,⟨17,17,17,17,.b ⟨[(U6 152 152 0 ((o).length) 1)],24,false⟩⟩,⟨41,41,41,41,.b ⟨[Vh 0 0 0],90,false⟩⟩,⟨89,89,89,89,.l WE none (rangeAt Tryz.prog 55 0).1 (rangeAt Tryz.prog 55 0).2.1 (rangeAt Tryz.prog 55 0).2.2 58 [(0,Vh 0 0 0),(1,zI most),(3,Vh 9 9 0),(7,Vh 0 0 0),(2,Vh 1 1 0),(4,Vh 17 17 0),(8,WJ (VU 92) [] [Vh 41 41 0])]⟩,⟨152,152,97,97,.b ⟨(o).map dB,5,true⟩⟩] 160) (λ(x:(a:Rs)×'(ha:bc n a)×'(h0:a.e=0)×'(o:Z1)×'(ho:(o.length:Int)<=most)×'(hR:cZ b most none a o=(cZ b most none s []))×'Unit)=>match x with|⟨a,ha,h0,o,ho,hR,_⟩=>mu b none a) [⟨Unit,.ret,λ x=>match x with|()=>Vn [] [⟨0,0,0,0,.b ⟨[.sl false n 1 (b.map dB),nD ((cZ b most none s []).1).p,nD ((cZ b most none s []).1).e],95,false⟩⟩,⟨1,1,1,1,.b ⟨[Vh 0 0 0],90,false⟩⟩,⟨9,9,9,9,.b ⟨[zI most],3,false⟩⟩,⟨17,17,17,17,.b ⟨[(U6 152 152 0 (((cZ b most none s []).2).length) 1)],24,false⟩⟩,⟨41,41,41,41,.b ⟨[Vh 0 0 0],90,false⟩⟩,⟨89,89,89,89,.l WE none (rangeAt Tryz.prog 55 0).1 (rangeAt Tryz.prog 55 0).2.1 (rangeAt Tryz.prog 55 0).2.2 58 [(0,Vh 0 0 0),(1,zI most),(3,Vh 9 9 0),(7,Vh 0 0 0),(2,Vh 1 1 0),(4,Vh 17 17 0),(8,WJ (VU 92) [] [Vh 41 41 0])]⟩,⟨152,152,97,97,.b ⟨((cZ b most none s []).2).map dB,5,true⟩⟩] 160⟩,⟨Unit,.ret,λ x=>match x with|()=>Vn [] [⟨0,0,0,0,.b ⟨[.sl false n 1 (b.map dB),nD ((cZ b most none s []).1).p,nD ((cZ b most none s []).1).e],95,false⟩⟩,⟨1,1,1,1,.b ⟨[Vh 0 0 0],90,false⟩⟩,⟨9,9,9,9,.b ⟨[zI most],3,false⟩⟩,⟨17,17,17,17,.b ⟨[(U6 152 152 0 (((cZ b most none s []).2).length) 1)],24,false⟩⟩,⟨41,41,41,41,.b ⟨[Vh 0 0 0],90,false⟩⟩,⟨89,89,89,89,.l ZG (some Code.ret) (rangeAt Tryz.prog 55 0).1 (rangeAt Tryz.prog 55 0).2.1 (rangeAt Tryz.prog 55 0).2.2 58 [(0,Vh 0 0 0),(1,zI most),(3,Vh 9 9 0),(7,Vh 0 0 0),(2,Vh 1 1 0),(4,Vh 17 17 0),(8,WJ (VU 92) [] [Vh 41 41 0])]⟩,⟨152,152,97,97,.b ⟨((cZ b most none s []).2).map dB,5,true⟩⟩] 160⟩] 1000 64 (fun|⟨a,ha,h0,o,ho,hR,_⟩,Q,ZA,ZD=>(.s 4 (.cl 93 true [0] (.fn UW (@Mp (b) (n) om om (a) om)) (.s 5 (Hn.inl T_ok ah false 40 97 (aq Tryz.prog 92 1) (λ(x:(kd:Nat)×'(la:Bool)×'(le:Nat)×'(l1:Z1)×'(l2:Z1)×'(c:Rs)×'(o:Z1)×'(hkd:kd<4)×'(hk2:c.e=0->kd<=2)×'(hle:le<65536)×'(hT1:aG l1 15=0)×'(hT2:aG l2 15=0)×'(hc:bc n c)×'(hp:c.e=0->a.p+3<=c.p)×'(ho2:(o.length:Int)<=most)×'(hR:cZ b most (some ⟨kd,la,le,l1,l2⟩) c o=(cZ b most none s []))×'Unit)=>match x with|⟨kd,la,le,l1,l2,c,o,hkd,hk2,hle,hT1,hT2,hc,hp,ho2,hR,_⟩=>Vn [(0,D.yl 89 89),(1,Vh 41 41 0),(3,Vh 176 176 0)] [⟨0,0,0,0,.b ⟨[.sl false n 1 (b.map dB),nD (c).p,nD (c).e],95,false⟩⟩,⟨1,1,1,1,.b ⟨[Vh 0 0 0],90,false⟩⟩,⟨9,9,9,9,.b ⟨[zI most],3,false⟩⟩,⟨17,17,17,17,.b ⟨[(U6 152 152 0 ((o).length) 1)],24,false⟩⟩,⟨41,41,41,41,.b ⟨[Vh 0 0 0],90,false⟩⟩,⟨89,89,89,89,.l WE none (rangeAt Tryz.prog 55 0).1 (rangeAt Tryz.prog 55 0).2.1 (rangeAt Tryz.prog 55 0).2.2 58 [(0,Vh 0 0 0),(1,zI most),(3,Vh 9 9 0),(7,Vh 0 0 0),(2,Vh 1 1 0),(4,Vh 17 17 0),(8,WJ (VU 92) [] [Vh 41 41 0])]⟩,⟨152,152,152,152,.b ⟨(o).map dB,5,true⟩⟩,⟨160,160,168,168,.b ⟨(af l1).map nD,3,true⟩⟩,⟨168,168,169,169,.b ⟨(af l2).map nD,3,true⟩⟩,⟨176,176,176,176,.b ⟨[fP kd,bD la,nD le]++(dZ (aa l1)++[(U6 160 160 0 ((af l1).length) 1)])++(dZ (aa l2)++[(U6 168 168 0 ((af l2).length) 1)]),156,false⟩⟩] 184) (λ(x:(kd:Nat)×'(la:Bool)×'(le:Nat)×'(l1:Z1)×'(l2:Z1)×'(c:Rs)×'(o:Z1)×'(hkd:kd<4)×'(hk2:c.e=0->kd<=2)×'(hle:le<65536)×'(hT1:aG l1 15=0)×'(hT2:aG l2 15=0)×'(hc:bc n c)×'(hp:c.e=0->a.p+3<=c.p)×'(ho2:(o.length:Int)<=most)×'(hR:cZ b most (some ⟨kd,la,le,l1,l2⟩) c o=(cZ b most none s []))×'Unit)=>match x with|⟨kd,la,le,l1,l2,c,o,hkd,hk2,hle,hT1,hT2,hc,hp,ho2,hR,_⟩=>mu b (some ⟨kd,la,le,l1,l2⟩) c) [⟨(la2:Bool)×'(le2:Nat)×'(l1:Z1)×'(l2:Z1)×'(kd:Nat)×'(c2:Rs)×'(o2:Z1)×'(hc2:bc n c2)×'(hp2:c2.e=0->a.p+3<=c2.p)×'(ho3:(o2.length:Int)<=most)×'(hE:(c2.e≠0∨la2=true)->(cZ b most none s [])=(c2,o2))×'(hO:c2.e=0->la2=false->cZ b most none c2 o2=(cZ b most none s []))×'Unit,.exit 2,λ x=>match x with|⟨la2,le2,l1,l2,kd,c2,o2,hc2,hp2,ho3,hE,hO,_⟩=>Vn [(0,D.yl 89 89),(1,Vh 41 41 0),(3,Vh 176 176 0)] [⟨0,0,0,0,.b ⟨[.sl false n 1 (b.map dB),nD (c2).p,nD (c2).e],95,false⟩⟩,⟨1,1,1,1,.b ⟨[Vh 0 0 0],90,false⟩⟩,⟨9,9,9,9,.b ⟨[zI most],3,false⟩⟩,⟨17,17,17,17,.b ⟨[(U6 152 152 0 ((o2).length) 1)],24,false⟩⟩,⟨41,41,41,41,.b ⟨[Vh 0 0 0],90,false⟩⟩,⟨89,89,89,89,.l WE none (rangeAt Tryz.prog 55 0).1 (rangeAt Tryz.prog 55 0).2.1 (rangeAt Tryz.prog 55 0).2.2 58 [(0,Vh 0 0 0),(1,zI most),(3,Vh 9 9 0),(7,Vh 0 0 0),(2,Vh 1 1 0),(4,Vh 17 17 0),(8,WJ (VU 92) [] [Vh 41 41 0])]⟩,⟨152,152,152,152,.b ⟨(o2).map dB,5,true⟩⟩,⟨160,160,168,168,.b ⟨(af l1).map nD,3,true⟩⟩,⟨168,168,169,169,.b ⟨(af l2).map nD,3,true⟩⟩,⟨176,176,176,176,.b ⟨[fP kd,bD la2,nD le2]++(dZ (aa l1)++[(U6 160 160 0 ((af l1).length) 1)])++(dZ (aa l2)++[(U6 168 168 0 ((af l2).length) 1)]),156,false⟩⟩] 184⟩,⟨Unit,.ret,λ x=>match x with|()=>Vn [] [⟨0,0,0,0,.b ⟨[.sl false n 1 (b.map dB),nD ((cZ b most none s []).1).p,nD ((cZ b most none s []).1).e],95,false⟩⟩,⟨1,1,1,1,.b ⟨[Vh 0 0 0],90,false⟩⟩,⟨9,9,9,9,.b ⟨[zI most],3,false⟩⟩,⟨17,17,17,17,.b ⟨[(U6 152 152 0 (((cZ b most none s []).2).length) 1)],24,false⟩⟩,⟨41,41,41,41,.b ⟨[Vh 0 0 0],90,false⟩⟩,⟨89,89,89,89,.l ZG (some Code.ret) (rangeAt Tryz.prog 55 0).1 (rangeAt Tryz.prog 55 0).2.1 (rangeAt Tryz.prog 55 0).2.2 58 [(0,Vh 0 0 0),(1,zI most),(3,Vh 9 9 0),(7,Vh 0 0 0),(2,Vh 1 1 0),(4,Vh 17 17 0),(8,WJ (VU 92) [] [Vh 41 41 0])]⟩,⟨152,152,152,152,.b ⟨((cZ b most none s []).2).map dB,5,true⟩⟩] 184⟩] 1000 64 (fun|⟨kd,la,le,l1,l2,c,o,hkd,hk2,hle,hT1,hT2,hc,hp,ho2,hR,_⟩,Q,Z9,ZC=>(.s 8 (.call 94 true [0,160,168] (true) wr ([Vh 0 0 0,Wp [bl kd,D.v (.bool la),zN le,zN (aa l1 0),zN (aa l1 1),zN (aa l1 2),zN (aa l1 3),zN (aa l1 4),zN (aa l1 5),zN (aa l1 6),zN (aa l1 7),zN (aa l1 8),zN (aa l1 9),zN (aa l1 10),zN (aa l1 11),zN (aa l1 12),zN (aa l1 13),zN (aa l1 14),zN (aa l1 15),U6 1 1 0 (length (af l1)) 1,zN (aa l2 0),zN (aa l2 1),zN (aa l2 2),zN (aa l2 3),zN (aa l2 4),zN (aa l2 5),zN (aa l2 6),zN (aa l2 7),zN (aa l2 8),zN (aa l2 9),zN (aa l2 10),zN (aa l2 11),zN (aa l2 12),zN (aa l2 13),zN (aa l2 14),zN (aa l2 15),U6 2 2 0 (length (af l2)) 1]]) _ (by exact(qr (qr trivial))) (true&&(ab (map nD (af l1))&&(ab (map nD (af l2))&&true))) (by(simp;done)) _ _ _ (VC (az.of Tryz.func94 rfl rfl) (@My (b) (n) om om (c) om (kd) (le) (la) om om (l1) (l2) om om)) (.s 25 (.br ((↑(Rs.e (Va (aA b kd le l1 l2 c))):Int) !=0) (λ p0=>have Z7:=cS p0;(.s 2 (Hn.last ZC 0 (⟨(la),(le),(l1),(l2),(kd),((aA b kd le l1 l2 c).1),(o),(by(subst hn;exact bc.st hc)),om,om,QL,om,⟨⟩⟩:(la2:Bool)×'(le2:Nat)×'(l1:Z1)×'(l2:Z1)×'(kd:Nat)×'(c2:Rs)×'(o2:Z1)×'(hc2:bc n c2)×'(hp2:c2.e=0->a.p+3<=c2.p)×'(ho3:(o2.length:Int)<=most)×'(hE:(c2.e≠0∨la2=true)->(cZ b most none s [])=(c2,o2))×'(hO:c2.e=0->la2=false->cZ b most none c2 o2=(cZ b most none s []))×'Unit) rfl [(0,0),(1,1),(9,9),(17,17),(41,41),(89,89),(152,152),(160,160),(168,168),(176,176)] ro))) (λ p0=>have Z7:=cT p0;(.s 1 (.br (U0 (U0 (U0 (U0 (aA b kd le l1 l2 c))))) (λ p1=>(Hn.last ZC 0 (⟨(la),(le),(l1),(l2),(kd),((aA b kd le l1 l2 c).1),(o),(by(subst hn;exact bc.st hc)),(by(exact λ q=>Vq (hp (cM.st b kd le l1 l2 c q).1) (cM.st b kd le l1 l2 c q).2)),om,QL,(by(exact λ q q2=>zR hn hc hR q q2 aF)),⟨⟩⟩:(la2:Bool)×'(le2:Nat)×'(l1:Z1)×'(l2:Z1)×'(kd:Nat)×'(c2:Rs)×'(o2:Z1)×'(hc2:bc n c2)×'(hp2:c2.e=0->a.p+3<=c2.p)×'(ho3:(o2.length:Int)<=most)×'(hE:(c2.e≠0∨la2=true)->(cZ b most none s [])=(c2,o2))×'(hO:c2.e=0->la2=false->cZ b most none c2 o2=(cZ b most none s []))×'Unit) rfl [(0,0),(1,1),(9,9),(17,17),(41,41),(89,89),(152,152),(160,160),(168,168),(176,176)] ro)) (λ p1=>(.s 8 (.ow (le-1) (.s 1 (.opt (k6 VN true 0 ((le:Int)-1)) (zI (max 0 ((le:Int)-1))) (jv _ _ _) (.s 24 (.opt (k6 VN true 1 (↑(Va (U0 (U0 (U0 (aA b kd le l1 l2 c))))):Int)) (zI (max 1 (↑(Va (U0 (U0 (U0 (aA b kd le l1 l2 c))))):Int))) (jv _ _ _) (.s 17 (.cl 73 true [0] (.fn jx (@ci (b) (n) om om (Va (aA b kd le l1 l2 c)) (decide ((↑(Va (U0 (U0 (aA b kd le l1 l2 c)))):Int)<=(↑(length o):Int))) (60) om)) (.s 10 (.op ((↑(length o):Int)+max 1 (↑(Va (U0 (U0 (U0 (aA b kd le l1 l2 c))))):Int)) Mr (.s 6 (.cl 73 true [0] (.fn jx (@ci (b) (n) om om (fl (Va (aA b kd le l1 l2 c)) (decide ((↑(Va (U0 (U0 (aA b kd le l1 l2 c)))):Int)<=(↑(length o):Int))) 60) (decide ((↑(length o):Int)+max 1 (↑(Va (U0 (U0 (U0 (aA b kd le l1 l2 c))))):Int)<=most)) (140) om)) (.s 12 (.br ((↑(Rs.e (fl (fl (Va (aA b kd le l1 l2 c)) (decide ((↑(Va (U0 (U0 (aA b kd le l1 l2 c)))):Int)<=(↑(length o):Int))) 60) (decide ((↑(length o):Int)+max 1 (↑(Va (U0 (U0 (U0 (aA b kd le l1 l2 c))))):Int)<=most)) 140)):Int) !=0) (λ p2=>have Z5:=cS p2;(.s 8 (.blk 0 0 (U1 [Vl false n 1 (map dB b),zN (Rs.p (fl (fl (Va (aA b kd le l1 l2 c)) (decide ((↑(Va (U0 (U0 (aA b kd le l1 l2 c)))):Int)<=(↑(length o):Int))) 60) (decide ((↑(length o):Int)+max 1 (↑(Va (U0 (U0 (U0 (aA b kd le l1 l2 c))))):Int)<=most)) 140)),zN (Rs.e (fl (fl (Va (aA b kd le l1 l2 c)) (decide ((↑(Va (U0 (U0 (aA b kd le l1 l2 c)))):Int)<=(↑(length o):Int))) 60) (decide ((↑(length o):Int)+max 1 (↑(Va (U0 (U0 (U0 (aA b kd le l1 l2 c))))):Int)<=most)) 140))] 95 false) (U1 [Vl false n 1 (map dB b),zN (Rs.p (Va (cZ b most none s []))),zN (Rs.e (Va (cZ b most none s [])))] 95 false) Ms (.blk 17 17 (U1 [U6 152 152 0 (length o) 1] 24 false) (U1 [U6 152 152 0 (length (U0 (cZ b most none s []))) 1] 24 false) Ms (.blk 152 152 (U1 (map dB o) 5 true) (U1 (map dB (U0 (cZ b most none s []))) 5 true) Ms (Hn.last ZC 1 (():Unit) rfl [(0,0),(1,1),(9,9),(17,17),(41,41),(89,89),(152,152)] ro)))))) (λ p2=>have Z5:=cT p2;(.s 8 (.br ((↑(Va (U0 (U0 (U0 (aA b kd le l1 l2 c))))):Int)==0) (λ p3=>have Z4:=eq_of_beq p3;(.s 12 (.chk (true&&U5 (length o*1) (length (map dB o))&&true&&true&&true&&true&&U7 ((length o+1)*1) 140737488355328) QM (.s 5 (.blk 176 176 (U1 [bl kd,D.v (.bool la),zI (max 0 ((le:Int)-1)),zN (aa l1 0),zN (aa l1 1),zN (aa l1 2),zN (aa l1 3),zN (aa l1 4),zN (aa l1 5),zN (aa l1 6),zN (aa l1 7),zN (aa l1 8),zN (aa l1 9),zN (aa l1 10),zN (aa l1 11),zN (aa l1 12),zN (aa l1 13),zN (aa l1 14),zN (aa l1 15),U6 160 160 0 (length (af l1)) 1,zN (aa l2 0),zN (aa l2 1),zN (aa l2 2),zN (aa l2 3),zN (aa l2 4),zN (aa l2 5),zN (aa l2 6),zN (aa l2 7),zN (aa l2 8),zN (aa l2 9),zN (aa l2 10),zN (aa l2 11),zN (aa l2 12),zN (aa l2 13),zN (aa l2 14),zN (aa l2 15),U6 168 168 0 (length (af l2)) 1] 156 false) (U1 [bl kd,D.v (.bool la),zN (le-1),zN (aa l1 0),zN (aa l1 1),zN (aa l1 2),zN (aa l1 3),zN (aa l1 4),zN (aa l1 5),zN (aa l1 6),zN (aa l1 7),zN (aa l1 8),zN (aa l1 9),zN (aa l1 10),zN (aa l1 11),zN (aa l1 12),zN (aa l1 13),zN (aa l1 14),zN (aa l1 15),U6 160 160 0 (length (af l1)) 1,zN (aa l2 0),zN (aa l2 1),zN (aa l2 2),zN (aa l2 3),zN (aa l2 4),zN (aa l2 5),zN (aa l2 6),zN (aa l2 7),zN (aa l2 8),zN (aa l2 9),zN (aa l2 10),zN (aa l2 11),zN (aa l2 12),zN (aa l2 13),zN (aa l2 14),zN (aa l2 15),U6 168 168 0 (length (af l2)) 1] 156 false) (by(simp;have h9:=@jO b kd le l1 l2 c;omega)) (.blk 17 17 (U1 [U6 656 656 0 (length o+1) 1] 24 false) (U1 [U6 656 656 0 (length (od (Va (U0 (aA b kd le l1 l2 c))) (Va (U0 (U0 (aA b kd le l1 l2 c)))) (Va (U0 (U0 (U0 (aA b kd le l1 l2 c))))) o)) 1] 24 false) (by(exact QT om)) (.blk 656 656 (U1 (map dB o++[bl (Va (U0 (aA b kd le l1 l2 c)))]) 5 true) (U1 (map dB (od (Va (U0 (aA b kd le l1 l2 c))) (Va (U0 (U0 (aA b kd le l1 l2 c)))) (Va (U0 (U0 (U0 (aA b kd le l1 l2 c))))) o)) 5 true) (by(have h9:=@jO b kd le l1 l2 c;exact QS om om)) (Hn.next Z9 ⟨(kd),(la),(le-1),(l1),(l2),((ip most (aA b kd le l1 l2 c).2.2.1 (aA b kd le l1 l2 c).2.2.2.1 (aA b kd le l1 l2 c).1 o)),(od (aA b kd le l1 l2 c).2.1 (aA b kd le l1 l2 c).2.2.1 (aA b kd le l1 l2 c).2.2.2.1 o),om,(by(exact λ q=>hk2 (cM.st b kd le l1 l2 c (fQ q).1).1)),om,om,om,(by(subst hn;exact bc.tc (bc.st hc))),(by(exact λ q=>QR hp q)),JD,JE,⟨⟩⟩ JF [(0,0),(1,1),(9,9),(17,17),(41,41),(89,89),(656,656),(160,160),(168,168),(176,176)] ro)))))))) (λ p3=>have Z4:=ap p3;(.s 2 (.two (.s 2 (.t (decide (0<max 1 (↑(Va (U0 (U0 (U0 (aA b kd le l1 l2 c))))):Int))) (by(refine decide_eq_true ?_;(omega))) (.s 19 (.op ((↑(length o):Int)-(↑(Va (U0 (U0 (aA b kd le l1 l2 c)))):Int)) Mr (.s 1 (.chk (decide (0<=(↑(length o):Int)-(↑(Va (U0 (U0 (aA b kd le l1 l2 c)))):Int))&&decide ((↑(length o):Int)-(↑(Va (U0 (U0 (aA b kd le l1 l2 c)))):Int)<(↑(length o):Int))) (by((refine aI ?_ ?_)<;>(repeat' (first|(refine aI ?_ ?_)|(with_reducible rfl)|(refine decide_eq_true ?_)|(refine U8 ?_)|(refine fw ?_)))<;>(have h9:=@jO b kd le l1 l2 c;have q:=fQ (most:=most) (d:=(aA b kd le l1 l2 c).2.2.1) (long:=(aA b kd le l1 l2 c).2.2.2.1) (s:=(aA b kd le l1 l2 c).1) (o:=o) (show(fl (fl (aA b kd le l1 l2 c).1 (decide (((aA b kd le l1 l2 c).2.2.1:Int)<=((o.length:Nat):Int))) 60) (decide (((o.length:Nat):Int)+max 1 (((aA b kd le l1 l2 c).2.2.2.1:Nat):Int)<=most)) 140).e=0 by omega);have h7:=@rC b kd le l1 l2 c om om;omega))) (.s 2 (.opt ((map dB o)[0+AB ((↑(length o):Int)-(↑(Va (U0 (U0 (aA b kd le l1 l2 c)))):Int))*1]?) (dB (getD o (0+AB ((↑(length o):Int)-(↑(Va (U0 (U0 (aA b kd le l1 l2 c)))):Int))*1) mq)) (av _ _ (by(have h9:=@jO b kd le l1 l2 c;have q:=fQ (most:=most) (d:=(aA b kd le l1 l2 c).2.2.1) (long:=(aA b kd le l1 l2 c).2.2.2.1) (s:=(aA b kd le l1 l2 c).1) (o:=o) (show(fl (fl (aA b kd le l1 l2 c).1 (decide (((aA b kd le l1 l2 c).2.2.1:Int)<=((o.length:Nat):Int))) 60) (decide (((o.length:Nat):Int)+max 1 (((aA b kd le l1 l2 c).2.2.2.1:Nat):Int)<=most)) 140).e=0 by omega);have h7:=@rC b kd le l1 l2 c om om;omega))) (.s 3 (.chk (true&&U5 (length o*1) (length (map dB o))&&true&&true&&true&&true&&U7 ((length o+1)*1) 140737488355328) QM (.s 7 (.blk 17 17 (U1 [U6 728 728 0 (length o+1) 1] 24 false) (U1 [U6 728 728 0 (length (gY (Va (U0 (U0 (aA b kd le l1 l2 c)))) 1 o)) 1] 24 false) (by(exact QV)) (.blk 728 728 (U1 (map dB o++[bl (U3 (getD o (0+AB ((↑(length o):Int)-(↑(Va (U0 (U0 (aA b kd le l1 l2 c)))):Int))*1) mq))]) 5 true) (U1 (map dB (gY (Va (U0 (U0 (aA b kd le l1 l2 c)))) 1 o)) 5 true) JG (Hn.inl T_ok ah true 58 392 (aq Tryz.prog 55 0) (λ(x:(j:Nat)×'(hj:1<=j∧j<=(aA b kd le l1 l2 c).2.2.2.1)×'Unit)=>match x with|⟨j,hj,_⟩=>Vn [(2,Vh 1 1 0),(3,Vh 9 9 0),(4,Vh 17 17 0),(5,Vh 472 472 0),(6,zI (max 1 (↑(Va (U0 (U0 (U0 (aA b kd le l1 l2 c))))):Int))),(8,WJ (VU 92) [] [Vh 41 41 0]),(9,Wp [bl (Va (U0 (aA b kd le l1 l2 c))),zN (Va (U0 (U0 (aA b kd le l1 l2 c)))),zN (Va (U0 (U0 (U0 (aA b kd le l1 l2 c)))))]),(42,zI (max 1 (↑(Va (U0 (U0 (U0 (aA b kd le l1 l2 c))))):Int))),(43,nD j)] [⟨0,0,0,0,.b ⟨[Vl false n 1 (map dB b),zN (Rs.p (fl (fl (Va (aA b kd le l1 l2 c)) (decide ((↑(Va (U0 (U0 (aA b kd le l1 l2 c)))):Int)<=(↑(length o):Int))) 60) (decide ((↑(length o):Int)+max 1 (↑(Va (U0 (U0 (U0 (aA b kd le l1 l2 c))))):Int)<=most)) 140)),zN (Rs.e (fl (fl (Va (aA b kd le l1 l2 c)) (decide ((↑(Va (U0 (U0 (aA b kd le l1 l2 c)))):Int)<=(↑(length o):Int))) 60) (decide ((↑(length o):Int)+max 1 (↑(Va (U0 (U0 (U0 (aA b kd le l1 l2 c))))):Int)<=most)) 140))],95,false⟩⟩,⟨1,1,1,1,.b ⟨[Vh 0 0 0],90,false⟩⟩,⟨9,9,9,9,.b ⟨[zI most],3,false⟩⟩,⟨17,17,17,17,.b ⟨[(U6 488 488 0 ((gY (aA b kd le l1 l2 c).2.2.1 j o).length) 1)],24,false⟩⟩,⟨41,41,41,41,.b ⟨[Vh 0 0 0],90,false⟩⟩,⟨89,89,89,89,.l X8 none (rangeAt Tryz.prog 55 0).1 (rangeAt Tryz.prog 55 0).2.1 (rangeAt Tryz.prog 55 0).2.2 58 [(0,Vh 0 0 0),(1,zI most),(3,Vh 9 9 0),(7,Vh 0 0 0),(2,Vh 1 1 0),(4,Vh 17 17 0),(8,WJ (VU 92) [] [Vh 41 41 0])]⟩,⟨160,160,160,160,.b ⟨map nD (af l1),3,true⟩⟩,⟨168,168,168,168,.b ⟨map nD (af l2),3,true⟩⟩,⟨176,176,176,176,.b ⟨[bl kd,D.v (.bool la),zI (max 0 ((le:Int)-1)),zN (aa l1 0),zN (aa l1 1),zN (aa l1 2),zN (aa l1 3),zN (aa l1 4),zN (aa l1 5),zN (aa l1 6),zN (aa l1 7),zN (aa l1 8),zN (aa l1 9),zN (aa l1 10),zN (aa l1 11),zN (aa l1 12),zN (aa l1 13),zN (aa l1 14),zN (aa l1 15),U6 160 160 0 (length (af l1)) 1,zN (aa l2 0),zN (aa l2 1),zN (aa l2 2),zN (aa l2 3),zN (aa l2 4),zN (aa l2 5),zN (aa l2 6),zN (aa l2 7),zN (aa l2 8),zN (aa l2 9),zN (aa l2 10),zN (aa l2 11),zN (aa l2 12),zN (aa l2 13),zN (aa l2 14),zN (aa l2 15),U6 168 168 0 (length (af l2)) 1],156,false⟩⟩,⟨232,232,232,232,.b ⟨[bl (Va (U0 (aA b kd le l1 l2 c))),zN (Va (U0 (U0 (aA b kd le l1 l2 c)))),zN (Va (U0 (U0 (U0 (aA b kd le l1 l2 c)))))],119,false⟩⟩,⟨472,472,392,392,.b ⟨[bl (Va (U0 (aA b kd le l1 l2 c))),zN (Va (U0 (U0 (aA b kd le l1 l2 c)))),zN (Va (U0 (U0 (U0 (aA b kd le l1 l2 c)))))],119,false⟩⟩,⟨480,480,720,720,.b ⟨[bl (U3 (getD o (0+AB ((↑(length o):Int)-(↑(Va (U0 (U0 (aA b kd le l1 l2 c)))):Int))*1) mq))],5,false⟩⟩,⟨488,488,728,728,.b ⟨(gY (aA b kd le l1 l2 c).2.2.1 j o).map dB,5,true⟩⟩] 496) (λ(x:(j:Nat)×'(hj:1<=j∧j<=(aA b kd le l1 l2 c).2.2.2.1)×'Unit)=>match x with|⟨j,hj,_⟩=>(aA b kd le l1 l2 c).2.2.2.1-j) [⟨Unit,.exit 2,λ x=>match x with|()=>Vn [(2,Vh 1 1 0),(3,Vh 9 9 0),(4,Vh 17 17 0),(5,Vh 472 472 0),(6,zI (max 1 (↑(Va (U0 (U0 (U0 (aA b kd le l1 l2 c))))):Int))),(8,WJ (VU 92) [] [Vh 41 41 0]),(9,Wp [bl (Va (U0 (aA b kd le l1 l2 c))),zN (Va (U0 (U0 (aA b kd le l1 l2 c)))),zN (Va (U0 (U0 (U0 (aA b kd le l1 l2 c)))))])] [⟨0,0,0,0,.b ⟨[Vl false n 1 (map dB b),zN (Rs.p (fl (fl (Va (aA b kd le l1 l2 c)) (decide ((↑(Va (U0 (U0 (aA b kd le l1 l2 c)))):Int)<=(↑(length o):Int))) 60) (decide ((↑(length o):Int)+max 1 (↑(Va (U0 (U0 (U0 (aA b kd le l1 l2 c))))):Int)<=most)) 140)),zN (Rs.e (fl (fl (Va (aA b kd le l1 l2 c)) (decide ((↑(Va (U0 (U0 (aA b kd le l1 l2 c)))):Int)<=(↑(length o):Int))) 60) (decide ((↑(length o):Int)+max 1 (↑(Va (U0 (U0 (U0 (aA b kd le l1 l2 c))))):Int)<=most)) 140))],95,false⟩⟩,⟨1,1,1,1,.b ⟨[Vh 0 0 0],90,false⟩⟩,⟨9,9,9,9,.b ⟨[zI most],3,false⟩⟩,⟨17,17,17,17,.b ⟨[(U6 488 488 0 ((gY (aA b kd le l1 l2 c).2.2.1 (aA b kd le l1 l2 c).2.2.2.1 o).length) 1)],24,false⟩⟩,⟨41,41,41,41,.b ⟨[Vh 0 0 0],90,false⟩⟩,⟨89,89,89,89,.l X8 none (rangeAt Tryz.prog 55 0).1 (rangeAt Tryz.prog 55 0).2.1 (rangeAt Tryz.prog 55 0).2.2 58 [(0,Vh 0 0 0),(1,zI most),(3,Vh 9 9 0),(7,Vh 0 0 0),(2,Vh 1 1 0),(4,Vh 17 17 0),(8,WJ (VU 92) [] [Vh 41 41 0])]⟩,⟨160,160,160,160,.b ⟨map nD (af l1),3,true⟩⟩,⟨168,168,168,168,.b ⟨map nD (af l2),3,true⟩⟩,⟨176,176,176,176,.b ⟨[bl kd,D.v (.bool la),zI (max 0 ((le:Int)-1)),zN (aa l1 0),zN (aa l1 1),zN (aa l1 2),zN (aa l1 3),zN (aa l1 4),zN (aa l1 5),zN (aa l1 6),zN (aa l1 7),zN (aa l1 8),zN (aa l1 9),zN (aa l1 10),zN (aa l1 11),zN (aa l1 12),zN (aa l1 13),zN (aa l1 14),zN (aa l1 15),U6 160 160 0 (length (af l1)) 1,zN (aa l2 0),zN (aa l2 1),zN (aa l2 2),zN (aa l2 3),zN (aa l2 4),zN (aa l2 5),zN (aa l2 6),zN (aa l2 7),zN (aa l2 8),zN (aa l2 9),zN (aa l2 10),zN (aa l2 11),zN (aa l2 12),zN (aa l2 13),zN (aa l2 14),zN (aa l2 15),U6 168 168 0 (length (af l2)) 1],156,false⟩⟩,⟨232,232,232,232,.b ⟨[bl (Va (U0 (aA b kd le l1 l2 c))),zN (Va (U0 (U0 (aA b kd le l1 l2 c)))),zN (Va (U0 (U0 (U0 (aA b kd le l1 l2 c)))))],119,false⟩⟩,⟨472,472,392,392,.b ⟨[bl (Va (U0 (aA b kd le l1 l2 c))),zN (Va (U0 (U0 (aA b kd le l1 l2 c)))),zN (Va (U0 (U0 (U0 (aA b kd le l1 l2 c)))))],119,false⟩⟩,⟨480,480,720,720,.b ⟨[bl (U3 (getD o (0+AB ((↑(length o):Int)-(↑(Va (U0 (U0 (aA b kd le l1 l2 c)))):Int))*1) mq))],5,false⟩⟩,⟨488,488,728,728,.b ⟨(gY (aA b kd le l1 l2 c).2.2.1 (aA b kd le l1 l2 c).2.2.2.1 o).map dB,5,true⟩⟩] 496⟩] 1000 64 (fun|⟨j,hj,_⟩,Q,Z8,ZB=>(.s 2 (.bd ((j:Int)<max 1 (↑(Va (U0 (U0 (U0 (aA b kd le l1 l2 c))))):Int)) (λ p4 Z3=>(.s 19 (.op ((↑(length (gY (Va (U0 (U0 (aA b kd le l1 l2 c)))) j o)):Int)-(↑(Va (U0 (U0 (aA b kd le l1 l2 c)))):Int)) JH (.s 1 (.chk (decide (0<=(↑(length (gY (Va (U0 (U0 (aA b kd le l1 l2 c)))) j o)):Int)-(↑(Va (U0 (U0 (aA b kd le l1 l2 c)))):Int))&&decide ((↑(length (gY (Va (U0 (U0 (aA b kd le l1 l2 c)))) j o)):Int)-(↑(Va (U0 (U0 (aA b kd le l1 l2 c)))):Int)<(↑(length (gY (Va (U0 (U0 (aA b kd le l1 l2 c)))) j o)):Int))) (by((refine aI ?_ ?_)<;>(repeat' (first|(refine aI ?_ ?_)|(with_reducible rfl)|(refine decide_eq_true ?_)|(refine U8 ?_)|(refine fw ?_)))<;>(have h9:=@jO b kd le l1 l2 c;have q:=fQ (most:=most) (d:=(aA b kd le l1 l2 c).2.2.1) (long:=(aA b kd le l1 l2 c).2.2.2.1) (s:=(aA b kd le l1 l2 c).1) (o:=o) (show(fl (fl (aA b kd le l1 l2 c).1 (decide (((aA b kd le l1 l2 c).2.2.1:Int)<=((o.length:Nat):Int))) 60) (decide (((o.length:Nat):Int)+max 1 (((aA b kd le l1 l2 c).2.2.2.1:Nat):Int)<=most)) 140).e=0 by omega);have h8:=gL (aA b kd le l1 l2 c).2.2.1 o j;have h7:=@rC b kd le l1 l2 c om om;omega))) (.s 2 (.opt ((map dB (gY (Va (U0 (U0 (aA b kd le l1 l2 c)))) j o))[0+AB ((↑(length (gY (Va (U0 (U0 (aA b kd le l1 l2 c)))) j o)):Int)-(↑(Va (U0 (U0 (aA b kd le l1 l2 c)))):Int))*1]?) (dB (getD (gY (Va (U0 (U0 (aA b kd le l1 l2 c)))) j o) (0+AB ((↑(length (gY (Va (U0 (U0 (aA b kd le l1 l2 c)))) j o)):Int)-(↑(Va (U0 (U0 (aA b kd le l1 l2 c)))):Int))*1) mq)) (av _ _ JH) (.s 3 (.chk (true&&U5 (length (gY (Va (U0 (U0 (aA b kd le l1 l2 c)))) j o)*1) (length (map dB (gY (Va (U0 (U0 (aA b kd le l1 l2 c)))) j o)))&&true&&true&&true&&true&&U7 ((length (gY (Va (U0 (U0 (aA b kd le l1 l2 c)))) j o)+1)*1) 140737488355328) (by(simp only[Vj,VG,Wo,VM,VV];have h9:=@jO b kd le l1 l2 c;have q:=fQ (most:=most) (d:=(aA b kd le l1 l2 c).2.2.1) (long:=(aA b kd le l1 l2 c).2.2.2.1) (s:=(aA b kd le l1 l2 c).1) (o:=o) (show(fl (fl (aA b kd le l1 l2 c).1 (decide (((aA b kd le l1 l2 c).2.2.1:Int)<=((o.length:Nat):Int))) 60) (decide (((o.length:Nat):Int)+max 1 (((aA b kd le l1 l2 c).2.2.2.1:Nat):Int)<=most)) 140).e=0 by omega);have h8:=gL (aA b kd le l1 l2 c).2.2.1 o j;have h7:=@rC b kd le l1 l2 c om om;refine U8 ?_;omega)) (.s 5 (.op (j+1) Mr (.s 1 (.val 43 (zI (j+1)) (zN (j+1)) (by(refine aR ?_;(omega))) (.blk 17 17 (U1 [U6 584 584 0 (length (gY (Va (U0 (U0 (aA b kd le l1 l2 c)))) j o)+1) 1] 24 false) (U1 [U6 584 584 0 (length (gY (Va (U0 (U0 (aA b kd le l1 l2 c)))) (j+1) o)) 1] 24 false) (by(exact TW)) (.blk 584 584 (U1 (map dB (gY (Va (U0 (U0 (aA b kd le l1 l2 c)))) j o)++[bl (U3 (getD (gY (Va (U0 (U0 (aA b kd le l1 l2 c)))) j o) (0+AB ((↑(length (gY (Va (U0 (U0 (aA b kd le l1 l2 c)))) j o)):Int)-(↑(Va (U0 (U0 (aA b kd le l1 l2 c)))):Int))*1) mq))]) 5 true) (U1 (map dB (gY (Va (U0 (U0 (aA b kd le l1 l2 c)))) (j+1) o)) 5 true) JG (Hn.next Z8 ⟨(j+1),om,⟨⟩⟩ (by show Va (U0 (U0 (U0 (aA b kd le l1 l2 c))))-(j+1)<Va (U0 (U0 (U0 (aA b kd le l1 l2 c))))-j;clear Z8 ZB Z9 ZC ZA ZD;omega) [(0,0),(1,1),(9,9),(17,17),(41,41),(89,89),(160,160),(168,168),(176,176),(232,232),(472,472),(480,480),(584,584)] ro)))))))))))))))) (λ p4 Z3=>(.blk 17 17 (U1 [U6 488 488 0 (length (gY (Va (U0 (U0 (aA b kd le l1 l2 c)))) j o)) 1] 24 false) (U1 [U6 488 488 0 (length (gY (Va (U0 (U0 (aA b kd le l1 l2 c)))) (Va (U0 (U0 (U0 (aA b kd le l1 l2 c))))) o)) 1] 24 false) (by(rw[show j=(aA b kd le l1 l2 c).2.2.2.1 from by omega])) (.blk 488 488 (U1 (map dB (gY (Va (U0 (U0 (aA b kd le l1 l2 c)))) j o)) 5 true) (U1 (map dB (gY (Va (U0 (U0 (aA b kd le l1 l2 c)))) (Va (U0 (U0 (U0 (aA b kd le l1 l2 c))))) o)) 5 true) (by(rw[show j=(aA b kd le l1 l2 c).2.2.2.1 from by omega])) (Hn.last ZB 0 (():Unit) rfl [(0,0),(1,1),(9,9),(17,17),(41,41),(89,89),(160,160),(168,168),(176,176),(232,232),(472,472),(480,480),(488,488)] ro))))))) (fun|⟨j,hj,_⟩=>by kernel_rfl) ⟨(1),om,⟨⟩⟩ [(0,0),(1,1),(9,9),(17,17),(41,41),(89,89),(160,160),(168,168),(176,176),(232,232),(392,392),(720,720),(728,728)] ro (ck (fun|()=>(.s 2 (.blk 176 176 (U1 [bl kd,D.v (.bool la),zI (max 0 ((le:Int)-1)),zN (aa l1 0),zN (aa l1 1),zN (aa l1 2),zN (aa l1 3),zN (aa l1 4),zN (aa l1 5),zN (aa l1 6),zN (aa l1 7),zN (aa l1 8),zN (aa l1 9),zN (aa l1 10),zN (aa l1 11),zN (aa l1 12),zN (aa l1 13),zN (aa l1 14),zN (aa l1 15),U6 160 160 0 (length (af l1)) 1,zN (aa l2 0),zN (aa l2 1),zN (aa l2 2),zN (aa l2 3),zN (aa l2 4),zN (aa l2 5),zN (aa l2 6),zN (aa l2 7),zN (aa l2 8),zN (aa l2 9),zN (aa l2 10),zN (aa l2 11),zN (aa l2 12),zN (aa l2 13),zN (aa l2 14),zN (aa l2 15),U6 168 168 0 (length (af l2)) 1] 156 false) (U1 [bl kd,D.v (.bool la),zN (le-1),zN (aa l1 0),zN (aa l1 1),zN (aa l1 2),zN (aa l1 3),zN (aa l1 4),zN (aa l1 5),zN (aa l1 6),zN (aa l1 7),zN (aa l1 8),zN (aa l1 9),zN (aa l1 10),zN (aa l1 11),zN (aa l1 12),zN (aa l1 13),zN (aa l1 14),zN (aa l1 15),U6 160 160 0 (length (af l1)) 1,zN (aa l2 0),zN (aa l2 1),zN (aa l2 2),zN (aa l2 3),zN (aa l2 4),zN (aa l2 5),zN (aa l2 6),zN (aa l2 7),zN (aa l2 8),zN (aa l2 9),zN (aa l2 10),zN (aa l2 11),zN (aa l2 12),zN (aa l2 13),zN (aa l2 14),zN (aa l2 15),U6 168 168 0 (length (af l2)) 1] 156 false) (by(simp;have h9:=@jO b kd le l1 l2 c;omega)) (.blk 17 17 (U1 [U6 488 488 0 (length (gY (Va (U0 (U0 (aA b kd le l1 l2 c)))) (Va (U0 (U0 (U0 (aA b kd le l1 l2 c))))) o)) 1] 24 false) (U1 [U6 488 488 0 (length (od (Va (U0 (aA b kd le l1 l2 c))) (Va (U0 (U0 (aA b kd le l1 l2 c)))) (Va (U0 (U0 (U0 (aA b kd le l1 l2 c))))) o)) 1] 24 false) (by(rw[JK om])) (.blk 488 488 (U1 (map dB (gY (Va (U0 (U0 (aA b kd le l1 l2 c)))) (Va (U0 (U0 (U0 (aA b kd le l1 l2 c))))) o)) 5 true) (U1 (map dB (od (Va (U0 (aA b kd le l1 l2 c))) (Va (U0 (U0 (aA b kd le l1 l2 c)))) (Va (U0 (U0 (U0 (aA b kd le l1 l2 c))))) o)) 5 true) (by(rw[JK om])) (Hn.next Z9 ⟨(kd),(la),(le-1),(l1),(l2),((ip most (aA b kd le l1 l2 c).2.2.1 (aA b kd le l1 l2 c).2.2.2.1 (aA b kd le l1 l2 c).1 o)),(od (aA b kd le l1 l2 c).2.1 (aA b kd le l1 l2 c).2.2.1 (aA b kd le l1 l2 c).2.2.2.1 o),om,(by(exact λ q=>hk2 (cM.st b kd le l1 l2 c (fQ q).1).1)),om,om,om,(by(subst hn;exact bc.tc (bc.st hc))),(by(exact λ q=>QR hp q)),JD,JE,⟨⟩⟩ JF [(0,0),(1,1),(9,9),(17,17),(41,41),(89,89),(488,488),(160,160),(168,168),(176,176)] ro))))))))))))))))))))) .nil))))))))))))))))))))))))))))) (fun|⟨kd,la,le,l1,l2,c,o,hkd,hk2,hle,hT1,hT2,hc,hp,ho2,hR,_⟩=>by kernel_rfl) ⟨((io b a).kd),((io b a).la),((io b a).le),((io b a).l1),((io b a).l2),((io b a).s),(o),(by(exact(Eh b a).2.2.1)),(by(exact(Eh b a).2.2.2.2)),(by(exact(Eh b a).2.2.2.1)),(by(exact(Eh b a).1)),(by(exact(Eh b a).2.1)),(by(subst hn;exact zM ha)),(by(exact λ q=>(Eg b a q).2)),om,(by(subst hn;exact JJ ha h0 hR)),⟨⟩⟩ [(0,0),(1,1),(9,9),(17,17),(41,41),(89,89),(152,152),(168,168),(169,169),(176,176)] ro (gu (fun|⟨la2,le2,l1,l2,kd,c2,o2,hc2,hp2,ho3,hE,hO,_⟩=>(.s 14 (.br ((↑(Rs.e c2):Int) !=0) (λ p5=>have p5f:=cS p5;(.s 4 (.blk 0 0 (U1 [Vl false n 1 (map dB b),zN (Rs.p c2),zN (Rs.e c2)] 95 false) (U1 [Vl false n 1 (map dB b),zN (Rs.p (Va (cZ b most none s []))),zN (Rs.e (Va (cZ b most none s [])))] 95 false) Bk (.blk 17 17 (U1 [U6 152 152 0 (length o2) 1] 24 false) (U1 [U6 152 152 0 (length (U0 (cZ b most none s []))) 1] 24 false) Bk (.blk 152 152 (U1 (map dB o2) 5 true) (U1 (map dB (U0 (cZ b most none s []))) 5 true) Bk (Hn.last ZD 0 (():Unit) rfl [(0,0),(1,1),(9,9),(17,17),(41,41),(89,89),(152,152)] ro)))))) (λ p5=>have p5f:=cT p5;(.s 7 (.br (la2) (λ p6=>(.blk 0 0 (U1 [Vl false n 1 (map dB b),zN (Rs.p c2),zN (Rs.e c2)] 95 false) (U1 [Vl false n 1 (map dB b),zN (Rs.p (Va (cZ b most none s []))),zN (Rs.e (Va (cZ b most none s [])))] 95 false) Bk (.blk 17 17 (U1 [U6 152 152 0 (length o2) 1] 24 false) (U1 [U6 152 152 0 (length (U0 (cZ b most none s []))) 1] 24 false) Bk (.blk 152 152 (U1 (map dB o2) 5 true) (U1 (map dB (U0 (cZ b most none s []))) 5 true) Bk (Hn.last ZD 0 (():Unit) rfl [(0,0),(1,1),(9,9),(17,17),(41,41),(89,89),(152,152)] ro))))) (λ p6=>(Hn.next ZA ⟨(c2),om,om,(o2),om,(by(exact hO om aF)),⟨⟩⟩ (by show mu b none c2<mu b none a;clear ZA ZD;(exact QQ hn hc2 h0 om (hp2 om))) [(0,0),(1,1),(9,9),(17,17),(41,41),(89,89),(152,152)] ro)))))))) (fun|()=>(Hn.last ZD 1 (():Unit) rfl [(0,0),(1,1),(9,9),(17,17),(41,41),(89,89),(152,152)] ro)))))))) (fun|⟨a,ha,h0,o,ho,hR,_⟩=>by kernel_rfl) ⟨(s),om,om,([]),(by(simp <;>(omega))),wr,⟨⟩⟩ [(0,0),(1,1),(9,9),(17,17),(41,41),(89,89),(97,97)] ro (gu (fun|()=>(.s 8 (.out [0,152] [0,152] (U6 1 1 0 (length (U0 (cZ b most none s []))) 1) [U1 [Vl false n 1 (map dB b),zN (Rs.p (Va (cZ b most none s []))),zN (Rs.e (Va (cZ b most none s [])))] 95 false,U1 (map dB (U0 (cZ b most none s []))) 5 true] R (ok _ _ wr wr)))) (fun|()=>(.s 2 (.out [0,152] [0,152] (U6 1 1 0 (length (U0 (cZ b most none s []))) 1) [U1 [Vl false n 1 (map dB b),zN (Rs.p (Va (cZ b most none s []))),zN (Rs.e (Va (cZ b most none s [])))] 95 false,U1 (map dB (U0 (cZ b most none s []))) 5 true] R (ok _ _ wr wr))))))))) kr
theorem pS {p:Prop}(h:p:=by(refine decide_eq_false ?_;(omega))):p:=h
abbrev s0 (p:Nat):Rs:=⟨p,0⟩
def gn (b:Z1)(most:Int)(p:Nat):Rs×Z1:=cZ b most none (s0 p) []
def qi (b:Z1)(at' most:Int):Z1×Nat×Nat:=
 if at'<0∨8*(b.length:Int)<at' then([],0,2)else if most<0∨131072<most then([],0,2)
 else if(gn b most at'.toNat).1.e≠0 then([],0,(gn b most at'.toNat).1.e)else((gn b most at'.toNat).2,(gn b most at'.toNat).1.p,0)
section
variable {b:Z1} {x most:Int}
theorem JL (h:x<0∨8*(b.length:Int)<x):qi b x most=([],0,2):=ZF h
theorem JM (h:¬(x<0∨8*(b.length:Int)<x))(h2:most<0∨131072<most):qi b x most=([],0,2):=(ZE h).trans (ZF h2)
theorem JN (h:¬(x<0∨8*(b.length:Int)<x))(h2:¬(most<0∨131072<most))(h3:(gn b most x.toNat).1.e≠0):qi b x most=([],0,(gn b most x.toNat).1.e):=(ZE h).trans ((ZE h2).trans (ZF h3))
theorem JO (h:¬(x<0∨8*(b.length:Int)<x))(h2:¬(most<0∨131072<most))(h3:¬(gn b most x.toNat).1.e≠0):qi b x most=((gn b most x.toNat).2,(gn b most x.toNat).1.p,0):=(ZE h).trans ((ZE h2).trans (ZE h3))
end
theorem El (b:Z1)(n:Nat)(hn:n=b.length)(hN:n<=131072)(p:Nat)(hp:p<=8*n)(pi:Int)(hpi:pi=p)(most:Int)(hm:0<=most∧most<=1000000)(R:Rs×Z1)(hR:gn b most p=R):S1 55 [.ptr 0 0 0,iD most] [⟨[.sl false n 1 (b.map dB),iD pi,iD 0], 95,false⟩] (.ref 1 1 0 R.2.length 1) [⟨[.sl false n 1 (b.map dB),nD R.1.p,nD R.1.e], 95,false⟩,⟨R.2.map dB, 5,true⟩]:=by
 subst hpi hR;exact Mz b n hn om (s0 p) (λ _=>hp) rfl most hm
theorem QW (b:Z1)(n:Nat)(hn:n=b.length)(hN:n<=131072)(x most:Int)(h:(x<0∨8*(n:Int)<x)∨most<0∨131072<most):S0 30 [.sl false n 1 (b.map dB),iD x,iD most] [] (.tup [dw,iD 0,iD 2]) []:=by
 refine SpecH.run T_ok ah Tryz.func30 rfl rfl rfl trivial rfl 1000 64 (λ R ok=>(.s 13 (.f (decide (131072<(n:Int))) pS (.s 5 (.bd (x<0) (λ p0 Z7=>(.s 43 (.out [] [] (V2 [zS,zI 0,zI 2]) [] R (ok _ _ wr wr)))) (λ p0 Z7=>(.s 7 (.ow (8*(n:Int)) (.s 4 (.bd (8*(n:Int)<x) (λ p1 Z6=>(.s 33 (.out [] [] (V2 [zS,zI 0,zI 2]) [] R (ok _ _ wr wr)))) (λ p1 Z6=>(.s 27 (.bd (most<0) (λ p2 Z5=>(.s 15 (.out [] [] (V2 [zS,zI 0,zI 2]) [] R (ok _ _ wr wr)))) (λ p2 Z5=>(.s 6 (.t (decide (131072<most)) (by(refine decide_eq_true ?_;(omega))) (.s 9 (.out [] [] (V2 [zS,zI 0,zI 2]) [] R (ok _ _ wr wr))))))))))))))))))) kr
theorem QX (b:Z1)(n:Nat)(hn:n=b.length)(hN:n<=131072)(x most:Int)(h1:0<=x∧x<=8*(n:Int))(h2:0<=most∧most<=131072)(tr:Rs×Z1)(hR:gn b most x.toNat=tr)(h:tr.1.e≠0):S0 30 [.sl false n 1 (b.map dB),iD x,iD most] [] (.tup [dw,iD 0,nD tr.1.e]) []:=by
 refine SpecH.run T_ok ah Tryz.func30 rfl rfl rfl trivial rfl 1000 64 (λ R ok=>(.s 13 (.f (decide (131072<(n:Int))) pS (.s 5 (.f (decide (x<0)) pS (.s 7 (.ow (8*(n:Int)) (.s 4 (.f (decide (8*(n:Int)<x)) pS (.s 27 (.f (decide (most<0)) pS (.s 6 (.f (decide (131072<most)) pS (.s 7 (.cl 55 true [184] (.fn Un (@El (b) (n) om om (AB x) om (x) om (most) om (tr) aF)) (.s 11 (.t ((↑(Rs.e (Va tr)):Int) !=0) (by(simp <;>(omega))) (.s 12 (.out [] [] (V2 [zS,zI 0,zN (Rs.e (Va tr))]) [] R (ok _ _ wr wr)))))))))))))))))))) kr
theorem QY (b:Z1)(n:Nat)(hn:n=b.length)(hN:n<=131072)(x most:Int)(h1:0<=x∧x<=8*(n:Int))(h2:0<=most∧most<=131072)(tr:Rs×Z1)(hR:gn b most x.toNat=tr)(h:tr.1.e=0):S0 30 [.sl false n 1 (b.map dB),iD x,iD most] [] (.tup [.ref 0 0 0 tr.2.length 1,nD tr.1.p,iD 0]) [⟨(tr.2).map dB, 5,true⟩]:=by
 refine SpecH.run T_ok ah Tryz.func30 rfl rfl rfl ⟨bn _,trivial⟩ rfl 1000 64 (λ R ok=>(.s 13 (.f (decide (131072<(n:Int))) pS (.s 5 (.f (decide (x<0)) pS (.s 7 (.ow (8*(n:Int)) (.s 4 (.f (decide (8*(n:Int)<x)) pS (.s 27 (.f (decide (most<0)) pS (.s 6 (.f (decide (131072<most)) pS (.s 7 (.cl 55 true [184] (.fn Un (@El (b) (n) om om (AB x) om (x) om (most) om (tr) aF)) (.s 11 (.f ((↑(Rs.e (Va tr)):Int) !=0) (by(simp <;>(omega))) (.s 13 (.out [384] [384] (V2 [U6 0 0 0 (length (U0 tr)) 1,zN (Rs.p (Va tr)),zI 0]) [U1 (map dB (U0 tr)) 5 true] R (ok _ _ wr wr)))))))))))))))))))) kr
theorem vR (b:Z1)(n:Nat)(hn:n=b.length)(hN:n<=131072)(x most:Int)(r:Z1×Nat×Nat)(hr:qi b x most=r):S0 30 [.sl false n 1 (b.map dB),iD x,iD most] [] (.tup [.ref 0 0 0 r.1.length 1,nD r.2.1,nD r.2.2]) [⟨(r.1).map dB, 5,true⟩]:=by
 subst hr
 by_cases h:(x<0∨8*(n:Int)<x)∨most<0∨131072<most
 ·have h1:=QW b n hn hN x most h
  have e:qi b x most=([],0,2):=by
   rcases h with h|h
   ·exact JL om
   ·by_cases q:x<0∨8*(b.length:Int)<x
    ·exact JL q
    ·exact JM q h
  rw[e];exact SpecH.nilA h1 _ (et.tup ⟨et.nil 0 1,et.refl 0 _,et.refl 0 _,trivial⟩)
 ·by_cases q:(gn b most x.toNat).1.e=0
  ·have h1:=QY b n hn hN x most om om _ rfl q
   rw[JO om om om];exact h1
  ·have h1:=QX b n hn hN x most om om _ rfl q
   rw[JN om om q];exact SpecH.nilA h1 _ (et.tup ⟨et.nil 0 1,et.refl 0 _,et.refl 0 _,trivial⟩)
section
variable {b:Z1} {p:Nat}
theorem jQ {v m:Nat}(hv:v<2^m)(h:St b p (nb v m)):aY b m ⟨p,0⟩=v∧bA b m ⟨p,0⟩=⟨p+m,0⟩:=by
 have q:=Qw hv h;rw[DU rfl,pL rfl];exact⟨q.1,congrArg (Rs.mk _) q.2⟩
structure CdO (l:Z1)(s:Nat):Prop where
 o:dn l 15=false
 i:s<l.length
 p:0<(l.getD s mq).toNat
 c:kQ l s<2^(l.getD s mq).toNat
 g:(ac l).getD s mq=(kQ l s,(l.getD s mq).toNat)
theorem vS {l:Z1}{s:Nat}(hc:aG l 15=0)(hC:pm (ac l))(hs:s<l.length)(hp:0<(l.getD s mq).toNat):CdO l s:=by
 have ho:=(dD hc).2.1;have g:=Ds l s ho;rw[ZF ⟨hs,by omega⟩]at g;have c:=(hC s).2;rw[g]at c;exact⟨ho,hs,hp,c,g⟩
theorem pU {l:Z1}{s n x:Nat}(hC:CdO l s):(bs (f6 (ac l) s n x)).length=(l.getD s mq).toNat+n:=by
 rw[f6,hC.g,bC,bC,gX,VS,U2,bf,bf]
theorem vT {l:Z1}{s n x:Nat}{Y:List Bool}(hC:CdO l s)(h:St b p (bs (f6 (ac l) s n x)++Y)):aN b l ⟨p,0⟩=s∧bk b l ⟨p,0⟩=⟨p+(l.getD s mq).toNat,0⟩∧St b (p+(l.getD s mq).toNat) (nb x n++Y):=by
 rw[f6,hC.g,bC,bC,gX,VS,Ve]at h;obtain⟨h1,h2⟩:=h.app;rw[bf]at h2;have q:=Qx hC.o hC.i rfl hC.p hC.c h1;rw[DV rfl,vL rfl,q];exact⟨rfl,rfl,h2⟩
theorem Em {T:List Sy}{f:Int}{i s:Nat}(hi:i<T.length)(hs:(s:Int)=f+i):Bm T f s=(T.getD i mq).bits∧tQ T f s=0:=by
 have e:((s:Int)-f).toNat=i:=by omega
 unfold Bm tQ;rw[ZF om,ZF om,e];exact⟨rfl,rfl⟩
theorem En {T:List Sy}{f:Int}{s n:Nat}(hp:T.all (λ y=>decide (y.many<=2^y.bits))=true)(hi:ao T n<T.length)(hs:(s:Int)=f+(ao T n:Nat)):v5 T f s (n-(T.getD (ao T n) mq).least)=0∧Bn T f s (n-(T.getD (ao T n) mq).least)=n:=by
 have q:=Cl (T:=T) (n:=n) T.length 0 (by rw[<-kO];omega);rw[<-kO]at q;have z:=vH hp hi;have e:((s:Int)-f).toNat=ao T n:=by omega
 have h0:v5 T f s (n-(T.getD (ao T n) mq).least)=0:=by
  unfold v5 yF;rw[e,ZE om,ZE om,ZE om]
 refine⟨h0,?_⟩;unfold Bn;rw[ZF h0,e];omega
theorem Eo {far:Bool}{sy x n bits:Nat}(hB:g6 far sy=bits)(hE:cW far sy=0)(hF:qh far sy x=0)(hV:Jx far sy x=n)(hx:x<2^bits)(h:St b p (nb x bits)):mf b far sy ⟨p,0⟩=⟨p+bits,0⟩∧xk b far sy ⟨p,0⟩=n:=by
 have a:Me far sy ⟨p,0⟩=⟨p,0⟩:=by unfold Me;rw[hE];exact fM
 have q:=jQ hx h;have X:zH b far sy ⟨p,0⟩=x:=by unfold zH;rw[a,hB];exact q.1
 have t:xj b far sy ⟨p,0⟩=⟨p+bits,0⟩:=by unfold xj;rw[a,hB];exact q.2
 have z:=l7 (b:=b) (far:=far) (sy:=sy) (s:=⟨p,0⟩) rfl (by rw[t]);rw[X,t,hF,hV]at z;exact⟨z.1.trans fM,z.2⟩
def MA (A B:Z1)(t:Tn):Prop:=if t.long=0 then CdO A t.lit.toNat else CdO A (257+ao aw t.long)∧CdO B (ao aC t.dist)
theorem QZ {A B:Z1}{kd le:Nat}(hk:kd≠0){t:Tn}(ht:ef t)(hO:MA A B t){Y:List Bool}(h:St b p (bs (mG aw aC (ac A) (ac B) t)++Y)):aA b kd le A B ⟨p,0⟩=(⟨p+(bs (mG aw aC (ac A) (ac B) t)).length,0⟩,if t.long=0 then(t.lit.toNat,0,0,false)else(0,t.dist,t.long,false)):=by
 unfold mG at h ⊢;unfold MA at hO
 by_cases h0:t.long=0
 ·rw[ZF h0]at h hO ⊢
  rw[ZF h0];obtain⟨q1,q2,q3⟩:=vT hO h;rw[QA hk (by rw[q2]) (by rw[q1];exact t.lit.toNat_lt),q1,q2];refine congrArg (λ z=>(Rs.mk z 0,_)) ?_;rw[pU hO,Xe]
 ·rw[ZE h0]at h hO ⊢
  rw[ZE h0];have te:=bK rfl rfl ht h0;rw[cg,Ve]at h;obtain⟨q1,q2,q3⟩:=vT hO.1 h;obtain⟨r1,r2⟩:=q3.app;rw[bf]at r2;have b1:=Em (T:=aw) (f:=257) (i:=ao aw t.long) (s:=257+ao aw t.long) te.1 om;have o1:=En (f:=257) (s:=257+ao aw t.long) mS te.1 om;obtain⟨n1,n2⟩:=Eo (far:=false) (sy:=257+ao aw t.long) b1.1 b1.2 o1.1 o1.2 (vH mS te.1) r1;obtain⟨y1,y2,y3⟩:=vT hO.2 r2;have b2:=Em (T:=aC) (f:=0) (i:=ao aC t.dist) (s:=ao aC t.dist) te.2 om;have o2:=En (f:=0) (s:=ao aC t.dist) pK te.2 om;obtain⟨m1,m2⟩:=Eo (far:=true) (sy:=ao aC t.dist) b2.1 b2.2 o2.1 o2.2 (vH pK te.2) y3.app.1;rw[QC hk (by rw[q2]) (by rw[q1];omega),D4,q1,q2,n1,y1,y2,m1,m2,n2];refine congrArg (λ z=>(Rs.mk z 0,_)) ?_;rw[cg,U2,pU hO.1,pU hO.2];omega
theorem MB {A B:Z1}{kd le:Nat}(hk:kd≠0)(hO:CdO A 256){Y:List Bool}(h:St b p (bs (f6 (ac A) 256 0 0)++Y)):aA b kd le A B ⟨p,0⟩=(⟨p+(bs (f6 (ac A) 256 0 0)).length,0⟩,0,0,0,true):=by
 obtain⟨q1,q2,q3⟩:=vT hO h;rw[QB hk (by rw[q2]) q1,q2];refine congrArg (λ z=>(Rs.mk z 0,_)) ?_;rw[pU hO,Xe]
theorem Q0 {A B:Z1}{le:Nat}(hl:0<le){x:UInt8}{Y:List Bool}(h:St b p (nb x.toNat 8++Y)):aA b 0 le A B ⟨p,0⟩=(⟨p+8,0⟩,x.toNat,0,0,false):=by
 obtain⟨q1,q2⟩:=jQ (show x.toNat<2^8 from x.toNat_lt) h.app.1;rw[Mg rfl hl,q1,q2]
end
end Vp
end Go.Proofs.YtefjnofhgkjpmaaGreat

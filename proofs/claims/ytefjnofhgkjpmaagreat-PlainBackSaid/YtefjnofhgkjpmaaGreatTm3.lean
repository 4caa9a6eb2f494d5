/- Part 3. -/
import Derived.Test.YtefjnofhgkjpmaaGreatTm2
set_option linter.unusedVariables false
set_option linter.unusedSimpArgs false
set_option maxRecDepth 100000
set_option maxHeartbeats 4000000
open And renaming intro → VR
open BitVec renaming ofInt → Vb, toNat → VO
open Bool renaming and_eq_true → U9, and_true → VV, toNat_le → XV, true_and → VM
open Eq renaming trans → YV
open Go.Fn renaming func → VU
open Go.IntKind renaming i64 → VN, u32 → VY, u64 → W5, u8 → W6, wrap → Vo
open Go.LoopState renaming ready → WE
open Go.Value renaming int → Wj
open Go.Vx.Blk renaming mk → U1
open Go.Vx.CallOk renaming fn → VC
open Go.Vx.CutS renaming mk → Vn
open Go.Vx.D renaming agg → Wp, fn → WJ, ptr → Vh, ref → U6, sl → Vl, tup → V2
open Inhabited renaming default → mq
open Int renaming emod_eq_of_lt → aac, eq_ofNat_of_zero_le → V5, fdiv → V1, fdiv_eq_ediv_of_nonneg → WX, natCast_ediv → Yz, natCast_nonneg → XT, tdiv → Yr, tmod → XK, toNat → AB, toNat_natCast → Wx
open List renaming append_assoc → Ve, append_nil → VS, drop → VW, drop_append → aat, drop_append_of_le_length → XQ, drop_eq_nil_of_le → Wv, drop_left → X7, drop_replicate → YP, drop_zero → Wm, eq_nil_iff_forall_not_mem → YB, eq_replicate_iff → XY, ext_getElem? → Wb, flatMap_append → WL, flatMap_cons → Wf, getD → ZI, getD_eq_getElem?_getD → UZ, getElem?_append_left → Vz, getElem?_append_right → Vs, getElem?_eq_getElem → U4, getElem?_eq_none → VF, getElem?_map → Vu, getElem?_range → Wu, getElem?_replicate → Wz, getElem?_set → WN, getElem_mem → V3, length → Ym, length_append → U2, length_cons → VE, length_drop → VH, length_map → Vj, length_nil → WZ, length_range → WH, length_replicate → VJ, length_set → Xu, length_singleton → VP, length_take → Vg, map_append → V4, map_congr_left → YO, map_drop → ZT, map_replicate → W7, map_take → Yf, mem_append → Zh, mem_or_eq_of_mem_set → YX, nil_append → XI, range → Wa, replicate → Vk, set_append_right → Zj, take → VX, take_append_drop → WK, take_append_of_le_length → Xn, take_length → Wd, take_of_length_le → VB, take_replicate → ZN, take_succ_eq_append_getElem → VT
open List.Perm renaming refl → XH
open Nat renaming add_assoc → Wh, add_comm → YS, add_mul → Wt, add_sub_cancel_left → Xr, beq → U5, beq_refl → Wo, ble → U7, ble_eq_true_of_le → U8, div_eq_of_lt → YA, div_le_self → YL, eq_of_beq_eq_true → Vc, le_refl → Vd, le_trans → Vq, lt_irrefl → XA, lt_of_lt_of_le → VZ, lt_or_ge → VL, lt_succ_self → YC, min → WB, min_eq_left → YM, mod_eq_of_lt → Wq, mul_add → XD, mul_assoc → WA, mul_comm → WR, mul_le_mul_left → XM, mul_one → VG, not_lt_zero → Ws, pow_add → Y1, pow_le_pow_right → VD, pow_succ → V8, sub_self → Wn, succ_ne_zero → Xi, toNat_testBit → aad, two_pow_add_eq_or_of_lt → Xw, two_pow_pos → WD, zero_add → VK, zero_le → VI, zero_lt_one → Xt, zero_mul → WT
open Prod renaming fst → Va, snd → U0
open UInt8 renaming ofNat → V6, toNat → U3, toNat_lt → Wl, toNat_ofNat' → WQ
namespace Go.Proofs.YtefjnofhgkjpmaaGreat
open Go.RowKit Go.Bw Go.Vx
open List (length getD map take drop flatMap replicate)
namespace Vp
theorem SF {p:Prop}(h:p:=by(have q:=SG hR om om rfl om om;have h9:=hz i;subst q;refine aR ?_;omega)):p:=h
def Oy (s:Sy)(n:Nat):Bool:=decide (s.least<=n∧n<s.least+s.many)
def q7 (T:List Sy)(n:Nat):Nat->Nat->Nat
 |0,i=>i
 |f+1,i=>if Oy (T.getD i mq) n=true then i else q7 T n f (i+1)
def ao (T:List Sy)(n:Nat):Nat:=lk T (q7 T n T.length 0)
theorem kO (T:List Sy)(n:Nat):ao T n=q7 T n T.length 0:=au _ _
theorem IB {T:List Sy}{n:Nat}:∀(f i:Nat),i<=q7 T n f i
 |0,_=>Vd _
 |f+1,i=>by
  rw[q7];split
  ·exact Vd _
  ·exact Nat.le_of_succ_le (IB f (i+1))
theorem SG {T:List Sy}{n f i I u:Nat}(hR:q7 T n f i=I)(hf:T.length<=i+f)(hi:i<T.length)(hu:u=i)(h1:(T.getD u mq).least<=n)(h2:n<(T.getD u mq).least+(T.getD u mq).many):i=I:=by
 subst hu;obtain⟨g,rfl⟩:∃g,f=g+1:=⟨f-1,by omega⟩
 rw[<-hR,q7,ZF (show Oy (T.getD u mq) n=true from decide_eq_true ⟨h1,h2⟩)]
theorem FH {T:List Sy}{n f i I u:Nat}(hR:q7 T n f i=I)(hf:T.length<=i+f)(hi:i<T.length)(hu:u=i)(h:¬((T.getD u mq).least<=n∧n<(T.getD u mq).least+(T.getD u mq).many)):q7 T n (f-1) (i+1)=I∧i+1<=I:=by
 subst hu;obtain⟨g,rfl⟩:∃g,f=g+1:=⟨f-1,by omega⟩
 rw[q7,ZE (λ q:Oy (T.getD u mq) n=true=>h (of_decide_eq_true q))]at hR;exact⟨hR,by rw[<-hR];exact IB g (u+1)⟩
theorem Cl {T:List Sy}{n:Nat}:∀(f i:Nat),q7 T n f i<i+f->(T.getD (q7 T n f i) mq).least<=n∧n<(T.getD (q7 T n f i) mq).least+(T.getD (q7 T n f i) mq).many
 |0,i,h=>absurd h (by rw[q7];omega)
 |f+1,i,h=>by
  rw[q7]at h ⊢
  by_cases q:Oy (T.getD i mq) n=true
  ·rw[ZF q];exact of_decide_eq_true q
  ·rw[ZE q]at h ⊢;exact Cl f (i+1) om
def SH:List Sy->Nat->Nat->Bool
 |[],a,b=>U5 a b
 |s::l,a,b=>U5 s.least a&&SH l (a+s.many) b
theorem Cm {n b:Nat}(T:List Sy):∀(f i a:Nat),i+f=T.length->SH (T.drop i) a b=true->a<=n->n<b->q7 T n f i<i+f
 |0,i,a,h,hc,h1,h2=>by
  rw[Wv om]at hc;have:=Vc hc;omega
 |f+1,i,a,h,hc,h1,h2=>by
  rw[List.drop_eq_getElem_cons (by omega:i<T.length),SH,U9]at hc;have e:T.getD i mq=T[i]'om:=by rw[UZ,U4 om];rfl
  have hl:=Vc hc.1;rw[q7,e]
  by_cases q:Oy (T[i]'om) n=true
  ·rw[ZF q];omega
  ·rw[ZE q]
   have q2:=of_decide_eq_false (Bool.eq_false_iff.2 q);have:=Cm (n:=n) (b:=b) T f (i+1) (a+(T[i]'om).many) om hc.2 om h2;omega
theorem Cn (T:List Sy)(k:Nat)(hk:k=T.length)(hk2:k<=64)(hz:b6 T)(b:Nat)(hb:b<=257)(n:Nat)(hn:n<=40000)(I:Nat)(hI:ao T n=I)(hIk:I<k):S0 173 [.agg [nD b,.sl false k 3 (T.flatMap gZ)],nD n] [] (.tup [nD (b+I),nD (T.getD I mq).bits,nD (n-(T.getD I mq).least),iD 0]) []:=by
 refine SpecH.run T_ok ah Tryz.func173 rfl rfl rfl trivial rfl 1000 64 (λ R ok=>(.s 14 (Hn.inl T_ok ah false 42 0 (aq Tryz.prog 173 0) (λ(x:(i:Nat)×'(f:Nat)×'(hi:i<=k)×'(hf:k<=i+f)×'(hR:q7 T n f i=I)×'(hi2:i<=I)×'Unit)=>match x with|⟨i,f,hi,hf,hR,hi2,_⟩=>Vn [(1,zN n),(2,Vh 0 0 0),(11,Vl false k 3 (flatMap gZ T)),(12,zN k),(13,nD i)] [⟨0,0,0,0,.b ⟨[zN b,Vl false k 3 (flatMap gZ T)],252,false⟩⟩] 8) (λ(x:(i:Nat)×'(f:Nat)×'(hi:i<=k)×'(hf:k<=i+f)×'(hR:q7 T n f i=I)×'(hi2:i<=I)×'Unit)=>match x with|⟨i,f,hi,hf,hR,hi2,_⟩=>k-i) [⟨Unit,.ret,λ x=>match x with|()=>Vn [(4,nD (b+I)),(5,nD (T.getD I mq).bits),(6,nD (n-(T.getD I mq).least)),(7,iD 0)] [⟨0,0,0,0,.b ⟨[zN b,Vl false k 3 (flatMap gZ T)],252,false⟩⟩] 8⟩] 1000 64 (fun|⟨i,f,hi,hf,hR,hi2,_⟩,Q,ZA,ZD=>(.s 2 (.t (decide ((i:Int)<k)) (by(refine decide_eq_true ?_;(omega))) (.s 2 (.chk (true&&decide ((i:Int)<k)&&true) (by((refine aI ?_ ?_)<;>(repeat' (first|(refine aI ?_ ?_)|(with_reducible rfl)|(refine decide_eq_true ?_)|(refine U8 ?_)|(refine fw ?_)))<;>(omega))) (.s 2 (.chk (U7 (i*3+3) (length (flatMap gZ T))) (by(rw[ba (k:=3) (λ _=>rfl)];refine U8 ?_;(omega))) (.lst (take 3 (drop (i*3) (flatMap gZ T))) ([zN (Sy.bits (getD T i mq)),zN (Sy.least (getD T i mq)),zN (Sy.many (getD T i mq))]) (aD (k:=3) (i:=i) (λ _=>rfl) om om) (.s 17 (.bd ((↑(Sy.least (getD T i mq)):Int)<=(n:Int)) (λ p0 Z7=>(.s 19 (.op ((↑(Sy.least (getD T i mq)):Int)+(↑(Sy.many (getD T i mq)):Int)) (by(have h9:=hz i;omega)) (.s 4 (.bd ((n:Int)<(↑(Sy.least (getD T i mq)):Int)+(↑(Sy.many (getD T i mq)):Int)) (λ p1 Z6=>(.s 10 (.ow (b+i) (.s 15 (.ow (n-(↑(Sy.least (getD T i mq)):Int)) (.s 4 (.val 4 (zI (b+i)) (zN (b+I)) SF (.val 5 (zN (Sy.bits (getD T i mq))) (zN (Sy.bits (getD T I mq))) SF (.val 6 (zI (n-(↑(Sy.least (getD T i mq)):Int))) (zN (n-Sy.least (getD T I mq))) SF (Hn.last ZD 0 (():Unit) rfl [(0,0)] ro)))))))))) (λ p1 Z6=>(.s 2 (.ow (i+1) (.s 1 (.val 13 (zI (i+1)) (zN (i+1)) (by(refine aR ?_;(omega))) (Hn.next ZA ⟨(i+1),(f-1),om,om,(by(exact(FH hR om om rfl om).1)),(by(exact(FH hR om om rfl om).2)),⟨⟩⟩ (by show k-(i+1)<k-i;clear ZA ZD;omega) [(0,0)] ro))))))))))) (λ p0 Z7=>(.s 16 (.ow (i+1) (.s 1 (.val 13 (zI (i+1)) (zN (i+1)) (by(refine aR ?_;(omega))) (Hn.next ZA ⟨(i+1),(f-1),om,om,(by(exact(FH hR om om rfl om).1)),(by(exact(FH hR om om rfl om).2)),⟨⟩⟩ (by show k-(i+1)<k-i;clear ZA ZD;omega) [(0,0)] ro)))))))))))))))) (fun|⟨i,f,hi,hf,hR,hi2,_⟩=>by kernel_rfl) ⟨(0),(k),om,om,(by(rw[hk];exact(kO T n).symm.trans hI)),om,⟨⟩⟩ [(0,0)] ro (ck (fun|()=>(.out [] [] (V2 [zN (b+I),zN (Sy.bits (getD T I mq)),zN (n-Sy.least (getD T I mq)),zI 0]) [] R (ok _ _ wr wr))))))) kr
theorem KJ (T:List Sy)(hT:T=aw)(hl:T.length=29)(hz:b6 T)(n:Nat)(hn:n<=40000)(I:Nat)(hI:ao T n=I)(hIk:I<29):S0 142 [nD n] [] (.tup [nD (257+I),nD (T.getD I mq).bits,nD (n-(T.getD I mq).least),iD 0]) []:=by
 refine SpecH.run T_ok ah Tryz.func142 rfl rfl rfl trivial rfl 1000 64 (λ R ok=>(.s 5 (.cl 160 false [] (.fn Kw (@sv (T) aF)) (.s 2 (.call 173 false [] (true&&(true&&(true&&U7 87 (length (flatMap gZ T))&&true&&ab (bif true&&U5 87 (length (flatMap gZ T))then flatMap gZ T else take 87 (drop 0 (flatMap gZ T))))&&true)&&true) (by(have q:ab (T.flatMap gZ)=true:=fO (f:=gZ) (λ _=>rfl) T;rw[ba (f:=gZ) (k:=3) (λ _=>rfl),hl];simp only[show U7 87 (29*3)=true from rfl,show U5 87 (29*3)=true from rfl,VV,cond_true,q])) ([Wp [zI 257,Vl true 29 3 (bif true&&U5 87 (length (flatMap gZ T))then flatMap gZ T else take 87 (drop 0 (flatMap gZ T)))],zN n]) _ (by exact(VR (D.sim.agg (qr (VR (D.sim.slw rfl (bW (by(have q:ab (T.flatMap gZ)=true:=fO (f:=gZ) (λ _=>rfl) T;rw[ba (f:=gZ) (k:=3) (λ _=>rfl),hl];simp only[show U7 87 (29*3)=true from rfl,show U5 87 (29*3)=true from rfl,VV,cond_true,q]))|>.trans rfl)) trivial))) (qr trivial))) (true) wr _ _ _ (VC (az.of Tryz.func173 rfl rfl) (@Cn (T) (29) om om om (257) (by(simp;done)) (n) om (I) aF om)) (.s 12 (.out [] [] (V2 [zN (257+I),zN (Sy.bits (getD T I mq)),zN (n-Sy.least (getD T I mq)),zI 0]) [] R (ok _ _ wr wr)))))))) kr
theorem Oz (T:List Sy)(hT:T=aC)(hl:T.length=30)(hz:b6 T)(n:Nat)(hn:n<=40000)(I:Nat)(hI:ao T n=I)(hIk:I<30):S0 143 [nD n] [] (.tup [nD (0+I),nD (T.getD I mq).bits,nD (n-(T.getD I mq).least),iD 0]) []:=by
 refine SpecH.run T_ok ah Tryz.func143 rfl rfl rfl trivial rfl 1000 64 (λ R ok=>(.s 5 (.cl 163 false [] (.fn Kx (@wL (T) aF)) (.s 2 (.call 173 false [] (true&&(true&&(true&&U7 90 (length (flatMap gZ T))&&true&&ab (bif true&&U5 90 (length (flatMap gZ T))then flatMap gZ T else take 90 (drop 0 (flatMap gZ T))))&&true)&&true) (by(have q:ab (T.flatMap gZ)=true:=fO (f:=gZ) (λ _=>rfl) T;rw[ba (f:=gZ) (k:=3) (λ _=>rfl),hl];simp only[show U7 90 (30*3)=true from rfl,show U5 90 (30*3)=true from rfl,VV,cond_true,q])) ([Wp [zI 0,Vl true 30 3 (bif true&&U5 90 (length (flatMap gZ T))then flatMap gZ T else take 90 (drop 0 (flatMap gZ T)))],zN n]) _ (by exact(VR (D.sim.agg (qr (VR (D.sim.slw rfl (bW (by(have q:ab (T.flatMap gZ)=true:=fO (f:=gZ) (λ _=>rfl) T;rw[ba (f:=gZ) (k:=3) (λ _=>rfl),hl];simp only[show U7 90 (30*3)=true from rfl,show U5 90 (30*3)=true from rfl,VV,cond_true,q]))|>.trans rfl)) trivial))) (qr trivial))) (true) wr _ _ _ (VC (az.of Tryz.func173 rfl rfl) (@Cn (T) (30) om om om (0) (by(simp;done)) (n) om (I) aF om)) (.s 12 (.out [] [] (V2 [zN (0+I),zN (Sy.bits (getD T I mq)),zN (n-Sy.least (getD T I mq)),zI 0]) [] R (ok _ _ wr wr)))))))) kr
theorem uT {p:Prop}(h:p:=by(refine aR ?_;rw[iR];unfold sn;(repeat' split)<;>first|omega|(simp_all;done))):p:=h
theorem wO {p:Prop}(h:p:=by(refine aR ?_;(omega))):p:=h
theorem FI {p:Prop}(h:p:=by(simp only[Ss (l:=l) (a:=a) (k:=k) (by(omega)),N9 (l:=l) (a:=a) (k:=k) (by(omega))])):p:=h
theorem KK {p:Prop}(h:p:=by(refine decide_eq_false ?_;(omega))):p:=h
theorem KL {p:Prop}(h:p:=by((refine aI ?_ ?_)<;>(repeat' (first|(refine aI ?_ ?_)|(with_reducible rfl)|(refine decide_eq_true ?_)|(refine U8 ?_)|(refine fw ?_)))<;>(omega))):p:=h
theorem KM {p:Prop}(h:p:=by show n-(k+1)<n-k;clear Z9 ZC ZA ZD;omega):p:=h
theorem OA {p:Prop}(h:p:=by(simp;have h9:=Ch l a k a om;have h8:=wK (l:=l) (n:=a) (k:=k) om om;omega)):p:=h
theorem OC {p:Prop}(h:p:=by(rw[show a=16 from by(omega)];simp(disch:=decide) only[AL,wJ])):p:=h
theorem OD {x:Int}(h:-9223372036854775808<=x∧x<=9223372036854775807):IntKind.i64.wrap x=x:=by
 have h2:=ff (x:=x) h;rw[aL]at h2;injection h2 with h3;injection h3 with h4;injection h4
theorem AO {b:Z1}{p i:Nat}(hi:i<32):D.v (.int .u32 (IntKind.u32.wrap ((Vb 32 (fU b p i:Int)|||Vb 32 (2^min i 32*((IntKind.u8.wrap ((Vb 8 (((((b.getD ((((p:Int)+(i:Int))/8).toNat*1) mq).toNat:Nat):Int)).fdiv (2^min (((p:Int)+(i:Int))%8).toNat 8))&&&Vb 8 1).toNat:Int))%4294967296)%4294967296)).toNat:Int)))=D.v (.int .u32 ((fU b p (i+1):Nat):Int)):=by
 refine aR ?_;have e1:(((p:Int)+(i:Int))/8).toNat*1=(p+i)/8:=by omega
 have e2:min (((p:Int)+(i:Int))%8).toNat 8=(p+i)%8:=by omega
 rw[e1,e2,show min i 32=i from by omega];generalize hX:b.getD ((p+i)/8) mq=X;have hx:=X.toNat_lt;have hp:(0:Int)<=2^((p+i)%8):=Int.le_of_lt (Int.pow_pos (by decide));have hd:((X.toNat:Nat):Int).fdiv (2^((p+i)%8))=((X.toNat/2^((p+i)%8):Nat):Int):=by
  rw[WX _ hp];push_cast;rfl
 have hl:X.toNat/2^((p+i)%8)<=X.toNat:=YL _ _;have hb:((X.toNat/2^((p+i)%8))%2)=mz b (p+i):=by unfold mz;rw[hX]
 rw[hd];generalize X.toNat/2^((p+i)%8)=Y at *;rw[wC 1 2 om (by decide) (by decide) (by decide)];have h1:=yu b (p+i);have h2:=nU b p i;have h3:2^(i+1)<=2^32:=VD (by decide) om;have h4:fU b p (i+1)<2^(i+1):=nU b p (i+1);have h7:fU b p (i+1)=fU b p i+2^i*mz b (p+i):=rfl;have h6:(2:Int)^i*(((Y:Nat):Int)%2%4294967296)%4294967296=((2^i*mz b (p+i):Nat):Int):=by
  rw[aac (a:=((Y:Nat):Int)%2) om om,show((Y:Nat):Int)%2=((mz b (p+i):Nat):Int)from by omega];rw[show(2:Int)^i*((mz b (p+i):Nat):Int)=((2^i*mz b (p+i):Nat):Int)from by push_cast;rfl];exact aac om om
 rw[h6,qU om om,Wx,Wx,Nat.or_comm,<-Xw h2,YS];rfl
theorem yH {l:Z1}{i m:Nat}(ho:∀j,j<i->(l.getD j mq).toNat<=m)(h:¬((m:Nat):Int)<(((l.getD (i*1) mq).toNat:Nat):Int)):∀j,j<i+1->(l.getD j mq).toNat<=m:=λ j hj=>by
 rcases VL j i with q|q
 ·exact ho j q
 ·have q2:j=i:=by omega
  subst q2;rw[VG]at h;omega
theorem SI {l:Z1}{i:Nat}(h:i<l.length)(hN:l.length<=1000000)(h1:0<(l.getD (i*1) mq).toNat)(h2:(l.getD (i*1) mq).toNat<=15):D.v (.int .i64 (IntKind.i64.wrap (((aW (l.take i):Nat):Int)+IntKind.i64.wrap (2^min (15-(((l.getD (i*1) mq).toNat:Nat):Int)).toNat 64*1))))=D.v (.int .i64 ((aW (l.take (i+1)):Nat):Int)):=by
 refine aR ?_;rw[VG]at *;rw[iQ h];generalize(l.getD i mq).toNat=x at *;have hk:=Ce (l.take i);rw[Vg]at hk;rw[ZE om,show min (15-(x:Int)).toNat 64=15-x from by omega];have hp:2^(15-x)<=2^15:=VD (by decide) om;have e:(2:Int)^(15-x)*1=((2^(15-x):Nat):Int):=by push_cast;omega
 rw[e];generalize 2^(15-x)=Z at *;rw[OD (x:=((Z:Nat):Int)) om,OD om];omega
theorem OE {l:Z1}{i:Nat}(h:i<l.length)(h1:¬(0:Int)<(((l.getD (i*1) mq).toNat:Nat):Int)):aW (l.take (i+1))=aW (l.take i)∧bg (l.take (i+1))=bg (l.take i):=by
 rw[VG]at h1;rw[iQ h,kN h,ZF om,ZF om];exact⟨rfl,rfl⟩
theorem SJ {l:Z1}{i:Nat}(h:i<l.length)(hN:l.length<=1000000)(h1:0<(l.getD (i*1) mq).toNat):D.v (.int .i64 (IntKind.i64.wrap (((bg (l.take i):Nat):Int)+1)))=D.v (.int .i64 ((bg (l.take (i+1)):Nat):Int)):=by
 refine aR ?_;rw[VG]at *;rw[kN h,ZE om];have hk:=Cd (l.take i);rw[Vg]at hk;rw[OD om];omega
theorem KN (b:Z1)(n:Nat)(hn:n=b.length)(hN:n<=1000000)(p m:Nat)(hp:p<=16000000)(hm:m<=32):S0 156 [.sl false n 1 (b.map dB),nD p,nD m] [] (.tup [uD (gG b p m),nD (kV b p m)]) []:=by
 refine SpecH.run T_ok ah Tryz.func156 rfl rfl rfl trivial rfl 1000 64 (λ R ok=>(.s 19 (.f (decide (32<(m:Int))) KK (.s 5 (.ow (8*(n:Int)) (.s 3 (.ow (8*(n:Int)-m) (.s 2 (.bd (8*(n:Int)-m<p) (λ p0 Z7=>(.s 2 (.out [] [] (V2 [uI 0,zI 10]) [] R (ok _ _ (by(rw[Io (by(omega)),Ip (by(omega))];rfl)) wr)))) (λ p0 Z7=>(.s 2 (Hn.inl T_ok ah false 50 0 (aq Tryz.prog 156 0) (λ(x:(i:Nat)×'(hi:i<=m)×'Unit)=>match x with|⟨i,hi,_⟩=>Vn [(0,Vl false n 1 (map dB b)),(1,zN p),(6,uD (fU b p i)),(26,zN m),(27,nD i)] [] 0) (λ(x:(i:Nat)×'(hi:i<=m)×'Unit)=>match x with|⟨i,hi,_⟩=>m-i) [⟨Unit,.exit 0,λ x=>match x with|()=>Vn [(0,Vl false n 1 (map dB b)),(1,zN p),(6,uD (fU b p m)),(26,zN m)] [] 0⟩] 1000 64 (fun|⟨i,hi,_⟩,Q,ZA,ZD=>(.s 2 (.bd ((i:Int)<m) (λ p1 Z6=>(.s 8 (.ow (p+i) (.s 2 (.opt (bY VN (Vo VN (Yr ((p:Int)+i) 8))) (zI (((p:Int)+i)/8)) (aQ (@cF  ((p:Int)+i) (8) om om)) (.s 1 (.chk (true&&decide (((p:Int)+i)/8<n)&&true) KL (.s 2 (.opt ((map dB b)[AB (((p:Int)+i)/8)*1]?) (dB (getD b (AB (((p:Int)+i)/8)*1) mq)) (av _ _ om) (.s 4 (.ow (p+i) (.s 2 (.opt (bY VN (XK ((p:Int)+i) 8)) (zI (((p:Int)+i)%8)) (aQ (@ee  ((p:Int)+i) (8) om)) (.s 2 (.opt (bY W6 (V1 (↑(U3 (getD b (AB (((p:Int)+i)/8)*1) mq)):Int) (2^min (AB (((p:Int)+i)%8)) 8))) (bI (V1 (↑(U3 (getD b (AB (((p:Int)+i)/8)*1) mq)):Int) (2^min (AB (((p:Int)+i)%8)) 8))) (dm _ _) (.s 2 (.opt (bY W6 (Vo W6 (↑(VO (Vb 8 (V1 (↑(U3 (getD b (AB (((p:Int)+i)/8)*1) mq)):Int) (2^min (AB (((p:Int)+i)%8)) 8))&&&Vb 8 1)):Int))) (bI (Vo W6 (↑(VO (Vb 8 (V1 (↑(U3 (getD b (AB (((p:Int)+i)/8)*1) mq)):Int) (2^min (AB (((p:Int)+i)%8)) 8))&&&Vb 8 1)):Int))) (dm _ _) (.s 1 (.opt (ax .u32 (Vo W6 (↑(VO (Vb 8 (V1 (↑(U3 (getD b (AB (((p:Int)+i)/8)*1) mq)):Int) (2^min (AB (((p:Int)+i)%8)) 8))&&&Vb 8 1)):Int))) (uI (Vo W6 (↑(VO (Vb 8 (V1 (↑(U3 (getD b (AB (((p:Int)+i)/8)*1) mq)):Int) (2^min (AB (((p:Int)+i)%8)) 8))&&&Vb 8 1)):Int)%4294967296)) (aL _ _) (.s 3 (.opt (ax .u32 (2^min i 32*(Vo W6 (↑(VO (Vb 8 (V1 (↑(U3 (getD b (AB (((p:Int)+i)/8)*1) mq)):Int) (2^min (AB (((p:Int)+i)%8)) 8))&&&Vb 8 1)):Int)%4294967296))) (uI (2^min i 32*(Vo W6 (↑(VO (Vb 8 (V1 (↑(U3 (getD b (AB (((p:Int)+i)/8)*1) mq)):Int) (2^min (AB (((p:Int)+i)%8)) 8))&&&Vb 8 1)):Int)%4294967296)%4294967296)) (aL _ _) (.s 2 (.opt (bY VY (Vo VY (↑(VO (Vb 32 (↑(fU b p i):Int)|||Vb 32 (2^min i 32*(Vo W6 (↑(VO (Vb 8 (V1 (↑(U3 (getD b (AB (((p:Int)+i)/8)*1) mq)):Int) (2^min (AB (((p:Int)+i)%8)) 8))&&&Vb 8 1)):Int)%4294967296)%4294967296))):Int))) (uI (Vo VY (↑(VO (Vb 32 (↑(fU b p i):Int)|||Vb 32 (2^min i 32*(Vo W6 (↑(VO (Vb 8 (V1 (↑(U3 (getD b (AB (((p:Int)+i)/8)*1) mq)):Int) (2^min (AB (((p:Int)+i)%8)) 8))&&&Vb 8 1)):Int)%4294967296)%4294967296))):Int))) (dm _ _) (.s 3 (.ow (i+1) (.s 1 (.val 6 (uI (Vo VY (↑(VO (Vb 32 (↑(fU b p i):Int)|||Vb 32 (2^min i 32*(Vo W6 (↑(VO (Vb 8 (V1 (↑(U3 (getD b (AB (((p:Int)+i)/8)*1) mq)):Int) (2^min (AB (((p:Int)+i)%8)) 8))&&&Vb 8 1)):Int)%4294967296)%4294967296))):Int))) (ak (fU b p (i+1))) (by(exact AO (by(omega)))) (.val 27 (zI (i+1)) (zN (i+1)) wO (Hn.next ZA ⟨(i+1),om,⟨⟩⟩ (by show m-(i+1)<m-i;clear ZA ZD;omega) [] ro))))))))))))))))))))))))))))) (λ p1 Z6=>(.val 6 (ak (fU b p i)) (ak (fU b p m)) (by(rw[show i=m from by(omega)])) (Hn.last ZD 0 (():Unit) rfl [] ro)))))) (fun|⟨i,hi,_⟩=>by kernel_rfl) ⟨(0),om,⟨⟩⟩ [] ro (ck (fun|()=>(.s 3 (.out [] [] (V2 [ak (fU b p m),zI 0]) [] R (ok _ _ (by(rw[yv (by(omega)),Cc (by(omega))];rfl)) wr))))))))))))))))) kr
theorem Co (b:Z1)(n:Nat)(hn:n=b.length)(hN:n<=1000000)(p m:Int)(hp:0<=p∧p<=16000000)(hm:0<=m∧m<=32):S0 156 [.sl false n 1 (b.map dB),iD p,iD m] [] (.tup [uD (gG b p.toNat m.toNat),nD (kV b p.toNat m.toNat)]) []:=by
 obtain⟨k,rfl⟩:=V5 hp.1;obtain⟨j,rfl⟩:=V5 hm.1;exact KN b n hn hN k j om om
theorem sA (l:Z1)(n:Nat)(hn:n=l.length)(hN:n<=1000000)(m:Nat)(hm:1<=m∧m<=15):S0 148 [.sl false n 1 (l.map dB),nD m] [] (nD (aG l m)) []:=by
 refine SpecH.run T_ok ah Tryz.func148 rfl rfl rfl trivial rfl 1000 64 (λ R ok=>(.s 6 (.f (decide ((m:Int)<1)) KK (.s 4 (.f (decide (15<(m:Int))) KK (.s 4 (.bd (320<(n:Int)) (λ p0 Z7=>(.s 1 (.out [] [] (zI 4) [] R (ok _ _ uT wr)))) (λ p0 Z7=>(.s 5 (Hn.inl T_ok ah false 52 0 (aq Tryz.prog 148 0) (λ(x:(i:Nat)×'(hi:i<=n)×'(ho:∀j,j<i->(l.getD j mq).toNat<=m)×'Unit)=>match x with|⟨i,hi,ho,_⟩=>Vn [(1,zN m),(5,nD (aW (l.take i))),(6,nD (bg (l.take i))),(18,Vl false n 1 (map dB l)),(19,zN n),(20,nD i)] [] 0) (λ(x:(i:Nat)×'(hi:i<=n)×'(ho:∀j,j<i->(l.getD j mq).toNat<=m)×'Unit)=>match x with|⟨i,hi,ho,_⟩=>n-i) [⟨(ho2:dn l m=false)×'Unit,.exit 0,λ x=>match x with|⟨ho2,_⟩=>Vn [(1,zN m),(5,nD (aW l)),(6,nD (bg l)),(18,Vl false n 1 (map dB l)),(19,zN n)] [] 0⟩,⟨(ho3:dn l m=true)×'Unit,.ret,λ x=>match x with|⟨ho3,_⟩=>Vn [(4,iD 2)] [] 0⟩] 1000 64 (fun|⟨i,hi,ho,_⟩,Q,ZA,ZD=>(.s 2 (.bd ((i:Int)<n) (λ p1 Z6=>(.s 1 (.chk (true&&decide ((i:Int)<n)&&true) KL (.s 2 (.opt ((map dB l)[i*1]?) (dB (getD l (i*1) mq)) (av _ _ om) (.s 3 (.op (↑(U3 (getD l (i*1) mq)):Int) (by(exact iP _ (by decide) (by decide))) (.s 3 (.bd ((m:Int)<(↑(U3 (getD l (i*1) mq)):Int)) (λ p2 Z5=>(.s 1 (Hn.last ZD 1 (⟨(by(exact yw (i:=i*1) (by(omega)) (by(omega)))),⟨⟩⟩:(ho3:dn l m=true)×'Unit) rfl [] ro))) (λ p2 Z5=>(.s 3 (.bd (0<(↑(U3 (getD l (i*1) mq)):Int)) (λ p3 Z4=>(.s 4 (.opt (ax .u8 (15-(↑(U3 (getD l (i*1) mq)):Int))) (bI (15-(↑(U3 (getD l (i*1) mq)):Int))) (b4 om) (.s 1 (.chk (decide (0<=15-(↑(U3 (getD l (i*1) mq)):Int))) (by(refine decide_eq_true ?_;(omega))) (.opt (ax .i64 (2^min (AB (15-(↑(U3 (getD l (i*1) mq)):Int))) 64*1)) (zI (Vo VN (2^min (AB (15-(↑(U3 (getD l (i*1) mq)):Int))) 64*1))) (aL _ _) (.s 2 (.opt (ax .i64 ((↑(aW (take i l)):Int)+Vo VN (2^min (AB (15-(↑(U3 (getD l (i*1) mq)):Int))) 64*1))) (zI (Vo VN ((↑(aW (take i l)):Int)+Vo VN (2^min (AB (15-(↑(U3 (getD l (i*1) mq)):Int))) 64*1)))) (aL _ _) (.s 4 (.opt (ax .i64 ((↑(bg (take i l)):Int)+1)) (zI (Vo VN ((↑(bg (take i l)):Int)+1))) (aL _ _) (.s 3 (.ow (i+1) (.s 1 (.val 5 (zI (Vo VN ((↑(aW (take i l)):Int)+Vo VN (2^min (AB (15-(↑(U3 (getD l (i*1) mq)):Int))) 64*1)))) (zN (aW (take (i+1) l))) (by(exact SI (by(omega)) (by(omega)) (by(omega)) (by(omega)))) (.val 6 (zI (Vo VN ((↑(bg (take i l)):Int)+1))) (zN (bg (take (i+1) l))) (by(exact SJ (by(omega)) (by(omega)) (by(omega)))) (.val 20 (zI (i+1)) (zN (i+1)) wO (Hn.next ZA ⟨(i+1),om,(by(exact yH ho (by(omega)))),⟨⟩⟩ (by show n-(i+1)<n-i;clear ZA ZD;omega) [] ro))))))))))))))))) (λ p3 Z4=>(.s 2 (.ow (i+1) (.s 1 (.val 5 (zN (aW (take i l))) (zN (aW (take (i+1) l))) (by(rw[(OE (l:=l) (i:=i) (by(omega)) (by(omega))).1])) (.val 6 (zN (bg (take i l))) (zN (bg (take (i+1) l))) (by(rw[(OE (l:=l) (i:=i) (by(omega)) (by(omega))).2])) (.val 20 (zI (i+1)) (zN (i+1)) wO (Hn.next ZA ⟨(i+1),om,(by(exact yH ho (by(omega)))),⟨⟩⟩ (by show n-(i+1)<n-i;clear ZA ZD;omega) [] ro)))))))))))))))))))) (λ p1 Z6=>(.val 5 (zN (aW (take i l))) (zN (aW l)) (by(rw[VB (by(omega))])) (.val 6 (zN (bg (take i l))) (zN (bg l)) (by(rw[VB (by(omega))])) (Hn.last ZD 0 (⟨(by(exact lr (λ j hj=>ho j (by(omega))))),⟨⟩⟩:(ho2:dn l m=false)×'Unit) rfl [] ro))))))) (fun|⟨i,hi,ho,_⟩=>by kernel_rfl) ⟨(0),om,om,⟨⟩⟩ [] ro (gu (fun|⟨ho2,_⟩=>(.s 4 (.bd (32768<(↑(aW l):Int)) (λ p4 Z3=>(.s 1 (.out [] [] (zI 30) [] R (ok _ _ uT wr)))) (λ p4 Z3=>(.s 4 (.br ((↑(aW l):Int)==32768) (λ p5=>have p5f:=eq_of_beq p5;(.s 2 (.out [] [] (zI 0) [] R (ok _ _ uT wr)))) (λ p5=>have p5f:=ap p5;(.s 4 (.br ((↑(bg l):Int)==0) (λ p6=>have p6f:=eq_of_beq p6;(.s 2 (.out [] [] (zI 0) [] R (ok _ _ uT wr)))) (λ p6=>have p6f:=ap p6;(.s 5 (.br ((↑(bg l):Int)==1) (λ p7=>have p7f:=eq_of_beq p7;(.s 5 (.br ((↑(aW l):Int)==16384) (λ p8=>have p8f:=eq_of_beq p8;(.s 1 (.out [] [] (zI 0) [] R (ok _ _ uT wr)))) (λ p8=>have p8f:=ap p8;(.s 1 (.out [] [] (zI 31) [] R (ok _ _ uT wr))))))) (λ p7=>have p7f:=ap p7;(.s 6 (.out [] [] (zI 31) [] R (ok _ _ uT wr)))))))))))))))) (fun|⟨ho3,_⟩=>(.out [] [] (zI 2) [] R (ok _ _ uT wr)))))))))))))) kr
theorem Cp (l:Z1)(n:Nat)(hn:n=l.length)(hN:n<=1000000)(m:Nat)(hm:1<=m∧m<=15)(h:aG l m≠0):S0 157 [.sl false n 1 (l.map dB),nD m] [] (.tup [Iq,nD (aG l m)]) []:=by
 refine SpecH.run T_ok ah Tryz.func157 rfl rfl rfl trivial rfl 1000 64 (λ R ok=>(.s 6 (.cl 148 false [] (.fn Kv (@sA (l) (n) om om (m) om)) (.s 4 (.t ((↑(aG l m):Int) !=0) (by(simp_all;done)) (.s 12 (.out [] [] (V2 [Wp [zI 0,zI 0,zI 0,zI 0,zI 0,zI 0,zI 0,zI 0,zI 0,zI 0,zI 0,zI 0,zI 0,zI 0,zI 0,zI 0,zS],zN (aG l m)]) [] R (ok _ _ (by exact rfl) wr)))))))) kr
theorem yI (l:Z1)(n:Nat)(hn:n=l.length)(hN:n<=1000000)(m:Nat)(hm:1<=m∧m<=15)(h:aG l m=0):S0 157 [.sl false n 1 (l.map dB),nD m] [] (.tup [.agg (dZ (aa l)++[.ref 0 0 0 (af l).length 1]),iD 0]) [⟨(af l).map nD, 3,true⟩]:=by
 have hc:=dD h;refine SpecH.run T_ok ah Tryz.func157 rfl rfl rfl ⟨B2 _ (λ _=>rfl) _,trivial⟩ rfl 1000 64 (λ R ok=>(.s 6 (.cl 148 false [] (.fn Kv (@sA (l) (n) om om (m) om)) (.s 4 (.f ((↑(aG l m):Int) !=0) (by(simp <;>(omega))) (.s 9 (.nilc 0 0 (U1 [zI 0,zI 0,zI 0,zI 0,zI 0,zI 0,zI 0,zI 0,zI 0,zI 0,zI 0,zI 0,zI 0,zI 0,zI 0,zI 0,zS] 154 false) 16 144 1 3 (.blk 0 0 (U1 [zI 0,zI 0,zI 0,zI 0,zI 0,zI 0,zI 0,zI 0,zI 0,zI 0,zI 0,zI 0,zI 0,zI 0,zI 0,zI 0,U6 144 144 0 0 1] 154 false) (U1 [zN (ae l 0 0 0),zN (ae l 0 0 1),zN (ae l 0 0 2),zN (ae l 0 0 3),zN (ae l 0 0 4),zN (ae l 0 0 5),zN (ae l 0 0 6),zN (ae l 0 0 7),zN (ae l 0 0 8),zN (ae l 0 0 9),zN (ae l 0 0 10),zN (ae l 0 0 11),zN (ae l 0 0 12),zN (ae l 0 0 13),zN (ae l 0 0 14),zN (ae l 0 0 15),U6 144 144 0 (length (aK l 0 0)) 1] 154 false) (by(simp only[yz,uK];rfl)) (.blk 144 144 (U1 [] 3 true) (U1 (map nD (aK l 0 0)) 3 true) (by(simp only[yz,uK];rfl)) (Hn.inl T_ok ah false 32 136 (aq Tryz.prog 194 0) (λ(x:(a:Nat)×'(ha:a<=16)×'Unit)=>match x with|⟨a,ha,_⟩=>Vn [(0,D.yl 128 128),(1,Vh 80 80 0),(6,fP a)] [⟨0,0,0,0,.b ⟨dZ (ae l a 0)++[(U6 160 160 (0) ((aK l a 0).length) 1)],154,false⟩⟩,⟨80,80,80,80,.b ⟨[Vl false n 1 (map dB l)],24,false⟩⟩,⟨128,128,128,128,.l WE none (rangeAt Tryz.prog 157 0).1 (rangeAt Tryz.prog 157 0).2.1 (rangeAt Tryz.prog 157 0).2.2 34 [(0,Vl false n 1 (map dB l)),(1,zN m),(11,zN (aG l m)),(5,zI 0),(9,Vl false n 1 (map dB l)),(17,WJ (VU 194) [] [Vh 80 80 0]),(13,D.v (.bool false)),(4,Vh 0 0 0),(16,Vl false n 1 (map dB l)),(12,zN (aG l m)),(6,zN (aG l m)),(10,zN m)]⟩,⟨160,160,144,144,.b ⟨(aK l a 0).map nD,3,true⟩⟩] 168) (λ(x:(a:Nat)×'(ha:a<=16)×'Unit)=>match x with|⟨a,ha,_⟩=>16-a) [⟨Unit,.exit 0,λ x=>match x with|()=>Vn [(0,D.yl 128 128),(1,Vh 80 80 0)] [⟨0,0,0,0,.b ⟨dZ (aa l)++[(U6 160 160 (0) ((af l).length) 1)],154,false⟩⟩,⟨80,80,80,80,.b ⟨[Vl false n 1 (map dB l)],24,false⟩⟩,⟨128,128,128,128,.l WE none (rangeAt Tryz.prog 157 0).1 (rangeAt Tryz.prog 157 0).2.1 (rangeAt Tryz.prog 157 0).2.2 34 [(0,Vl false n 1 (map dB l)),(1,zN m),(11,zN (aG l m)),(5,zI 0),(9,Vl false n 1 (map dB l)),(17,WJ (VU 194) [] [Vh 80 80 0]),(13,D.v (.bool false)),(4,Vh 0 0 0),(16,Vl false n 1 (map dB l)),(12,zN (aG l m)),(6,zN (aG l m)),(10,zN m)]⟩,⟨160,160,144,144,.b ⟨(af l).map nD,3,true⟩⟩] 168⟩] 1000 64 (fun|⟨a,ha,_⟩,Q,ZA,ZD=>(.s 2 (.bd ((a:Int)<16) (λ p0 Z7=>(.s 7 (Hn.inl T_ok ah false 32 136 (aq Tryz.prog 194 1) (λ(x:(k:Nat)×'(hk:k<=n)×'Unit)=>match x with|⟨k,hk,_⟩=>Vn [(0,D.yl 128 128),(1,Vh 80 80 0),(3,bl a),(6,bl a),(9,Vl false n 1 (map dB l)),(10,zN n),(11,nD k)] [⟨0,0,0,0,.b ⟨dZ (ae l a k)++[(U6 160 160 (0) ((aK l a k).length) 1)],154,false⟩⟩,⟨80,80,80,80,.b ⟨[Vl false n 1 (map dB l)],24,false⟩⟩,⟨128,128,128,128,.l WE none (rangeAt Tryz.prog 157 0).1 (rangeAt Tryz.prog 157 0).2.1 (rangeAt Tryz.prog 157 0).2.2 34 [(0,Vl false n 1 (map dB l)),(1,zN m),(11,zN (aG l m)),(5,zI 0),(9,Vl false n 1 (map dB l)),(17,WJ (VU 194) [] [Vh 80 80 0]),(13,D.v (.bool false)),(4,Vh 0 0 0),(16,Vl false n 1 (map dB l)),(12,zN (aG l m)),(6,zN (aG l m)),(10,zN m)]⟩,⟨160,160,160,160,.b ⟨(aK l a k).map nD,3,true⟩⟩] 168) (λ(x:(k:Nat)×'(hk:k<=n)×'Unit)=>match x with|⟨k,hk,_⟩=>n-k) [⟨Unit,.exit 2,λ x=>match x with|()=>Vn [(0,D.yl 128 128),(1,Vh 80 80 0),(3,bl a),(6,bl a),(9,Vl false n 1 (map dB l)),(10,zN n)] [⟨0,0,0,0,.b ⟨dZ (ae l a n)++[(U6 160 160 (0) ((aK l a n).length) 1)],154,false⟩⟩,⟨80,80,80,80,.b ⟨[Vl false n 1 (map dB l)],24,false⟩⟩,⟨128,128,128,128,.l WE none (rangeAt Tryz.prog 157 0).1 (rangeAt Tryz.prog 157 0).2.1 (rangeAt Tryz.prog 157 0).2.2 34 [(0,Vl false n 1 (map dB l)),(1,zN m),(11,zN (aG l m)),(5,zI 0),(9,Vl false n 1 (map dB l)),(17,WJ (VU 194) [] [Vh 80 80 0]),(13,D.v (.bool false)),(4,Vh 0 0 0),(16,Vl false n 1 (map dB l)),(12,zN (aG l m)),(6,zN (aG l m)),(10,zN m)]⟩,⟨160,160,160,160,.b ⟨(aK l a n).map nD,3,true⟩⟩] 168⟩] 1000 64 (fun|⟨k,hk,_⟩,Q,Z9,ZC=>(.s 2 (.bd ((k:Int)<n) (λ p1 Z6=>(.s 2 (.chk (true&&decide ((k:Int)<n)&&true) KL (.s 2 (.opt ((map dB l)[k*1]?) (dB (getD l (k*1) mq)) (av _ _ om) (.s 8 (.br ((↑(U3 (getD l (k*1) mq)):Int)==(a:Int)) (λ p2=>have Z5:=eq_of_beq p2;(.s 6 (.bd (0<(a:Int)) (λ p3 Z4=>(.s 13 (.chk (true&&decide ((a:Int)<(↑16:Int))) aF (.s 3 (.opt ((dZ (ae l a k)++[U6 160 160 0 (length (aK l a k)) 1])[0+a*1]?) (nD (ae l a k (0+a*1))) (@yy (ae l a k) ([U6 160 160 0 (length (aK l a k)) 1]) (0+a*1) om) (.s 2 (.op ((↑(ae l a k (0+a*1)):Int)+1) OA (.s 4 (.chk (true&&decide ((a:Int)<(↑16:Int))) aF (.s 2 (.chk (true&&U7 (0+a*1+1) 17) (by(refine U8 ?_;(omega))) (.lst (ai [zN (ae l a k 0),zN (ae l a k 1),zN (ae l a k 2),zN (ae l a k 3),zN (ae l a k 4),zN (ae l a k 5),zN (ae l a k 6),zN (ae l a k 7),zN (ae l a k 8),zN (ae l a k 9),zN (ae l a k 10),zN (ae l a k 11),zN (ae l a k 12),zN (ae l a k 13),zN (ae l a k 14),zN (ae l a k 15),U6 160 160 0 (length (aK l a k)) 1] (0+a*1) [zI ((↑(ae l a k (0+a*1)):Int)+1)]) ([zN (ae l a (k+1) 0),zN (ae l a (k+1) 1),zN (ae l a (k+1) 2),zN (ae l a (k+1) 3),zN (ae l a (k+1) 4),zN (ae l a (k+1) 5),zN (ae l a (k+1) 6),zN (ae l a (k+1) 7),zN (ae l a (k+1) 8),zN (ae l a (k+1) 9),zN (ae l a (k+1) 10),zN (ae l a (k+1) 11),zN (ae l a (k+1) 12),zN (ae l a (k+1) 13),zN (ae l a (k+1) 14),zN (ae l a (k+1) 15),U6 160 160 0 (length (aK l a k)) 1]) (@Su l a k (0+a*1) (U6 160 160 0 (length (aK l a k)) 1) om om om om) (.s 10 (.chk (true&&U5 (length (aK l a k)*1) (length (map nD (aK l a k)))&&true&&true&&true&&true&&U7 ((length (aK l a k)+1)*8) 140737488355328) OA (.s 12 (.ow (k+1) (.s 1 (.val 11 (zI (k+1)) (zN (k+1)) wO (.blk 0 0 (U1 [zN (ae l a (k+1) 0),zN (ae l a (k+1) 1),zN (ae l a (k+1) 2),zN (ae l a (k+1) 3),zN (ae l a (k+1) 4),zN (ae l a (k+1) 5),zN (ae l a (k+1) 6),zN (ae l a (k+1) 7),zN (ae l a (k+1) 8),zN (ae l a (k+1) 9),zN (ae l a (k+1) 10),zN (ae l a (k+1) 11),zN (ae l a (k+1) 12),zN (ae l a (k+1) 13),zN (ae l a (k+1) 14),zN (ae l a (k+1) 15),U6 424 424 0 (length (aK l a k)+1) 1] 154 false) (U1 [zN (ae l a (k+1) 0),zN (ae l a (k+1) 1),zN (ae l a (k+1) 2),zN (ae l a (k+1) 3),zN (ae l a (k+1) 4),zN (ae l a (k+1) 5),zN (ae l a (k+1) 6),zN (ae l a (k+1) 7),zN (ae l a (k+1) 8),zN (ae l a (k+1) 9),zN (ae l a (k+1) 10),zN (ae l a (k+1) 11),zN (ae l a (k+1) 12),zN (ae l a (k+1) 13),zN (ae l a (k+1) 14),zN (ae l a (k+1) 15),U6 424 424 0 (length (aK l a (k+1))) 1] 154 false) (by(simp only[Ir (l:=l) (a:=a) (k:=k) (by(omega)) (by(omega)),U2];rfl)) (.blk 424 424 (U1 (map nD (aK l a k)++[zN k]) 3 true) (U1 (map nD (aK l a (k+1))) 3 true) (by(simp only[Ir (l:=l) (a:=a) (k:=k) (by(omega)) (by(omega)),V4];rfl)) (Hn.next Z9 ⟨(k+1),om,⟨⟩⟩ KM [(0,0),(80,80),(128,128),(424,424)] ro))))))))))))))))))))) (λ p3 Z4=>(.s 12 (.ow (k+1) (.s 1 (.val 11 (zI (k+1)) (zN (k+1)) wO (.blk 0 0 (U1 [zN (ae l a k 0),zN (ae l a k 1),zN (ae l a k 2),zN (ae l a k 3),zN (ae l a k 4),zN (ae l a k 5),zN (ae l a k 6),zN (ae l a k 7),zN (ae l a k 8),zN (ae l a k 9),zN (ae l a k 10),zN (ae l a k 11),zN (ae l a k 12),zN (ae l a k 13),zN (ae l a k 14),zN (ae l a k 15),U6 160 160 0 (length (aK l a k)) 1] 154 false) (U1 [zN (ae l a (k+1) 0),zN (ae l a (k+1) 1),zN (ae l a (k+1) 2),zN (ae l a (k+1) 3),zN (ae l a (k+1) 4),zN (ae l a (k+1) 5),zN (ae l a (k+1) 6),zN (ae l a (k+1) 7),zN (ae l a (k+1) 8),zN (ae l a (k+1) 9),zN (ae l a (k+1) 10),zN (ae l a (k+1) 11),zN (ae l a (k+1) 12),zN (ae l a (k+1) 13),zN (ae l a (k+1) 14),zN (ae l a (k+1) 15),U6 160 160 0 (length (aK l a (k+1))) 1] 154 false) FI (.blk 160 160 (U1 (map nD (aK l a k)) 3 true) (U1 (map nD (aK l a (k+1))) 3 true) FI (Hn.next Z9 ⟨(k+1),om,⟨⟩⟩ KM [(0,0),(80,80),(128,128),(160,160)] ro))))))))))) (λ p2=>have Z5:=ap p2;(.s 18 (.ow (k+1) (.s 1 (.val 11 (zI (k+1)) (zN (k+1)) wO (.blk 0 0 (U1 [zN (ae l a k 0),zN (ae l a k 1),zN (ae l a k 2),zN (ae l a k 3),zN (ae l a k 4),zN (ae l a k 5),zN (ae l a k 6),zN (ae l a k 7),zN (ae l a k 8),zN (ae l a k 9),zN (ae l a k 10),zN (ae l a k 11),zN (ae l a k 12),zN (ae l a k 13),zN (ae l a k 14),zN (ae l a k 15),U6 160 160 0 (length (aK l a k)) 1] 154 false) (U1 [zN (ae l a (k+1) 0),zN (ae l a (k+1) 1),zN (ae l a (k+1) 2),zN (ae l a (k+1) 3),zN (ae l a (k+1) 4),zN (ae l a (k+1) 5),zN (ae l a (k+1) 6),zN (ae l a (k+1) 7),zN (ae l a (k+1) 8),zN (ae l a (k+1) 9),zN (ae l a (k+1) 10),zN (ae l a (k+1) 11),zN (ae l a (k+1) 12),zN (ae l a (k+1) 13),zN (ae l a (k+1) 14),zN (ae l a (k+1) 15),U6 160 160 0 (length (aK l a (k+1))) 1] 154 false) FI (.blk 160 160 (U1 (map nD (aK l a k)) 3 true) (U1 (map nD (aK l a (k+1))) 3 true) FI (Hn.next Z9 ⟨(k+1),om,⟨⟩⟩ KM [(0,0),(80,80),(128,128),(160,160)] ro))))))))))))))) (λ p1 Z6=>(.blk 0 0 (U1 [zN (ae l a k 0),zN (ae l a k 1),zN (ae l a k 2),zN (ae l a k 3),zN (ae l a k 4),zN (ae l a k 5),zN (ae l a k 6),zN (ae l a k 7),zN (ae l a k 8),zN (ae l a k 9),zN (ae l a k 10),zN (ae l a k 11),zN (ae l a k 12),zN (ae l a k 13),zN (ae l a k 14),zN (ae l a k 15),U6 160 160 0 (length (aK l a k)) 1] 154 false) (U1 [zN (ae l a n 0),zN (ae l a n 1),zN (ae l a n 2),zN (ae l a n 3),zN (ae l a n 4),zN (ae l a n 5),zN (ae l a n 6),zN (ae l a n 7),zN (ae l a n 8),zN (ae l a n 9),zN (ae l a n 10),zN (ae l a n 11),zN (ae l a n 12),zN (ae l a n 13),zN (ae l a n 14),zN (ae l a n 15),U6 160 160 0 (length (aK l a n)) 1] 154 false) (by(rw[show k=n from by(omega)])) (.blk 160 160 (U1 (map nD (aK l a k)) 3 true) (U1 (map nD (aK l a n)) 3 true) (by(rw[show k=n from by(omega)])) (Hn.last ZC 0 (():Unit) rfl [(0,0),(80,80),(128,128),(160,160)] ro))))))) (fun|⟨k,hk,_⟩=>by kernel_rfl) ⟨(0),om,⟨⟩⟩ [(0,0),(80,80),(128,128),(160,160)] ro (ck (fun|()=>(.s 2 (.opt (ax .u8 ((a:Int)+1)) (bI (a+1)) (b4 om) (.s 1 (.val 6 (bI (a+1)) (bl (a+1)) wO (.blk 0 0 (U1 [zN (ae l a n 0),zN (ae l a n 1),zN (ae l a n 2),zN (ae l a n 3),zN (ae l a n 4),zN (ae l a n 5),zN (ae l a n 6),zN (ae l a n 7),zN (ae l a n 8),zN (ae l a n 9),zN (ae l a n 10),zN (ae l a n 11),zN (ae l a n 12),zN (ae l a n 13),zN (ae l a n 14),zN (ae l a n 15),U6 160 160 0 (length (aK l a n)) 1] 154 false) (U1 [zN (ae l (a+1) 0 0),zN (ae l (a+1) 0 1),zN (ae l (a+1) 0 2),zN (ae l (a+1) 0 3),zN (ae l (a+1) 0 4),zN (ae l (a+1) 0 5),zN (ae l (a+1) 0 6),zN (ae l (a+1) 0 7),zN (ae l (a+1) 0 8),zN (ae l (a+1) 0 9),zN (ae l (a+1) 0 10),zN (ae l (a+1) 0 11),zN (ae l (a+1) 0 12),zN (ae l (a+1) 0 13),zN (ae l (a+1) 0 14),zN (ae l (a+1) 0 15),U6 160 160 0 (length (aK l (a+1) 0)) 1] 154 false) (by(subst hn;simp only[uL,qY])) (.blk 160 160 (U1 (map nD (aK l a n)) 3 true) (U1 (map nD (aK l (a+1) 0)) 3 true) (by(subst hn;simp only[uL,qY])) (Hn.next ZA ⟨(a+1),om,⟨⟩⟩ (by show 16-(a+1)<16-a;clear ZA ZD;omega) [(0,0),(80,80),(128,128),(160,160)] ro)))))))))))) (λ p0 Z7=>(.blk 0 0 (U1 [zN (ae l a 0 0),zN (ae l a 0 1),zN (ae l a 0 2),zN (ae l a 0 3),zN (ae l a 0 4),zN (ae l a 0 5),zN (ae l a 0 6),zN (ae l a 0 7),zN (ae l a 0 8),zN (ae l a 0 9),zN (ae l a 0 10),zN (ae l a 0 11),zN (ae l a 0 12),zN (ae l a 0 13),zN (ae l a 0 14),zN (ae l a 0 15),U6 160 160 0 (length (aK l a 0)) 1] 154 false) (U1 [zN (aa l 0),zN (aa l 1),zN (aa l 2),zN (aa l 3),zN (aa l 4),zN (aa l 5),zN (aa l 6),zN (aa l 7),zN (aa l 8),zN (aa l 9),zN (aa l 10),zN (aa l 11),zN (aa l 12),zN (aa l 13),zN (aa l 14),zN (aa l 15),U6 160 160 0 (length (af l)) 1] 154 false) OC (.blk 160 160 (U1 (map nD (aK l a 0)) 3 true) (U1 (map nD (af l)) 3 true) OC (Hn.last ZD 0 (():Unit) rfl [(0,0),(80,80),(128,128),(160,160)] ro))))))) (fun|⟨a,ha,_⟩=>by kernel_rfl) ⟨(0),om,⟨⟩⟩ [(0,0),(80,80),(128,128),(144,144)] ro (ck (fun|()=>(.s 11 (.out [160] [160] (V2 [Wp [zN (aa l 0),zN (aa l 1),zN (aa l 2),zN (aa l 3),zN (aa l 4),zN (aa l 5),zN (aa l 6),zN (aa l 7),zN (aa l 8),zN (aa l 9),zN (aa l 10),zN (aa l 11),zN (aa l 12),zN (aa l 13),zN (aa l 14),zN (aa l 15),U6 0 0 0 (length (af l)) 1],zI 0]) [U1 (map nD (af l)) 3 true] R (ok _ _ (by exact rfl) wr))))))))))))))) kr
theorem RK {p:Prop}(h:p:=by(refine decide_eq_true ?_;have h7:=Bo l v i;have h6:=Bo l v (i+1);omega)):p:=h
theorem SK {p:Prop}(h:p:=by clear ZA ZD;(simp_all<;>omega)):p:=h
theorem Ur {p:Prop}(h:p:=by(simp only[Vj,VG,Wo,VM,VV];have h7:=Bo l v i;have h6:=Bo l v (i+1);refine U8 ?_;omega)):p:=h
theorem Us {p:Prop}(h:p:=by(have h7:=Bo l v i;have h6:=Bo l v (i+1);refine KS ?_ ?_<;>omega)):p:=h
def cX:List Bool->Nat
 |[]=>0
 |b::r=>b.toNat+2*cX r
theorem jz:∀l:List Bool,cX l<2^l.length
 |[]=>Xt
 |b::r=>by
  have h:=jz r;have h2:b.toNat<=1:=XV b;rw[VE,V8,cX];omega
theorem q8:∀a b:List Bool,cX (a++b)=cX a+2^a.length*cX b
 |[],b=>by simp[cX]
 |x::r,b=>by
  have h:=q8 r b;rw[List.cons_append,cX,cX,h,VE,V8,XD,<-WA,WR 2 (2^r.length),Wh]
def AP (l:List Bool)(i:Nat):UInt8:=V6 (cX ((l.drop (8*i)).take 8))
def pk (l:List Bool):Z1:=lk l ((Wa ((l.length+7)/8)).map (AP l))
theorem Cq (l:List Bool):pk l=(Wa ((l.length+7)/8)).map (AP l):=au _ _
theorem am (l:List Bool):(pk l).length=(l.length+7)/8:=by rw[Cq,Vj,WH]
theorem kP {l:List Bool}{i:Nat}(h:i<(l.length+7)/8):(pk l)[i]? =some (AP l i):=by
 rw[Cq,Vu,Wu h];rfl
theorem wP (l:List Bool)(i:Nat):cX ((l.drop (8*i)).take 8)<256:=by
 have h:=jz ((l.drop (8*i)).take 8);have h2:2^((l.drop (8*i)).take 8).length<=2^8:=VD (by decide) (by rw[Vg];omega);omega
theorem iT {a b:List Bool}(h:a.length%8=0):pk (a++b)=pk a++pk b:=by
 apply Wb;intro i;rcases VL i ((a.length+7)/8)with q|q
 ·rw[Vz (by rw[am];exact q),kP q,kP (by rw[U2];omega)]
  unfold AP;rw[XQ om,Xn (by rw[VH];omega)]
 ·rw[Vs (by rw[am];exact q),am]
  rcases VL (i-(a.length+7)/8) ((b.length+7)/8)with r|r
  ·rw[kP r,kP (by rw[U2];omega)]
   unfold AP;rw[show 8*i=a.length+8*(i-(a.length+7)/8)from by omega,aat];have e:VW (a.length+8*(i-(a.length+7)/8)) a=[]:=Wv om;rw[e,XI,Xr]
  ·rw[VF (by rw[am,U2];omega),VF (by rw[am];exact r)]
theorem lv {l:List Bool}{n:Nat}(h:8*n<=l.length):pk (l.drop (8*n))=(pk l).drop n∧pk (l.take (8*n))=(pk l).take n:=by
 have e:=iT (a:=l.take (8*n)) (b:=l.drop (8*n)) (by rw[Vg];omega);rw[WK]at e;have hl:(pk (l.take (8*n))).length=n:=by rw[am,Vg];omega
 constructor
 ·have q:=congrArg (VW n) e
  rw[XQ om,show VW n (pk (VX (8*n) l))=[]from Wv om,XI]at q;exact q.symm
 ·have q:=congrArg (VX n) e
  rw[Xn om,show VX n (pk (VX (8*n) l))=pk (VX (8*n) l)from VB om]at q;exact q.symm
theorem KO {l:List Bool}(h0:0<l.length)(h:l.length<=8):pk l=[V6 (cX l)]:=by
 rw[Cq,show(l.length+7)/8=1 from by omega];show[AP l 0]=_;unfold AP;rw[Nat.mul_zero,Wm,VB h]
theorem OF {l:List Bool}{b:Bool}(h:l.length%8≠0):(pk l).length=l.length/8+1∧pk (l++[b])=(pk l).set (l.length/8) (V6 (((pk l).getD (l.length/8) mq).toNat+2^(l.length%8)*b.toNat)):=by
 refine⟨by rw[am];omega,?_⟩;have hd:=lv (l:=l) (n:=l.length/8) om;have e:l=l.take (8*(l.length/8))++l.drop (8*(l.length/8)):=(WK _ _).symm;generalize hA:l.take (8*(l.length/8))=A at *;generalize hB:l.drop (8*(l.length/8))=B at *;have lA:A.length=8*(l.length/8):=by rw[<-hA,Vg];omega
 have lB:B.length=l.length%8:=by rw[<-hB,VH];omega
 have p1:pk l=pk A++pk B:=by
  conv=>lhs;rw[e]
  exact iT om
 have p2:pk (l++[b])=pk A++pk (B++[b]):=by
  conv=>lhs;rw[e,Ve]
  exact iT om
 have l1:(pk A).length=l.length/8:=by rw[am];omega
 have b1:=KO (l:=B) om om;have b2:=KO (l:=B++[b]) (by rw[U2];omega) (by rw[U2,VP];omega);have hb:cX B<256:=by
  have h3:=jz B;have h4:2^B.length<=2^8:=VD (by decide) om;omega
 rw[p1,p2,b1,b2,Zj _ _ om,l1,Wn,UZ,Vs om,l1,Wn];show _++_=_++[_];have hz:cX [b]=b.toNat:=by simp[cX]
 rw[q8,hz,lB];show _=_++[V6 ((V6 (cX B)).toNat+_)];rw[WQ,show cX B%2^8=cX B from Wq hb]
theorem KP {l:List Bool}{b:Bool}(h:l.length%8=0):(pk l).length=l.length/8∧pk (l++[b])=pk l++[V6 b.toNat]:=by
 refine⟨by rw[am];omega,?_⟩;rw[iT h,KO (l:=[b]) (by simp) (by simp)];simp[cX]
def nb (v n:Nat):List Bool:=lk [()] ((Wa n).map λ i=>v.testBit i)
theorem pb (v n:Nat):nb v n=(Wa n).map λ i=>v.testBit i:=au _ _
theorem bf (v n:Nat):(nb v n).length=n:=by rw[pb,Vj,WH]
theorem sB (v n:Nat):nb v (n+1)=nb v n++[v.testBit n]:=by rw[pb,pb,List.range_succ,V4];rfl
theorem KQ (v:Nat):nb v 0=[]:=pb v 0
theorem KR {l:List Bool}{m:Nat}(hm:m=(pk l).length)(h:0<((l.length:Nat):Int)%8):¬0<((((pk l).getD (((m:Int)-1).toNat*1) mq).toNat:Nat):Int).fdiv (2^min (((l.length:Nat):Int)%8).toNat 8):=by
 rw[am]at hm;rw[show(((m:Int)-1).toNat*1)=l.length/8 from by omega,show min (((l.length:Nat):Int)%8).toNat 8=l.length%8 from by omega,UZ,kP om];show¬0<(((AP l (l.length/8)).toNat:Nat):Int).fdiv _;have hb:=jz ((l.drop (8*(l.length/8))).take 8);rw[Vg,VH,show min 8 (l.length-8*(l.length/8))=l.length%8 from by omega]at hb;have hc:=wP l (l.length/8);unfold AP;rw[WQ,Wq hc,show(2:Int)^(l.length%8)=((2^(l.length%8):Nat):Int)from by push_cast;rfl,WX _ (XT _),<-Yz,YA hb];decide
abbrev Nb (m:Nat)(l:List Bool):D:=.agg [.sl false m 1 ((pk l).map dB),nD l.length]
theorem FJ:S0 56 [dw] [] dw []:=by
 refine SpecH.run T_ok ah Tryz.func56 rfl rfl rfl trivial rfl 1000 64 (λ R ok=>(.s 6 (.out [] [] (zS) [] R (ok _ _ wr wr)))) kr
theorem Cr (bs:Z1)(hn:bs.length<=10000000):S0 56 [.sl true bs.length 1 (bs.map dB)] [] (.ref 0 0 0 bs.length 1) [⟨bs.map dB, 5,true⟩]:=by
 refine SpecH.run T_ok ah Tryz.func56 rfl rfl rfl ⟨bn _,trivial⟩ rfl 1000 64 (λ R ok=>(.s 9 (.chk (true&&U7 ((0+length bs)*1) 140737488355328) (by(refine U8 ?_;(omega))) (.s 1 (.out [40] [40] (U6 0 0 0 (0+length bs) 1) [U1 (map dB bs) 5 true] R (ok _ _ (by(simp;done)) wr)))))) kr
theorem ja (bs:Z1)(n:Nat)(h1:n=bs.length)(hn:n<=10000000):S0 56 [.sl false n 1 (bs.map dB)] [] (.ref 0 0 0 n 1) [⟨bs.map dB, 5,true⟩]:=by
 subst h1;exact At.nilSplit FJ (Cr bs hn) id
theorem sC (l:List Bool)(m:Nat)(hm:m=(pk l).length)(hl:l.length<=8388608):S0 43 [Nb m l] [] (iD 0) []:=by
 have h9:=am l;refine SpecH.run T_ok ah Tryz.func43 rfl rfl rfl trivial rfl 1000 64 (λ R ok=>(.s 26 (.f (decide (8388608<(↑(length l):Int))) (by(refine decide_eq_false ?_;(omega))) (.s 19 (.ow ((↑(length l):Int)+7) (.s 3 (.opt (bY VN (Vo VN (Yr ((↑(length l):Int)+7) 8))) (zI (((↑(length l):Int)+7)/8)) (aQ (@cF  ((↑(length l):Int)+7) (8) om om)) (.s 4 (.f ((m:Int) !=((↑(length l):Int)+7)/8) (by(simp <;>(omega))) (.s 8 (.opt (bY VN (XK (↑(length l):Int) 8)) (zI ((↑(length l):Int)%8)) (aQ (@ee  ((↑(length l):Int)) (8) om)) (.s 6 (.bd (0<(↑(length l):Int)%8) (λ p0 Z7=>(.s 19 (.ow (m-1) (.s 2 (.chk (decide (0<=(m:Int)-1)&&decide ((m:Int)-1<m)&&true) (by((refine aI ?_ ?_)<;>(repeat' (first|(refine aI ?_ ?_)|(with_reducible rfl)|(refine decide_eq_true ?_)|(refine U8 ?_)|(refine fw ?_)))<;>(omega))) (.s 3 (.opt ((map dB (pk l))[AB ((m:Int)-1)*1]?) (dB (getD (pk l) (AB ((m:Int)-1)*1) mq)) (av _ _ om) (.s 5 (.opt (bY W6 (V1 (↑(U3 (getD (pk l) (AB ((m:Int)-1)*1) mq)):Int) (2^min (AB ((↑(length l):Int)%8)) 8))) (bI (V1 (↑(U3 (getD (pk l) (AB ((m:Int)-1)*1) mq)):Int) (2^min (AB ((↑(length l):Int)%8)) 8))) (dm _ _) (.s 4 (.bd (0<V1 (↑(U3 (getD (pk l) (AB ((m:Int)-1)*1) mq)):Int) (2^min (AB ((↑(length l):Int)%8)) 8)) (λ p1 Z6=>(.abs (by(exact absurd aF (KR hm om))))) (λ p1 Z6=>(.s 1 (.out [] [] (zI 0) [] R (ok _ _ wr wr))))))))))))))) (λ p0 Z7=>(.s 23 (.out [] [] (zI 0) [] R (ok _ _ wr wr))))))))))))))))) kr
theorem Cs {v n:Nat}(hv:v<2^n)(hn:n<=32):((v:Int)%18446744073709551616).fdiv (2^min n 64)=0:=by
 have h2:2^n<=2^32:=VD (by decide) hn;rw[show min n 64=n from by omega,show(v:Int)%18446744073709551616=v from by omega,show(2:Int)^n=((2^n:Nat):Int)from by push_cast;rfl,WX _ (XT _),<-Yz,YA hv];rfl
theorem Ct {v n:Nat}(hv:v<2^n)(hn:n<=32):((v:Int)).fdiv (2^min n 64)=0:=by
 have h:=Cs hv hn;have h2:2^n<=2^32:=VD (by decide) hn
 rwa [show(v:Int)%18446744073709551616=v from by omega]at h
theorem FK (X:Z1){d:D}{j:Nat}(h:j=X.length):(List.map dB X++[d])[0+j*1]? =some d:=by
 rw[VK,VG,h,Vs (by rw[Vj];exact Vd _),Vj,Wn];rfl
def bV (l:List Bool)(v i:Nat):List Bool:=lk l (l++nb v i)
theorem pc (l:List Bool)(v i:Nat):bV l v i=l++nb v i:=au _ _
theorem IC (l:List Bool)(v:Nat):bV l v 0=l:=by rw[pc,KQ,VS]
theorem bZ (l:List Bool)(v i:Nat):(bV l v i).length=l.length+i:=by rw[pc,U2,bf]
theorem ID (l:List Bool)(v i:Nat):bV l v i++[v.testBit i]=bV l v (i+1):=by rw[pc,pc,sB,Ve]
theorem Bo (l:List Bool)(v i:Nat):(pk (bV l v i)).length=(l.length+i+7)/8:=by rw[am,bZ]
theorem IE {v i:Nat}(hi:i<=32)(hv:v<4294967296):IntKind.u32.wrap ((Vb 32 ((v:Int).fdiv (2^min i 32))&&&Vb 32 1).toNat:Int)%256=(((v.testBit i).toNat:Nat):Int):=by
 have hd:v/2^i<=v:=YL _ _;rw[show min i 32=i from by omega,show(2:Int)^i=((2^i:Nat):Int)from by push_cast;rfl,WX _ (XT _),<-Yz,aad];generalize v/2^i=Y at *;rw[nd 1 2 om (by decide) (by decide) (by decide)];omega
theorem Cu {M:Z1}{o a:Nat}(ha:a<256)(ho:o<M.length):ai (M.map dB) o [D.v (.int .u8 (a:Int))]=(M.set o (V6 a)).map dB:=by
 apply Wb;intro i;rw[cD (by simp only[Vj,VP];omega),Vu,Vu,WN];simp only[VP]
 by_cases hi:o=i
 ·subst hi
  rw[ZF om,ZF rfl,ZF ho,Wn];show some (D.v (.int .u8 (a:Int)))=some (dB (V6 a));unfold dB;rw[WQ];congr 3;omega
 ·rw[ZE om,ZE hi]
theorem OG {x:List Bool}(h:x.length%8≠0):((pk x).getD (x.length/8) mq).toNat<2^(x.length%8):=by
 rw[UZ,kP om];show(AP x (x.length/8)).toNat<_;have hb:=jz ((x.drop (8*(x.length/8))).take 8);rw[Vg,VH,show min 8 (x.length-8*(x.length/8))=x.length%8 from by omega]at hb;unfold AP;rw[WQ,Wq (wP x _)];exact hb
theorem OH {x:List Bool}{b:Bool}{L z:Int}(hL:L=x.length)(h:¬L%8=0)(hz:z=((b.toNat:Nat):Int)):ai ((pk x).map dB) (L/8).toNat [D.v (.int .u8 (((((pk x).getD (L/8).toNat mq).toNat|||(2^min (L%8).toNat 8*z%256).toNat:Nat)):Int))]=(pk (x++[b])).map dB:=by
 subst hL hz;have h0:x.length%8≠0:=by omega
 have hu:=OF (b:=b) h0;have hl:=OG h0;have hb:b.toNat<=1:=XV b;rw[show(((x.length:Nat):Int)/8).toNat=x.length/8 from by omega,show min (((x.length:Nat):Int)%8).toNat 8=x.length%8 from by omega];have hp:2^(x.length%8)<=2^7:=VD (by decide) om;have e:(2^(x.length%8)*((b.toNat:Nat):Int)%256).toNat=2^(x.length%8)*b.toNat:=by
  rw[show(2:Int)^(x.length%8)=((2^(x.length%8):Nat):Int)from by push_cast;rfl];generalize 2^(x.length%8)=P at *
  cases b
  ·simp
  ·simp;omega
 rw[e,Nat.or_comm,<-Xw hl,YS,hu.2];refine Cu ?_ om;have hm:2^(x.length%8)*b.toNat<=2^(x.length%8)*1:=XM _ hb;generalize 2^(x.length%8)*b.toNat=Q at *;generalize 2^(x.length%8)=P at *;omega
theorem OI {x:List Bool}{b:Bool}{L z:Int}(hL:L=x.length)(h:L%8=0)(hz:z=((b.toNat:Nat):Int)):ai ((pk x).map dB++[D.v (.int .u8 0)]) (L/8).toNat [D.v (.int .u8 (0+2^min (L%8).toNat 8*z))]=(pk (x++[b])).map dB:=by
 subst hL hz;have h0:x.length%8=0:=by omega
 have hu:=KP (b:=b) h0;have hb:b.toNat<=1:=XV b;rw[show(((x.length:Nat):Int)/8).toNat=x.length/8 from by omega,show min (((x.length:Nat):Int)%8).toNat 8=0 from by omega,hu.2,V4];have e:(pk x).map dB++[D.v (.int .u8 0)]=((pk x)++[0]).map dB:=by rw[V4];rfl
 rw[e,show(0:Int)+2^0*((b.toNat:Nat):Int)=((b.toNat:Nat):Int)from by simp,Cu om (by rw[U2,VP];omega),Zj _ _ om,hu.1,Wn,V4];rfl
theorem KS {k g:Nat}{t:TypeId}{X Y:Nat}{a b:Int}(h1:X=Y)(h2:a=b):(⟨[U6 k g 0 X 1,D.v (.int .i64 a)],t,false⟩:Blk)=⟨[U6 k g 0 Y 1,D.v (.int .i64 b)],t,false⟩:=by rw[h1,h2]
theorem OJ (l:List Bool)(m:Nat)(hm:m=(pk l).length)(v n:Nat)(hn:n<=32)(hv:v<2^n)(hl:l.length+n<=8388608):S0 74 [Nb m l,.v (.int .u32 (v:Int)),nD n] [] (.tup [.agg [.ref 0 0 0 (pk (bV l v n)).length 1,nD (l.length+n)],iD 0]) [⟨(pk (bV l v n)).map dB, 5,true⟩]:=by
 have h9:=am l;have h8:=Cs hv hn;have h4:=Ct hv hn;have h5:v<4294967296:=VZ hv (VD (n:=2) (by decide) hn);refine SpecH.run T_ok ah Tryz.func74 rfl rfl rfl ⟨bn _,trivial⟩ rfl 1000 64 (λ R ok=>(.s 10 (.cl 43 false [] (.fn RI (@sC (l) (m) om om)) (.s 22 (.t (decide ((n:Int)<=32)) (by(refine decide_eq_true ?_;(omega))) (.s 2 (.opt (ax .u64 (v:Int)) (D.v (Wj .u64 (v:Int))) (bG om) (.s 5 (.opt (bY W5 (V1 (v:Int) (2^min n 64))) (D.v (Wj .u64 (V1 (v:Int) (2^min n 64)))) (dm _ _) (.s 6 (.f (!V1 (v:Int) (2^min n 64)==0) (by(simp <;>(omega))) (.s 9 (.ow ((↑(length l):Int)+(n:Int)) (.s 2 (.f (decide (8388608<(↑(length l):Int)+(n:Int))) (by(refine decide_eq_false ?_;(omega))) (.s 17 (.cl 56 false [] (.fn In (@ja (pk l) (m) om om)) (.s 12 (.blk 296 296 (U1 [U6 336 336 0 m 1,zN (length l)] 163 false) (U1 [U6 336 336 0 (length (pk (bV l v 0))) 1,zN (length l+0)] 163 false) (by(rw[IC,<-hm];rfl)) (.blk 336 336 (U1 (map dB (pk l)) 5 true) (U1 (map dB (pk (bV l v 0))) 5 true) (by(rw[IC];done)) (Hn.inl T_ok ah false 52 0 (aq Tryz.prog 74 0) (λ(x:(i:Nat)×'(hi:i<=n)×'Unit)=>match x with|⟨i,hi,_⟩=>Vn [(1,ak v),(6,Vh 0 0 0),(9,Vh 8 8 0),(38,zN n),(39,nD i)] [⟨0,0,8,8,.b ⟨[zS,zI 0],26,false⟩⟩,⟨8,8,296,296,.b ⟨[(U6 16 16 (0) ((pk (bV l v i)).length) 1),nD (l.length+i)],163,false⟩⟩,⟨16,16,336,336,.b ⟨(pk (bV l v i)).map dB,5,true⟩⟩] 24) (λ(x:(i:Nat)×'(hi:i<=n)×'Unit)=>match x with|⟨i,hi,_⟩=>n-i) [⟨Unit,.exit 0,λ x=>match x with|()=>Vn [(1,ak v),(6,Vh 0 0 0),(9,Vh 8 8 0),(38,zN n)] [⟨0,0,8,8,.b ⟨[zS,zI 0],26,false⟩⟩,⟨8,8,296,296,.b ⟨[(U6 16 16 (0) ((pk (bV l v n)).length) 1),nD (l.length+n)],163,false⟩⟩,⟨16,16,336,336,.b ⟨(pk (bV l v n)).map dB,5,true⟩⟩] 24⟩] 1000 64 (fun|⟨i,hi,_⟩,Q,ZA,ZD=>(.s 2 (.bd ((i:Int)<n) (λ p0 Z7=>(.s 7 (.opt (bY VY (V1 (v:Int) (2^min i 32))) (uI (V1 (v:Int) (2^min i 32))) (dm _ _) (.s 15 (.opt (bY VN (XK (↑(length l+i):Int) 8)) (zI ((↑(length l+i):Int)%8)) (aQ (@ee  ((↑(length l+i):Int)) (8) om)) (.s 2 (.br ((↑(length l+i):Int)%8==0) (λ p1=>have Z6:=eq_of_beq p1;(.s 15 (.chk (true&&U5 (length (pk (bV l v i))*1) (length (map dB (pk (bV l v i))))&&true&&true&&true&&true&&U7 ((length (pk (bV l v i))+1)*1) 140737488355328) Ur (.s 35 (.opt (bY VN (Vo VN (Yr (↑(length l+i):Int) 8))) (zI ((↑(length l+i):Int)/8)) (aQ (@cF  ((↑(length l+i):Int)) (8) om om)) (.s 1 (.chk (true&&decide ((↑(length l+i):Int)/8<(↑(length (pk (bV l v i))+1):Int))) RK (.s 2 (.opt ((map dB (pk (bV l v i))++[bI 0])[0+AB ((↑(length l+i):Int)/8)*1]?) (bI 0) (@FK (pk (bV l v i)) (bI 0) (AB ((↑(length l+i):Int)/8)) (by(have h7:=Bo l v i;have h6:=Bo l v (i+1);omega))) (.s 3 (.opt (bY VY (Vo VY (↑(VO (Vb 32 (V1 (v:Int) (2^min i 32))&&&Vb 32 1)):Int))) (uI (Vo VY (↑(VO (Vb 32 (V1 (v:Int) (2^min i 32))&&&Vb 32 1)):Int))) (dm _ _) (.s 1 (.opt (ax .u8 (Vo VY (↑(VO (Vb 32 (V1 (v:Int) (2^min i 32))&&&Vb 32 1)):Int))) (bI (Vo VY (↑(VO (Vb 32 (V1 (v:Int) (2^min i 32))&&&Vb 32 1)):Int)%256)) (aL _ _) (.s 13 (.opt (bY VN (XK (↑(length l+i):Int) 8)) (zI ((↑(length l+i):Int)%8)) (aQ (@ee  ((↑(length l+i):Int)) (8) om)) (.s 2 (.opt (ax .u8 (2^min (AB ((↑(length l+i):Int)%8)) 8*(Vo VY (↑(VO (Vb 32 (V1 (v:Int) (2^min i 32))&&&Vb 32 1)):Int)%256))) (bI (2^min (AB ((↑(length l+i):Int)%8)) 8*(Vo VY (↑(VO (Vb 32 (V1 (v:Int) (2^min i 32))&&&Vb 32 1)):Int)%256))) (b4 SK) (.s 2 (.opt (bY W6 (Vo W6 (↑(VO (Vb 8 0|||Vb 8 (2^min (AB ((↑(length l+i):Int)%8)) 8*(Vo VY (↑(VO (Vb 32 (V1 (v:Int) (2^min i 32))&&&Vb 32 1)):Int)%256)))):Int))) (bI (0+2^min (AB ((↑(length l+i):Int)%8)) 8*(Vo VY (↑(VO (Vb 32 (V1 (v:Int) (2^min i 32))&&&Vb 32 1)):Int)%256))) (aQ (@uJ 8 (256:Int) (0) (2^min (AB ((↑(length l+i):Int)%8)) 8*(Vo VY (↑(VO (Vb 32 (V1 (v:Int) (2^min i 32))&&&Vb 32 1)):Int)%256)) om SK om om SK)) (.s 1 (.chk (true&&decide ((↑(length l+i):Int)/8<(↑(length (pk (bV l v i))+1):Int))) RK (.s 1 (.chk (true&&U7 (0+AB ((↑(length l+i):Int)/8)*1+1) (length (map dB (pk (bV l v i))++[bI 0]))) (by(simp;have h7:=Bo l v i;have h6:=Bo l v (i+1);omega)) (.lst (ai (map dB (pk (bV l v i))++[bI 0]) (0+AB ((↑(length l+i):Int)/8)*1) [bI (0+2^min (AB ((↑(length l+i):Int)%8)) 8*(Vo VY (↑(VO (Vb 32 (V1 (v:Int) (2^min i 32))&&&Vb 32 1)):Int)%256))]) (ai (map dB (pk (bV l v i))++[bI 0]) (AB ((↑(length l+i):Int)/8)) [bI (0+2^min (AB ((↑(length l+i):Int)%8)) 8*(Vo VY (↑(VO (Vb 32 (V1 (v:Int) (2^min i 32))&&&Vb 32 1)):Int)%256))]) (by(simp;done)) (.s 13 (.ow ((↑(length l+i):Int)+1) (.s 12 (.ow (i+1) (.s 1 (.val 39 (zI (i+1)) (zN (i+1)) (by(refine aR ?_;(omega))) (.blk 8 8 (U1 [U6 200 200 0 (length (pk (bV l v i))+1) 1,zI ((↑(length l+i):Int)+1)] 163 false) (U1 [U6 200 200 0 (length (pk (bV l v (i+1)))) 1,zN (length l+(i+1))] 163 false) Us (.blk 200 200 (U1 (ai (map dB (pk (bV l v i))++[bI 0]) (AB ((↑(length l+i):Int)/8)) [bI (0+2^min (AB ((↑(length l+i):Int)%8)) 8*(Vo VY (↑(VO (Vb 32 (V1 (v:Int) (2^min i 32))&&&Vb 32 1)):Int)%256))]) 5 true) (U1 (map dB (pk (bV l v (i+1)))) 5 true) (by(refine aB (YV (OI (by rw[bZ]) om (IE om om)) ?_);rw[ID])) (Hn.next ZA ⟨(i+1),om,⟨⟩⟩ (by show n-(i+1)<n-i;clear ZA ZD;omega) [(0,0),(8,8),(200,200)] ro))))))))))))))))))))))))))))))))) (λ p1=>have Z6:=ap p1;(.s 25 (.opt (bY VN (Vo VN (Yr (↑(length l+i):Int) 8))) (zI ((↑(length l+i):Int)/8)) (aQ (@cF  ((↑(length l+i):Int)) (8) om om)) (.s 1 (.chk (true&&decide ((↑(length l+i):Int)/8<(↑(length (pk (bV l v i))):Int))) RK (.s 2 (.opt ((map dB (pk (bV l v i)))[0+AB ((↑(length l+i):Int)/8)*1]?) (dB (getD (pk (bV l v i)) (0+AB ((↑(length l+i):Int)/8)*1) mq)) (av _ _ (by(have h7:=Bo l v i;have h6:=Bo l v (i+1);omega))) (.s 3 (.opt (bY VY (Vo VY (↑(VO (Vb 32 (V1 (v:Int) (2^min i 32))&&&Vb 32 1)):Int))) (uI (Vo VY (↑(VO (Vb 32 (V1 (v:Int) (2^min i 32))&&&Vb 32 1)):Int))) (dm _ _) (.s 1 (.opt (ax .u8 (Vo VY (↑(VO (Vb 32 (V1 (v:Int) (2^min i 32))&&&Vb 32 1)):Int))) (bI (Vo VY (↑(VO (Vb 32 (V1 (v:Int) (2^min i 32))&&&Vb 32 1)):Int)%256)) (aL _ _) (.s 13 (.opt (bY VN (XK (↑(length l+i):Int) 8)) (zI ((↑(length l+i):Int)%8)) (aQ (@ee  ((↑(length l+i):Int)) (8) om)) (.s 2 (.opt (ax .u8 (2^min (AB ((↑(length l+i):Int)%8)) 8*(Vo VY (↑(VO (Vb 32 (V1 (v:Int) (2^min i 32))&&&Vb 32 1)):Int)%256))) (bI (2^min (AB ((↑(length l+i):Int)%8)) 8*(Vo VY (↑(VO (Vb 32 (V1 (v:Int) (2^min i 32))&&&Vb 32 1)):Int)%256)%256)) (aL _ _) (.s 2 (.opt (bY W6 (Vo W6 (↑(VO (Vb 8 (↑(U3 (getD (pk (bV l v i)) (0+AB ((↑(length l+i):Int)/8)*1) mq)):Int)|||Vb 8 (2^min (AB ((↑(length l+i):Int)%8)) 8*(Vo VY (↑(VO (Vb 32 (V1 (v:Int) (2^min i 32))&&&Vb 32 1)):Int)%256)%256))):Int))) (bl (U3 (getD (pk (bV l v i)) (0+AB ((↑(length l+i):Int)/8)*1) mq)|||AB (2^min (AB ((↑(length l+i):Int)%8)) 8*(Vo VY (↑(VO (Vb 32 (V1 (v:Int) (2^min i 32))&&&Vb 32 1)):Int)%256)%256))) (aQ (@uH  ((↑(U3 (getD (pk (bV l v i)) (0+AB ((↑(length l+i):Int)/8)*1) mq)):Int)) (2^min (AB ((↑(length l+i):Int)%8)) 8*(Vo VY (↑(VO (Vb 32 (V1 (v:Int) (2^min i 32))&&&Vb 32 1)):Int)%256)%256) (by(exact iP _ (by decide) (by decide))) om)) (.s 1 (.chk (true&&decide ((↑(length l+i):Int)/8<(↑(length (pk (bV l v i))):Int))) RK (.s 1 (.chk (true&&U7 (0+AB ((↑(length l+i):Int)/8)*1+1) (length (map dB (pk (bV l v i))))) Ur (.lst (ai (map dB (pk (bV l v i))) (0+AB ((↑(length l+i):Int)/8)*1) [bl (U3 (getD (pk (bV l v i)) (0+AB ((↑(length l+i):Int)/8)*1) mq)|||AB (2^min (AB ((↑(length l+i):Int)%8)) 8*(Vo VY (↑(VO (Vb 32 (V1 (v:Int) (2^min i 32))&&&Vb 32 1)):Int)%256)%256))]) (ai (map dB (pk (bV l v i))) (AB ((↑(length l+i):Int)/8)) [bl (U3 (getD (pk (bV l v i)) (AB ((↑(length l+i):Int)/8)) mq)|||AB (2^min (AB ((↑(length l+i):Int)%8)) 8*(Vo VY (↑(VO (Vb 32 (V1 (v:Int) (2^min i 32))&&&Vb 32 1)):Int)%256)%256))]) (by(simp;done)) (.s 13 (.ow ((↑(length l+i):Int)+1) (.s 12 (.ow (i+1) (.s 1 (.val 39 (zI (i+1)) (zN (i+1)) (by(refine aR ?_;(omega))) (.blk 8 8 (U1 [U6 16 16 0 (length (pk (bV l v i))) 1,zI ((↑(length l+i):Int)+1)] 163 false) (U1 [U6 16 16 0 (length (pk (bV l v (i+1)))) 1,zN (length l+(i+1))] 163 false) Us (.blk 16 16 (U1 (ai (map dB (pk (bV l v i))) (AB ((↑(length l+i):Int)/8)) [bl (U3 (getD (pk (bV l v i)) (AB ((↑(length l+i):Int)/8)) mq)|||AB (2^min (AB ((↑(length l+i):Int)%8)) 8*(Vo VY (↑(VO (Vb 32 (V1 (v:Int) (2^min i 32))&&&Vb 32 1)):Int)%256)%256))]) 5 true) (U1 (map dB (pk (bV l v (i+1)))) 5 true) (by(refine aB (YV (OH (by rw[bZ]) om (IE om om)) ?_);rw[ID])) (Hn.next ZA ⟨(i+1),om,⟨⟩⟩ (by show n-(i+1)<n-i;clear ZA ZD;omega) [(0,0),(8,8),(16,16)] ro)))))))))))))))))))))))))))))))))))))) (λ p0 Z7=>(.blk 8 8 (U1 [U6 16 16 0 (length (pk (bV l v i))) 1,zN (length l+i)] 163 false) (U1 [U6 16 16 0 (length (pk (bV l v n))) 1,zN (length l+n)] 163 false) (by(rw[show i=n from by(omega)])) (.blk 16 16 (U1 (map dB (pk (bV l v i))) 5 true) (U1 (map dB (pk (bV l v n))) 5 true) (by(rw[show i=n from by(omega)])) (Hn.last ZD 0 (():Unit) rfl [(0,0),(8,8),(16,16)] ro))))))) (fun|⟨i,hi,_⟩=>by kernel_rfl) ⟨(0),om,⟨⟩⟩ [(8,8),(296,296),(336,336)] ro (ck (fun|()=>(.s 16 (.out [16] [16] (V2 [Wp [U6 0 0 0 (length (pk (bV l v n))) 1,zN (length l+n)],zI 0]) [U1 (map dB (pk (bV l v n))) 5 true] R (ok _ _ wr wr)))))))))))))))))))))))))) kr
def fI (v:Nat):Nat->Nat
 |0=>0
 |i+1=>2*fI v i+(v.testBit i).toNat
def Bp (v n i:Nat):Nat:=lk [()] (2^(n-i)*fI v i)
theorem sD (v n i:Nat):Bp v n i=2^(n-i)*fI v i:=au _ _
theorem wQ (v:Nat):∀n,fI v n<2^n
 |0=>Xt
 |n+1=>by
  have h:=wQ v n;have h2:=XV (v.testBit n);rw[fI,V8];omega
theorem Cv {v n i:Nat}(h:i<=n):Bp v n i<2^n:=by
 rw[sD];have h2:=wQ v i;have e:2^n=2^(n-i)*2^i:=by rw[<-Y1];congr 1;omega
 rw[e];exact Nat.mul_lt_mul_of_pos_left h2 (WD _)
theorem OK (v n:Nat):Bp v n n=fI v n:=by rw[sD,Wn,Nat.pow_zero,Nat.one_mul]
theorem IF (v:Nat):∀n,nb (fI v n) n=(nb v n).reverse
 |0=>by rw[KQ,KQ];rfl
 |n+1=>by
  have h:=IF v n;have hb:=XV (v.testBit n);rw[sB v,List.reverse_append,<-h,fI];rw[pb,pb,List.range_succ_eq_map,List.map_cons,List.map_map];have e0:Nat.testBit (2*fI v n+(v.testBit n).toNat) 0=v.testBit n:=by
   rw[Nat.testBit_zero]
   cases v.testBit n
   ·simp
   ·simp
  rw[e0];show _::_=[v.testBit n]++_;rw[List.singleton_append]
  congr 1
  apply YO;intro i _;show Nat.testBit (2*fI v n+(v.testBit n).toNat) (i+1)=_;rw[Nat.testBit_succ,show(2*fI v n+(v.testBit n).toNat)/2=fI v n from by omega]
theorem SL {v n i:Nat}{X z:Int}(hi:i<n)(hn:n<=32)(hX:X=((Bp v n i:Nat):Int))(hz:z=(((v.testBit i).toNat:Nat):Int)):IntKind.u32.wrap ((Vb 32 X|||Vb 32 (2^min ((n:Int)-1-(i:Int)).toNat 32*z%4294967296)).toNat:Int)=((Bp v n (i+1):Nat):Int):=by
 subst hX hz;have h1:=Cv (v:=v) (n:=n) (i:=i) om;have h2:=Cv (v:=v) (n:=n) (i:=i+1) om;have h3:2^n<=2^32:=VD (by decide) hn;have hb:=XV (v.testBit i);have e1:2^(n-i)=2*2^(n-(i+1)):=by rw[show n-i=(n-(i+1))+1 from by omega,V8,WR]
 have e2:Bp v n (i+1)=2^(n-i)*fI v i+2^(n-(i+1))*(v.testBit i).toNat:=by
  rw[sD,fI,XD,e1,<-WA,WR (2^(n-(i+1))) 2]
 have e3:2^(n-(i+1))*(v.testBit i).toNat<2^(n-i):=by
  have:2^(n-(i+1))*(v.testBit i).toNat<=2^(n-(i+1))*1:=XM _ hb;have h5:=WD (n-(i+1));omega
 have h6:2^(n-(i+1))*(v.testBit i).toNat<=4294967295:=by rw[e2]at h2;omega
 rw[show min ((n:Int)-1-(i:Int)).toNat 32=n-(i+1)from by omega,show(2:Int)^(n-(i+1))*(((v.testBit i).toNat:Nat):Int)=((2^(n-(i+1))*(v.testBit i).toNat:Nat):Int)from by push_cast;rfl,show((2^(n-(i+1))*(v.testBit i).toNat:Nat):Int)%4294967296=((2^(n-(i+1))*(v.testBit i).toNat:Nat):Int)from by omega];rw[sD]at h1 ⊢;rw[e2]at h2 ⊢;have h4:2^(n-i)*fI v i<=4294967295∧2^(n-(i+1))*(v.testBit i).toNat<=4294967295:=by omega
 rw[qU om om,Wx,Wx,<-Xw e3]
theorem KT {v i:Nat}(hi:i<=32)(hv:v<4294967296):IntKind.u32.wrap ((Vb 32 ((v:Int).fdiv (2^min i 32))&&&Vb 32 1).toNat:Int)=(((v.testBit i).toNat:Nat):Int):=by
 have hd:v/2^i<=v:=YL _ _;rw[show min i 32=i from by omega,show(2:Int)^i=((2^i:Nat):Int)from by push_cast;rfl,WX _ (XT _),<-Yz,aad];generalize v/2^i=Y at *;rw[nd 1 2 om (by decide) (by decide) (by decide)];omega
theorem b7 (v n:Nat)(hn:n<=32)(hv:v<2^n):S0 152 [.v (.int .u32 (v:Int)),nD n] [] (.tup [.v (.int .u32 ((fI v n:Nat):Int)),iD 0]) []:=by
 have h8:=Cs hv hn;have h4:=Ct hv hn;have h5:v<4294967296:=VZ hv (VD (n:=2) (by decide) hn);refine SpecH.run T_ok ah Tryz.func152 rfl rfl rfl trivial rfl 1000 64 (λ R ok=>(.s 19 (.t (decide ((n:Int)<=32)) (by(refine decide_eq_true ?_;(omega))) (.s 2 (.opt (ax .u64 (v:Int)) (D.v (Wj .u64 (v:Int))) (bG om) (.s 5 (.opt (bY W5 (V1 (v:Int) (2^min n 64))) (D.v (Wj .u64 (V1 (v:Int) (2^min n 64)))) (dm _ _) (.s 6 (.f (!V1 (v:Int) (2^min n 64)==0) (by(simp <;>(omega))) (.s 2 (Hn.inl T_ok ah false 28 0 (aq Tryz.prog 152 0) (λ(x:(i:Nat)×'(hi:i<=n)×'Unit)=>match x with|⟨i,hi,_⟩=>Vn [(0,ak v),(1,zN n),(4,.v (.int .u32 ((Bp v n i:Nat):Int))),(11,zN n),(12,nD i)] [] 0) (λ(x:(i:Nat)×'(hi:i<=n)×'Unit)=>match x with|⟨i,hi,_⟩=>n-i) [⟨Unit,.exit 0,λ x=>match x with|()=>Vn [(0,ak v),(1,zN n),(4,.v (.int .u32 ((fI v n:Nat):Int))),(11,zN n)] [] 0⟩] 1000 64 (fun|⟨i,hi,_⟩,Q,ZA,ZD=>(.s 2 (.bd ((i:Int)<n) (λ p0 Z7=>(.s 7 (.opt (bY VY (V1 (v:Int) (2^min i 32))) (uI (V1 (v:Int) (2^min i 32))) (dm _ _) (.s 2 (.opt (bY VY (Vo VY (↑(VO (Vb 32 (V1 (v:Int) (2^min i 32))&&&Vb 32 1)):Int))) (uI (Vo VY (↑(VO (Vb 32 (V1 (v:Int) (2^min i 32))&&&Vb 32 1)):Int))) (dm _ _) (.s 3 (.ow (n-1) (.s 3 (.ow (n-1-i) (.s 1 (.chk (decide (0<=(n:Int)-1-i)) (by(refine decide_eq_true ?_;(omega))) (.opt (ax .u32 (2^min (AB ((n:Int)-1-i)) 32*Vo VY (↑(VO (Vb 32 (V1 (v:Int) (2^min i 32))&&&Vb 32 1)):Int))) (uI (2^min (AB ((n:Int)-1-i)) 32*Vo VY (↑(VO (Vb 32 (V1 (v:Int) (2^min i 32))&&&Vb 32 1)):Int)%4294967296)) (aL _ _) (.s 2 (.opt (bY VY (Vo VY (↑(VO (Vb 32 (↑(Bp v n i):Int)|||Vb 32 (2^min (AB ((n:Int)-1-i)) 32*Vo VY (↑(VO (Vb 32 (V1 (v:Int) (2^min i 32))&&&Vb 32 1)):Int)%4294967296))):Int))) (uI (Vo VY (↑(VO (Vb 32 (↑(Bp v n i):Int)|||Vb 32 (2^min (AB ((n:Int)-1-i)) 32*Vo VY (↑(VO (Vb 32 (V1 (v:Int) (2^min i 32))&&&Vb 32 1)):Int)%4294967296))):Int))) (dm _ _) (.s 3 (.ow (i+1) (.s 1 (.val 4 (uI (Vo VY (↑(VO (Vb 32 (↑(Bp v n i):Int)|||Vb 32 (2^min (AB ((n:Int)-1-i)) 32*Vo VY (↑(VO (Vb 32 (V1 (v:Int) (2^min i 32))&&&Vb 32 1)):Int)%4294967296))):Int))) (ak (Bp v n (i+1))) (by(exact aR (SL om hn rfl (KT om om)))) (.val 12 (zI (i+1)) (zN (i+1)) (by(refine aR ?_;(omega))) (Hn.next ZA ⟨(i+1),om,⟨⟩⟩ (by show n-(i+1)<n-i;clear ZA ZD;omega) [] ro)))))))))))))))))))) (λ p0 Z7=>(.val 4 (ak (Bp v n i)) (ak (fI v n)) (by(rw[show i=n from by(omega),OK])) (Hn.last ZD 0 (():Unit) rfl [] ro)))))) (fun|⟨i,hi,_⟩=>by kernel_rfl) ⟨(0),om,⟨⟩⟩ [] ro (ck (fun|()=>(.s 3 (.out [] [] (V2 [ak (fI v n),zI 0]) [] R (ok _ _ wr wr)))))))))))))))) kr
def ea (x:Nat):D:=.v (.int .u32 ((x:Nat):Int))
def eY (x:Nat):Nat->Nat
 |0=>x
 |i+1=>eY x i/2
theorem uU (x:Nat):∀i,eY x i=x/2^i
 |0=>(Nat.div_one x).symm
 |i+1=>by rw[eY,uU x i,Nat.div_div_eq_div_mul,V8]
theorem fY {v:Nat}(h:v<=15):eY 32768 v=2^(15-v):=by
 rw[uU,show(32768:Nat)=2^15 from rfl,Nat.pow_div h (by decide)]
def AQ (l:Z1):Nat->Nat
 |0=>0
 |n+1=>AQ l n+(if n=0 then 0 else(cu l n l.length).length*eY 32768 n)
def Ut (l:Z1)(n k:Nat):Nat:=lk l (AQ l n+(if n=0 then 0 else(cu l n k).length*eY 32768 n))
theorem KU (l:Z1)(n k:Nat):Ut l n k=AQ l n+(if n=0 then 0 else(cu l n k).length*eY 32768 n):=au _ _
def kQ (l:Z1)(j:Nat):Nat:=Ut l (l.getD j mq).toNat j/eY 32768 (l.getD j mq).toNat
def SM (l:Z1)(n k j:Nat):Nat×Nat:=
 if(l.getD j mq).toNat≠0∧((l.getD j mq).toNat<n∨(l.getD j mq).toNat=n∧j<k)then(kQ l j,(l.getD j mq).toNat)else(0,0)
def md (l:Z1)(n k:Nat):List (Nat×Nat):=lk l ((Wa l.length).map (SM l n k))
theorem IG (l:Z1)(n k:Nat):md l n k=(Wa l.length).map (SM l n k):=au _ _
def ac (l:Z1):List (Nat×Nat):=lk l (md l 16 0)
theorem Cw (l:Z1):ac l=md l 16 0:=au _ _
def ni (c:Nat×Nat):List D:=[ea c.1,fP c.2]
theorem KV (l:Z1)(n k:Nat):(md l n k).length=l.length:=by rw[IG,Vj,WH]
theorem nV (f:Nat×Nat->List D)(hf:∀c,(f c).length=2):∀(xs:List (Nat×Nat)) (k:Nat),(xs.flatMap f)[2*k]? =(xs[k]?).bind (λ c=>(f c)[0]?)∧(xs.flatMap f)[2*k+1]? =(xs[k]?).bind (λ c=>(f c)[1]?)
 |[],k=>by simp
 |c::r,0=>by
  rw[Wf];exact⟨by rw[Vz (by rw[hf];omega)];rfl,by rw[Vz (by rw[hf];omega)];rfl⟩
 |c::r,k+1=>by
  have ih:=nV f hf r k;rw[Wf];refine⟨?_,?_⟩
  ·rw[Vs (by rw[hf];omega),hf,show 2*(k+1)-2=2*k from by omega,ih.1];rfl
  ·rw[Vs (by rw[hf];omega),hf,show 2*(k+1)+1-2=2*k+1 from by omega,ih.2];rfl
theorem FL {xs:List (Nat×Nat)}{k o:Nat}{c:Nat×Nat}(hk:k<xs.length)(ho:o=2*k):ai (xs.flatMap ni) o (ni c)=(xs.set k c).flatMap ni:=by
 have hl:∀ys:List (Nat×Nat),(ys.flatMap ni).length=2*ys.length:=λ ys=>by rw[ba (k:=2) (λ _=>rfl)];omega
 subst ho;apply Wb;intro i;rw[cD (by rw[hl];show 2*k+2<=_;omega)];have hd:∃j,i=2*j∨i=2*j+1:=⟨i/2,by omega⟩
 obtain⟨j,hj⟩:=hd;have g1:=nV ni (λ _=>rfl) xs j;have g2:=nV ni (λ _=>rfl) (xs.set k c) j;show(if 2*k<=i∧i<2*k+2 then(ni c)[i-2*k]? else(xs.flatMap ni)[i]?)=_
 by_cases e:k=j
 ·subst e
  rw[WN,ZF rfl,ZF hk]at g2;rcases hj with rfl|rfl
  ·rw[ZF om,g2.1,Wn];rfl
  ·rw[ZF om,g2.2,Xr];rfl
 ·rw[WN,ZE e]at g2
  rw[ZE om];rcases hj with rfl|rfl
  ·rw[g1.1,g2.1]
  ·rw[g1.2,g2.2]
theorem KW (n:Nat):dJ [D.v (.int .u32 0),D.v (.int .u8 0)] (n*2)=(Vk n ((0,0):Nat×Nat)).flatMap ni:=by
 apply Wb;intro i;unfold dJ;rw[Vu];obtain⟨j,hj⟩:∃j,i=2*j∨i=2*j+1:=⟨i/2,by omega⟩
 have g:=nV ni (λ _=>rfl) (Vk n ((0,0):Nat×Nat)) j;rw[Wz]at g
 by_cases h:j<n
 ·rw[ZF h]at g
  rcases hj with rfl|rfl
  ·rw[Wu om,g.1]
   show some (ZI _ (2*j%2) mq)=_;rw[show 2*j%2=0 from by omega];rfl
  ·rw[Wu om,g.2]
   show some (ZI _ ((2*j+1)%2) mq)=_;rw[show(2*j+1)%2=1 from by omega];rfl
 ·rw[ZE h]at g
  rcases hj with rfl|rfl
  ·rw[VF (by rw[WH];omega),g.1];rfl
  ·rw[VF (by rw[WH];omega),g.2];rfl
theorem uV {a:Nat}(h:a<=15):1<=eY 32768 a:=by rw[fY h];exact WD _
theorem nw {p:Prop}(h:p:=by(have h9:=bJ (l:=l) (a:=a) om;have h8:=dU b c;have h7:=aX l a;have h6:=aX l (a+1);have h5:=bU l;have h4:=V8 2 a;have h3:2^a<=2^15:=VD (by decide) om;omega)):p:=h
theorem Cy {p:Prop}(h:p:=by(simp[lq,ka];done)):p:=h
theorem FM {p:Prop}(h:p:=by((refine aI ?_ ?_)<;>(repeat' (first|(refine aI ?_ ?_)|(with_reducible rfl)|(refine decide_eq_true ?_)|(refine U8 ?_)|(refine fw ?_)))<;>(omega))):p:=h
theorem FN {p:Prop}(h:p:=by(simp;have h9:=(eb (l:=l) (a:=a) om).1;have h8:=lw (l:=l) (a:=a);have h4:=aX l a;omega)):p:=h
theorem FO {p:Prop}(h:p:=by(refine decide_eq_true ?_;(omega))):p:=h
theorem KX {p:Prop}(h:p:=by(refine decide_eq_false ?_;have h9:=(eb (l:=l) (a:=a) om).1;have h8:=lw (l:=l) (a:=a);have h4:=aX l a;omega)):p:=h
theorem KY {p:Prop}(h:p:=by show 16-(a+1)<16-a;clear ZA ZD;omega):p:=h
theorem OL {p:Prop}(h:p:=by(refine decide_eq_false ?_;have h9:=(eb (l:=l) (a:=a) om).1;have h8:=lw (l:=l) (a:=a);have h4:=aX l a;have h7:=sF (l:=l) (a:=a) (k:=k) om om;have h6:=ek l a k;have h5:=bT l a;omega)):p:=h
theorem OM {p:Prop}(h:p:=by(refine decide_eq_true ?_;have h9:=(eb (l:=l) (a:=a) om).1;have h8:=lw (l:=l) (a:=a);have h4:=aX l a;have h7:=sF (l:=l) (a:=a) (k:=k) om om;have h6:=ek l a k;have h5:=bT l a;omega)):p:=h
def co (l:Z1)(a:Nat):List Nat:=lk l (if a=0 then[]else cu l a l.length)
theorem gH (l:Z1)(a:Nat):co l a=if a=0 then[]else cu l a l.length:=au _ _
def aV (l:Z1)(a:Nat):List Nat:=lk l ((af l).drop (aJ l a).length)
theorem jA (l:Z1)(a:Nat):aV l a=(af l).drop (aJ l a).length:=au _ _
theorem bT (l:Z1)(a:Nat):(co l a).length=aa l a:=by
 rw[gH,gR];unfold sq;split<;>rfl
theorem db (l:Z1)(a:Nat):aJ l (a+1)=aJ l a++co l a:=by rw[aJ,gH]
theorem kg (l:Z1)(a:Nat):∀k,∃r,aJ l (a+k)=aJ l a++r
 |0=>⟨[],by simp⟩
 |k+1=>by
  obtain⟨r,hr⟩:=kg l a k;exact⟨r++co l (a+k),by rw[<-Wh,db,hr,Ve]⟩
theorem jB {l:Z1}{a:Nat}(h:a<=15):∃r,af l=aJ l a++(co l a++r):=by
 obtain⟨r,hr⟩:=kg l (a+1) (16-(a+1));refine⟨r,?_⟩;rw[dE,show(16:Nat)=a+1+(16-(a+1))from by omega,hr,db,Ve]
theorem q9 {l:Z1}{a:Nat}(h:a<=15):(aV l a).take (aa l a)=co l a:=by
 obtain⟨r,hr⟩:=jB (l:=l) h;rw[jA,hr,X7,<-bT,List.take_left]
theorem ra {l:Z1}{a:Nat}(h:a<=15):(aV l a).drop (aa l a)=aV l (a+1):=by
 obtain⟨r,hr⟩:=jB (l:=l) h;rw[jA,jA,db,U2,hr,X7,<-bT,X7,<-Ve,<-U2,X7]
theorem eb {l:Z1}{a:Nat}(h:a<=15):aa l a<=(aV l a).length∧(aV l (a+1)).length=(aV l a).length-aa l a:=by
 constructor
 ·have:=congrArg Ym (q9 (l:=l) h)
  rw[Vg,bT]at this;omega
 ·rw[<-ra h,VH]
theorem KZ (l:Z1):aV l 0=af l:=by rw[jA];rfl
theorem FP (l:Z1):aV l 16=[]:=by rw[jA,dE,List.drop_length]
theorem yJ (l:Z1):aa l 0=0:=by rw[gR];rfl
theorem uW (l:Z1)(n k:Nat):List.Pairwise (· < ·) (cu l n k):=by
 unfold cu;exact List.Pairwise.filter _ List.pairwise_lt_range
theorem uX (l:Z1)(a:Nat):List.Pairwise (· < ·) (co l a):=by
 rw[gH];split
 ·exact List.Pairwise.nil
 ·exact uW _ _ _
theorem sE {l:Z1}{a k:Nat}(h:k<(co l a).length):(co l a).getD k mq<l.length∧(l.getD ((co l a).getD k mq) mq).toNat=a∧a≠0:=by
 have hm:(co l a).getD k mq∈co l a:=by
  rw[UZ,U4 h];exact V3 h
 generalize(co l a).getD k mq=x at *;rw[gH]at hm
 split at hm
 ·cases hm
 ·next q=>exact⟨(fy.1 hm).1,(fy.1 hm).2,q⟩
theorem mD {l:List Nat}{k:Nat}(h:k<l.length):l.take (k+1)=l.take k++[l.getD k mq]:=by
 rw[VT h,UZ,U4 h];rfl
theorem Cz {l:Z1}{a k:Nat}(h:k<(co l a).length):(co l a).getD k mq∉(co l a).take k:=by
 have hp:=(uX l a).take (i:=k+1);rw[mD h,List.pairwise_append]at hp;intro q;exact XA _ (hp.2.2 _ q _ List.mem_cons_self)
def fJ (l:Z1)(a k i:Nat):UInt8:=if(l.getD i mq).toNat≠0∧((l.getD i mq).toNat<a∨((l.getD i mq).toNat=a∧i∈(co l a).take k))then l.getD i mq else 0
def cr (l:Z1)(a k:Nat):Z1:=lk l ((Wa 320).map (fJ l a k))
theorem jC (l:Z1)(a k:Nat):cr l a k=(Wa 320).map (fJ l a k):=au _ _
theorem ek (l:Z1)(a k:Nat):(cr l a k).length=320:=by rw[jC,Vj,WH]
theorem iU {l:Z1}{a k i:Nat}:(cr l a k)[i]? =if i<320 then some (fJ l a k i)else none:=by
 rw[jC,Vu]
 by_cases h:i<320
 ·rw[ZF h,Wu h];rfl
 ·rw[ZE h,VF (by rw[WH];omega)];rfl
theorem AR {l:Z1}{a k:Nat}(hl:l.length<=320)(h:k<(co l a).length):(cr l a k).getD ((co l a).getD k mq) mq=0:=by
 have h1:=sE h;have h2:=Cz h;rw[UZ,iU,ZF om];show fJ _ _ _ _=0;unfold fJ;rw[ZE];rintro⟨_,q|q⟩
 ·omega
 ·exact h2 q.2
theorem AT {l:Z1}{a k o:Nat}{d:D}(hl:l.length<=320)(h:k<(co l a).length)(ho:o=(co l a).getD k mq)(hd:d=fP a):ai ((cr l a k).map dB) o [d]=(cr l a (k+1)).map dB:=by
 have h1:=sE h;subst ho;apply Wb;intro i;rw[cD (by simp only[Vj,ek,VP];omega),Vu,Vu,iU,iU]
 by_cases hi:i=(co l a).getD k mq
 ·rw[ZF ⟨by omega,by simp only[VP];omega⟩,ZF om,hi,Wn]
  show some d=some (dB (fJ _ _ _ _));unfold fJ;rw[ZF ⟨by omega,.inr ⟨h1.2.1,by rw[mD h];simp⟩⟩,hd];unfold dB fP;rw[h1.2.1]
 ·rw[ZE (by simp only[VP];omega)]
  congr 1
  split
  ·congr 1
   unfold fJ;have e:(i∈(co l a).take (k+1))↔(i∈(co l a).take k):=by
    rw[mD h,Zh,List.mem_singleton];exact⟨λ q=>q.resolve_right hi,.inl⟩
   simp only[e]
  ·rfl
theorem uY {l:Z1}{a:Nat}:cr l a (aa l a)=cr l (a+1) 0:=by
 rw[jC,jC];apply YO;intro i _;unfold fJ;rw[<-bT,Wd,List.take_zero];have e:((l.getD i mq).toNat≠0∧((l.getD i mq).toNat<a∨((l.getD i mq).toNat=a∧i∈co l a)))↔((l.getD i mq).toNat≠0∧((l.getD i mq).toNat<a+1∨((l.getD i mq).toNat=a+1∧i∈([]:List Nat)))):=by
  simp only[List.not_mem_nil,and_false,or_false];constructor
  ·rintro⟨h1,h2|h2⟩
   ·exact⟨h1,by omega⟩
   ·exact⟨h1,by omega⟩
  ·rintro⟨h1,h2⟩
   refine⟨h1,?_⟩;rcases VL (l.getD i mq).toNat a with q|q
   ·exact .inl q
   ·have e:(l.getD i mq).toNat=a:=by omega
    refine .inr ⟨e,?_⟩;have hi:i<l.length:=by
     rcases VL i l.length with z|z
     ·exact z
     ·rw[UZ,VF z]at h1;exact absurd rfl h1
    rw[gH,ZE om];exact fy.2 ⟨hi,e⟩
 simp only[e]
def eV (l:Z1):Z1:=l++Vk (320-l.length) 0
theorem mE (l:Z1)(i:Nat):(eV l).getD i mq=l.getD i mq:=by
 unfold eV;rw[UZ,UZ];rcases VL i l.length with h|h
 ·rw[Vz h]
 ·rw[Vs h,VF h,Wz]
  split<;>rfl
theorem fz {l:Z1}(h:l.length<=320):(eV l).length=320:=by unfold eV;rw[U2,VJ];omega
theorem CA {l:Z1}(hl:l.length<=320)(ho:dn l 15=false):cr l 16 0=eV l:=by
 apply Wb;intro i;rw[iU]
 by_cases h:i<320
 ·rw[ZF h,U4 (by rw[fz hl];exact h)]
  congr 1
  have e:=mE l i;rw[UZ,U4 (by rw[fz hl];exact h)]at e;show fJ l 16 0 i=_;refine YV ?_ e.symm;unfold fJ
  split
  ·rfl
  ·next q=>
   have:(l.getD i mq).toNat=0:=by
    rcases VL i l.length with z|z
    ·have:=dN ho z
     rcases Nat.eq_zero_or_pos (l.getD i mq).toNat with y|y
     ·exact y
     ·exact absurd ⟨by omega,.inl om⟩ q
    ·rw[UZ,VF z];rfl
   exact(UInt8.toNat_inj.1 this).symm
 ·rw[ZE h,VF (by rw[fz hl];omega)]
theorem uZ {l:Z1}{n:Nat}(hl:l.length<=320)(hn:n≠0):cu (eV l) n (eV l).length=cu l n l.length:=by
 rw[fz hl];unfold cu;simp only[mE];rw[show 320=l.length+(320-l.length)from by omega,List.range_add,List.filter_append]
 conv=>rhs;rw[<-VS (List.filter _ _)]
 congr 1
 rw[List.filter_eq_nil_iff];intro i hi;obtain⟨j,_,rfl⟩:=List.mem_map.1 hi;rw[UZ,VF om];simp;intro q;exact hn (by rw[<-q];rfl)
theorem FQ {l:Z1}(hl:l.length<=320)(n:Nat):aa (eV l) n=aa l n:=by
 rw[gR,gR];unfold sq
 split
 ·rfl
 ·next q=>rw[uZ hl q]
theorem rc {l:Z1}(hl:l.length<=320):∀n,aJ (eV l) n=aJ l n
 |0=>rfl
 |n+1=>by
  rw[aJ,aJ,rc hl n]
  split
  ·rfl
  ·next q=>rw[uZ hl q]
theorem AU {l:Z1}(hl:l.length<=320):af (eV l)=af l:=by rw[dE,dE,rc hl]
theorem rf (n:Nat):aW (Vk n 0)=0∧bg (Vk n 0)=0:=by
 induction n with
 |zero=>exact⟨rfl,rfl⟩
 |succ n ih=>rw[List.replicate_succ,aW,bg,ih.1,ih.2];exact⟨rfl,rfl⟩
theorem CB {l:Z1}{m:Nat}(hm:m<=15)(h:aG l m=0):aG (eV l) 15=0:=by
 have h0:=dD h;rw[iR]at *;unfold sn at *;have e1:aW (eV l)=aW l:=by unfold eV;rw[qV,(rf _).1];rfl
 have e2:bg (eV l)=bg l:=by unfold eV;rw[qW,(rf _).2];rfl
 have e3:dn (eV l) 15=false:=lr λ i _=>by
  rw[mE];rcases VL i l.length with z|z
  ·have:=dN h0.2.1 z;omega
  ·rw[UZ,VF z];exact VI _
 rw[fz h0.1,e1,e2,e3,ZE om,ZE (by decide)];rw[ZE om,ZE (by rw[h0.2.1];decide)]at h;exact h
theorem iV {l:Z1}{m:Nat}(hm:m<=15)(h:aG l m=0):aG l 15=0∧dn l 15=false:=by
 have h0:=dD h;have e3:dn l 15=false:=lr λ i z=>by have:=dN h0.2.1 z;omega
 refine⟨?_,e3⟩;rw[iR]at *;unfold sn at *;rw[e3,ZE om,ZE (by decide)];rw[ZE om,ZE (by rw[h0.2.1];decide)]at h;exact h
theorem CC {l:Z1}:∀x∈af l,x<l.length:=by
 rw[dE];have:∀n,∀x∈aJ l n,x<l.length:=λ n=>by
  induction n with
  |zero=>intro x hx;cases hx
  |succ n ih=>
   intro x hx;rw[aJ,Zh]at hx;rcases hx with q|q
   ·exact ih x q
   ·split at q
    ·cases q
    ·exact(fy.1 q).1
 exact this 16
theorem CD (v:Nat->Nat)(n:Nat)(L:List Nat):(L.filter λ i=>decide (0<v i∧v i<n+1)).length=(L.filter λ i=>decide (0<v i∧v i<n)).length+(if n=0 then 0 else(L.filter λ i=>decide (v i=n)).length):=by
 induction L with
 |nil=>simp
 |cons x r ih=>
  simp only[List.filter_cons]
  by_cases h1:0<v x∧v x<n
  ·rw[ZF (decide_eq_true (show 0<v x∧v x<n+1 by omega)),ZF (decide_eq_true h1),ZE (show¬decide (v x=n)=true from by simp;omega),VE,VE,ih]
   omega
  ·rw[ZE (show¬decide (0<v x∧v x<n)=true from by simpa using h1)]
   by_cases h2:0<v x∧v x=n
   ·rw[ZF (decide_eq_true (show 0<v x∧v x<n+1 by omega)),ZF (decide_eq_true h2.2),VE,VE,ih,ZE om,ZE om]
    omega
   ·rw[ZE (show¬decide (0<v x∧v x<n+1)=true from by simp;omega),ih]
    by_cases h3:n=0
    ·rw[ZF h3,ZF h3]
    ·rw[ZE h3,ZE h3,ZE (show¬decide (v x=n)=true from by simp;omega)]
theorem kR (l:Z1):∀n,(aJ l n).length=((Wa l.length).filter λ i=>decide (0<(l.getD i mq).toNat∧(l.getD i mq).toNat<n)).length
 |0=>by rw[List.filter_eq_nil_iff.2 (λ i _=>by simp)];rfl
 |n+1=>by
  rw[CD (λ i=>(l.getD i mq).toNat) n,<-kR l n,aJ,U2]
  split
  ·rfl
  ·rfl
theorem bU (l:Z1):(af l).length<=l.length:=by
 rw[dE,kR];exact Vq (List.length_filter_le _ _) (by simp)
theorem K0 (f:Nat->Nat)(n:Nat)(h:n<16):(dZ f)[n*1]? =some (nD (f n)):=by rw[VG];exact Ky f n h
theorem lw {l:Z1}{a:Nat}(h:a=0):aa l a=0:=by rw[h];exact yJ l
theorem yK {l:Z1}{a:Nat}(h:a<=15):Vl false (aa l a) 1 (VX (aa l a*1) ((aV l a).map nD))=Vl false (aa l a) 1 ((co l a).map nD):=by
 rw[VG,<-Yf,q9 h]
theorem yL {l:Z1}{a:Nat}(h:a<=15):Vl false ((aV l a).length-aa l a) 1 (VW (aa l a*1) ((aV l a).map nD))=Vl false (aV l (a+1)).length 1 ((aV l (a+1)).map nD):=by
 rw[VG,<-ZT,ra h,(eb h).2]
theorem sF {l:Z1}{a k:Nat}(hl:l.length<=320)(h:k<aa l a):(co l a).getD (k*1) mq<l.length∧((cr l a k).getD ((co l a).getD (k*1) mq) mq).toNat=0∧((cr l a k).getD (0+(co l a).getD (k*1) mq*1) mq).toNat=0:=by
 rw[VG,VG,VK];have h':k<(co l a).length:=by rw[bT];exact h
 have h1:=sE h';rw[AR hl h'];exact⟨h1.1,rfl,rfl⟩
theorem aX (l:Z1)(a:Nat):aa l a<=l.length:=by
 rw[gR];unfold sq;split
 ·exact VI _
 ·exact ke _ _ _
theorem CE (l:Z1):(cr l 0 0).map dB=Vk 320 (fP 0):=by
 rw[XY];refine⟨by rw[Vj,ek],λ d hd=>?_⟩;obtain⟨x,hx,rfl⟩:=List.mem_map.1 hd;rw[jC]at hx;obtain⟨i,_,rfl⟩:=List.mem_map.1 hx;unfold fJ;rw[ZE (by simp)];rfl
theorem CG (l:Z1)(m:Nat)(hm:m<=15)(h:aG l m=0):S0 157 [.sl false 320 1 ((eV l).map dB),nD 15] [] (.tup [.agg (dZ (aa l)++[.ref 0 0 0 (af l).length 1]),iD 0]) [⟨(af l).map nD, 3,true⟩]:=by
 have h0:=dD h;have h2:=yI (eV l) 320 (fz h0.1).symm (by decide) 15 (by decide) (CB hm h);rw[AU h0.1,show aa (eV l)=aa l from funext λ n=>FQ h0.1 n]at h2;exact h2
theorem wR (l:Z1)(q p:Nat)(hq:q=(af l).length)(hp:p=(af l).length)(hQ:q<=320):S0 195 [yx q l,yx p l] [] (bD true) []:=by
 refine SpecH.run T_ok ah Tryz.func195 rfl rfl rfl trivial rfl 1000 64 (λ R ok=>(.s 23 (.t ((↑(aa l 0):Int)==(↑(aa l 0):Int)&&((↑(aa l 1):Int)==(↑(aa l 1):Int)&&((↑(aa l 2):Int)==(↑(aa l 2):Int)&&((↑(aa l 3):Int)==(↑(aa l 3):Int)&&((↑(aa l 4):Int)==(↑(aa l 4):Int)&&((↑(aa l 5):Int)==(↑(aa l 5):Int)&&((↑(aa l 6):Int)==(↑(aa l 6):Int)&&((↑(aa l 7):Int)==(↑(aa l 7):Int)&&((↑(aa l 8):Int)==(↑(aa l 8):Int)&&((↑(aa l 9):Int)==(↑(aa l 9):Int)&&((↑(aa l 10):Int)==(↑(aa l 10):Int)&&((↑(aa l 11):Int)==(↑(aa l 11):Int)&&((↑(aa l 12):Int)==(↑(aa l 12):Int)&&((↑(aa l 13):Int)==(↑(aa l 13):Int)&&((↑(aa l 14):Int)==(↑(aa l 14):Int)&&((↑(aa l 15):Int)==(↑(aa l 15):Int)&&true)))))))))))))))) FM (.s 24 (.f ((q:Int) !=(p:Int)) (by(simp <;>(omega))) (.s 3 (Hn.inl T_ok ah false 26 112 (aq Tryz.prog 199 0) (λ(x:(i:Nat)×'(hi:i<=q)×'Unit)=>match x with|⟨i,hi,_⟩=>Vn [(0,Vl false q 1 (map nD (af l))),(1,Vl false p 1 (map nD (af l))),(12,zN q),(13,nD i)] [⟨0,0,0,0,.b ⟨[zN (aa l 0),zN (aa l 1),zN (aa l 2),zN (aa l 3),zN (aa l 4),zN (aa l 5),zN (aa l 6),zN (aa l 7),zN (aa l 8),zN (aa l 9),zN (aa l 10),zN (aa l 11),zN (aa l 12),zN (aa l 13),zN (aa l 14),zN (aa l 15),Vl false q 1 (map nD (af l))],154,false⟩⟩,⟨8,8,8,8,.b ⟨[zN (aa l 0),zN (aa l 1),zN (aa l 2),zN (aa l 3),zN (aa l 4),zN (aa l 5),zN (aa l 6),zN (aa l 7),zN (aa l 8),zN (aa l 9),zN (aa l 10),zN (aa l 11),zN (aa l 12),zN (aa l 13),zN (aa l 14),zN (aa l 15),Vl false p 1 (map nD (af l))],154,false⟩⟩] 128) (λ(x:(i:Nat)×'(hi:i<=q)×'Unit)=>match x with|⟨i,hi,_⟩=>q-i) [⟨Unit,.exit 0,λ x=>match x with|()=>Vn [(0,Vl false q 1 (map nD (af l))),(1,Vl false p 1 (map nD (af l))),(12,zN q)] [⟨0,0,0,0,.b ⟨[zN (aa l 0),zN (aa l 1),zN (aa l 2),zN (aa l 3),zN (aa l 4),zN (aa l 5),zN (aa l 6),zN (aa l 7),zN (aa l 8),zN (aa l 9),zN (aa l 10),zN (aa l 11),zN (aa l 12),zN (aa l 13),zN (aa l 14),zN (aa l 15),Vl false q 1 (map nD (af l))],154,false⟩⟩,⟨8,8,8,8,.b ⟨[zN (aa l 0),zN (aa l 1),zN (aa l 2),zN (aa l 3),zN (aa l 4),zN (aa l 5),zN (aa l 6),zN (aa l 7),zN (aa l 8),zN (aa l 9),zN (aa l 10),zN (aa l 11),zN (aa l 12),zN (aa l 13),zN (aa l 14),zN (aa l 15),Vl false p 1 (map nD (af l))],154,false⟩⟩] 128⟩] 1000 64 (fun|⟨i,hi,_⟩,Q,ZA,ZD=>(.s 2 (.bd ((i:Int)<q) (λ p0 Z7=>(.s 6 (.chk (true&&decide ((i:Int)<q)&&true) FM (.s 2 (.opt ((map nD (af l))[i*1]?) (nD (getD (af l) (i*1) mq)) (av _ _ om) (.s 3 (.chk (true&&decide ((i:Int)<p)&&true) FM (.s 2 (.opt ((map nD (af l))[i*1]?) (nD (getD (af l) (i*1) mq)) (av _ _ om) (.s 2 (.f ((↑(getD (af l) (i*1) mq):Int) !=(↑(getD (af l) (i*1) mq):Int)) (by(simp;done)) (.s 2 (.ow (i+1) (.s 1 (.val 13 (zI (i+1)) (zN (i+1)) (by(refine aR ?_;(omega))) (Hn.next ZA ⟨(i+1),om,⟨⟩⟩ (by show q-(i+1)<q-i;clear ZA ZD;omega) [(0,0),(8,8)] ro)))))))))))))))) (λ p0 Z7=>(Hn.last ZD 0 (():Unit) rfl [(0,0),(8,8)] ro))))) (fun|⟨i,hi,_⟩=>by kernel_rfl) ⟨(0),om,⟨⟩⟩ [(0,0),(8,8)] ro (ck (fun|()=>(.s 3 (.out [] [] (D.v (.bool true)) [] R (ok _ _ wr wr)))))))))))) kr
theorem ON (l:Z1)(m:Nat)(hm:m<=15)(h:aG l m=0)(q:Nat)(hq:q=(af l).length):S0 182 [yx q l] [] (iD 0) []:=by
 have h0:=dD h;have h1:=iV hm h;have hQ:=bU l;have hp:=fz h0.1;refine SpecH.run T_ok ah Tryz.func182 rfl rfl rfl trivial rfl 1000 64 (λ R ok=>(.s 12 (.f (decide (320<(q:Int))) (by(refine decide_eq_false ?_;(omega))) (.s 18 (.val 4 (Vl false q 1 (map nD (af l))) (Vl false (length (aV l 0)) 1 (map nD (aV l 0))) (by(rw[KZ,hq])) (.blk 48 48 (U1 (replicate 320 (bI 0)) 5 true) (U1 (map dB (cr l 0 0)) 5 true) (by(rw[CE];rfl)) (Hn.inl T_ok ah false 91 0 (aq Tryz.prog 182 0) (λ(x:(a:Nat)×'(ha:a<=16)×'Unit)=>match x with|⟨a,ha,_⟩=>Vn [(1,Vh 0 0 0),(3,U6 8 8 0 320 1),(4,.sl false (aV l a).length 1 ((aV l a).map nD)),(19,Wp [zN (aa l 0),zN (aa l 1),zN (aa l 2),zN (aa l 3),zN (aa l 4),zN (aa l 5),zN (aa l 6),zN (aa l 7),zN (aa l 8),zN (aa l 9),zN (aa l 10),zN (aa l 11),zN (aa l 12),zN (aa l 13),zN (aa l 14),zN (aa l 15)]),(20,nD a)] [⟨0,0,0,0,.b ⟨[zN (aa l 0),zN (aa l 1),zN (aa l 2),zN (aa l 3),zN (aa l 4),zN (aa l 5),zN (aa l 6),zN (aa l 7),zN (aa l 8),zN (aa l 9),zN (aa l 10),zN (aa l 11),zN (aa l 12),zN (aa l 13),zN (aa l 14),zN (aa l 15),Vl false q 1 (map nD (af l))],154,false⟩⟩,⟨8,8,48,48,.b ⟨(cr l a 0).map dB,5,true⟩⟩] 16) (λ(x:(a:Nat)×'(ha:a<=16)×'Unit)=>match x with|⟨a,ha,_⟩=>16-a) [⟨Unit,.exit 0,λ x=>match x with|()=>Vn [(1,Vh 0 0 0),(3,U6 8 8 0 320 1),(4,.sl false 0 1 []),(19,Wp [zN (aa l 0),zN (aa l 1),zN (aa l 2),zN (aa l 3),zN (aa l 4),zN (aa l 5),zN (aa l 6),zN (aa l 7),zN (aa l 8),zN (aa l 9),zN (aa l 10),zN (aa l 11),zN (aa l 12),zN (aa l 13),zN (aa l 14),zN (aa l 15)])] [⟨0,0,0,0,.b ⟨[zN (aa l 0),zN (aa l 1),zN (aa l 2),zN (aa l 3),zN (aa l 4),zN (aa l 5),zN (aa l 6),zN (aa l 7),zN (aa l 8),zN (aa l 9),zN (aa l 10),zN (aa l 11),zN (aa l 12),zN (aa l 13),zN (aa l 14),zN (aa l 15),Vl false q 1 (map nD (af l))],154,false⟩⟩,⟨8,8,48,48,.b ⟨(eV l).map dB,5,true⟩⟩] 16⟩] 1000 64 (fun|⟨a,ha,_⟩,Q,ZA,ZD=>(.s 2 (.bd ((a:Int)<16) (λ p0 Z7=>(.s 2 (.chk (true&&decide ((a:Int)<(↑16:Int))) aF (.opt ((dZ (aa l))[a*1]?) (nD (aa l a)) (@K0 (aa l) (a) om) (.s 18 (.f (decide ((↑(length (aV l a)):Int)<(↑(aa l a):Int))) KX (.s 6 (.br ((a:Int)==0) (λ p1=>have Z6:=eq_of_beq p1;(.s 6 (.f (decide (0<(↑(aa l a):Int))) KX (.s 3 (.chk (aU none (some (↑(aa l a):Int)) none (length (aV l a))&&true) FN (.s 2 (.val 42 (Vl false (aa l a) 1 (take (aa l a*1) (map nD (aV l a)))) (Vl false (aa l a) 1 (map nD (co l a))) (by(exact yK (by(omega)))) (Hn.inl T_ok ah false 91 0 (aq Tryz.prog 182 1) (λ(x:(k:Nat)×'(hk:k<=aa l a)×'Unit)=>match x with|⟨k,hk,_⟩=>Vn [(1,Vh 0 0 0),(3,U6 8 8 0 320 1),(4,Vl false (length (aV l a)) 1 (map nD (aV l a))),(5,zN a),(6,zN (aa l a)),(19,Wp [zN (aa l 0),zN (aa l 1),zN (aa l 2),zN (aa l 3),zN (aa l 4),zN (aa l 5),zN (aa l 6),zN (aa l 7),zN (aa l 8),zN (aa l 9),zN (aa l 10),zN (aa l 11),zN (aa l 12),zN (aa l 13),zN (aa l 14),zN (aa l 15)]),(20,zN a),(27,zN (aa l a)),(28,Vl false (length (aV l a)) 1 (map nD (aV l a))),(29,zN (length (aV l a))),(30,D.v (.bool (decide ((↑(length (aV l a)):Int)<(↑(aa l a):Int))))),(33,zN a),(34,D.v (.bool ((a:Int)==0))),(35,D.v (.bool true)),(36,zN (aa l a)),(37,D.v (.bool (decide (0<(↑(aa l a):Int))))),(38,D.v (.bool (decide (0<(↑(aa l a):Int))))),(42,.sl false (aa l a) 1 ((co l a).map nD)),(43,zN (aa l a)),(44,nD k)] [⟨0,0,0,0,.b ⟨[zN (aa l 0),zN (aa l 1),zN (aa l 2),zN (aa l 3),zN (aa l 4),zN (aa l 5),zN (aa l 6),zN (aa l 7),zN (aa l 8),zN (aa l 9),zN (aa l 10),zN (aa l 11),zN (aa l 12),zN (aa l 13),zN (aa l 14),zN (aa l 15),Vl false q 1 (map nD (af l))],154,false⟩⟩,⟨8,8,8,8,.b ⟨(cr l a k).map dB,5,true⟩⟩] 16) (λ(x:(k:Nat)×'(hk:k<=aa l a)×'Unit)=>match x with|⟨k,hk,_⟩=>aa l a-k) [⟨Unit,.exit 2,λ x=>match x with|()=>Vn [(1,Vh 0 0 0),(3,U6 8 8 0 320 1),(4,Vl false (length (aV l a)) 1 (map nD (aV l a))),(5,zN a),(6,zN (aa l a)),(19,Wp [zN (aa l 0),zN (aa l 1),zN (aa l 2),zN (aa l 3),zN (aa l 4),zN (aa l 5),zN (aa l 6),zN (aa l 7),zN (aa l 8),zN (aa l 9),zN (aa l 10),zN (aa l 11),zN (aa l 12),zN (aa l 13),zN (aa l 14),zN (aa l 15)]),(20,zN a),(27,zN (aa l a)),(28,Vl false (length (aV l a)) 1 (map nD (aV l a))),(29,zN (length (aV l a))),(30,D.v (.bool (decide ((↑(length (aV l a)):Int)<(↑(aa l a):Int))))),(33,zN a),(34,D.v (.bool ((a:Int)==0))),(35,D.v (.bool true)),(36,zN (aa l a)),(37,D.v (.bool (decide (0<(↑(aa l a):Int))))),(38,D.v (.bool (decide (0<(↑(aa l a):Int))))),(43,zN (aa l a))] [⟨0,0,0,0,.b ⟨[zN (aa l 0),zN (aa l 1),zN (aa l 2),zN (aa l 3),zN (aa l 4),zN (aa l 5),zN (aa l 6),zN (aa l 7),zN (aa l 8),zN (aa l 9),zN (aa l 10),zN (aa l 11),zN (aa l 12),zN (aa l 13),zN (aa l 14),zN (aa l 15),Vl false q 1 (map nD (af l))],154,false⟩⟩,⟨8,8,8,8,.b ⟨(cr l (a+1) 0).map dB,5,true⟩⟩] 16⟩] 1000 64 (fun|⟨k,hk,_⟩,Q,Z9,ZC=>(.s 2 (.f (decide ((k:Int)<(↑(aa l a):Int))) KX (.blk 8 8 (U1 (map dB (cr l a k)) 5 true) (U1 (map dB (cr l (a+1) 0)) 5 true) (by(have h9:=(eb (l:=l) (a:=a) om).1;have h8:=lw (l:=l) (a:=a);have h4:=aX l a;rw[show k=aa l a from by omega,uY])) (Hn.last ZC 0 (():Unit) rfl [(0,0),(8,8)] ro))))) (fun|⟨k,hk,_⟩=>by kernel_rfl) ⟨(0),om,⟨⟩⟩ [(0,0),(8,8)] ro (ck (fun|()=>(.s 3 (.chk (aU (some (↑(aa l a):Int)) none none (length (aV l a))&&true) FN (.s 3 (.ow (a+1) (.s 1 (.val 4 (Vl false (length (aV l a)-aa l a) 1 (drop (aa l a*1) (map nD (aV l a)))) (Vl false (length (aV l (a+1))) 1 (map nD (aV l (a+1)))) (by(exact yL (by(omega)))) (.val 20 (zI (a+1)) (zN (a+1)) Cy (Hn.next ZA ⟨(a+1),om,⟨⟩⟩ KY [(0,0),(8,8)] ro)))))))))))))))))) (λ p1=>have Z6:=ap p1;(.s 9 (.chk (aU none (some (↑(aa l a):Int)) none (length (aV l a))&&true) FN (.s 2 (.val 42 (Vl false (aa l a) 1 (take (aa l a*1) (map nD (aV l a)))) (Vl false (aa l a) 1 (map nD (co l a))) (by(exact yK (by(omega)))) (Hn.inl T_ok ah false 91 0 (aq Tryz.prog 182 1) (λ(x:(k:Nat)×'(hk:k<=aa l a)×'Unit)=>match x with|⟨k,hk,_⟩=>Vn [(1,Vh 0 0 0),(3,U6 8 8 0 320 1),(4,Vl false (length (aV l a)) 1 (map nD (aV l a))),(5,zN a),(6,zN (aa l a)),(19,Wp [zN (aa l 0),zN (aa l 1),zN (aa l 2),zN (aa l 3),zN (aa l 4),zN (aa l 5),zN (aa l 6),zN (aa l 7),zN (aa l 8),zN (aa l 9),zN (aa l 10),zN (aa l 11),zN (aa l 12),zN (aa l 13),zN (aa l 14),zN (aa l 15)]),(20,zN a),(27,zN (aa l a)),(28,Vl false (length (aV l a)) 1 (map nD (aV l a))),(29,zN (length (aV l a))),(30,D.v (.bool (decide ((↑(length (aV l a)):Int)<(↑(aa l a):Int))))),(33,zN a),(34,D.v (.bool ((a:Int)==0))),(35,D.v (.bool false)),(36,V2 []),(37,V2 []),(38,D.v (.bool false)),(42,.sl false (aa l a) 1 ((co l a).map nD)),(43,zN (aa l a)),(44,nD k)] [⟨0,0,0,0,.b ⟨[zN (aa l 0),zN (aa l 1),zN (aa l 2),zN (aa l 3),zN (aa l 4),zN (aa l 5),zN (aa l 6),zN (aa l 7),zN (aa l 8),zN (aa l 9),zN (aa l 10),zN (aa l 11),zN (aa l 12),zN (aa l 13),zN (aa l 14),zN (aa l 15),Vl false q 1 (map nD (af l))],154,false⟩⟩,⟨8,8,8,8,.b ⟨(cr l a k).map dB,5,true⟩⟩] 16) (λ(x:(k:Nat)×'(hk:k<=aa l a)×'Unit)=>match x with|⟨k,hk,_⟩=>aa l a-k) [⟨Unit,.exit 2,λ x=>match x with|()=>Vn [(1,Vh 0 0 0),(3,U6 8 8 0 320 1),(4,Vl false (length (aV l a)) 1 (map nD (aV l a))),(5,zN a),(6,zN (aa l a)),(19,Wp [zN (aa l 0),zN (aa l 1),zN (aa l 2),zN (aa l 3),zN (aa l 4),zN (aa l 5),zN (aa l 6),zN (aa l 7),zN (aa l 8),zN (aa l 9),zN (aa l 10),zN (aa l 11),zN (aa l 12),zN (aa l 13),zN (aa l 14),zN (aa l 15)]),(20,zN a),(27,zN (aa l a)),(28,Vl false (length (aV l a)) 1 (map nD (aV l a))),(29,zN (length (aV l a))),(30,D.v (.bool (decide ((↑(length (aV l a)):Int)<(↑(aa l a):Int))))),(33,zN a),(34,D.v (.bool ((a:Int)==0))),(35,D.v (.bool false)),(36,V2 []),(37,V2 []),(38,D.v (.bool false)),(43,zN (aa l a))] [⟨0,0,0,0,.b ⟨[zN (aa l 0),zN (aa l 1),zN (aa l 2),zN (aa l 3),zN (aa l 4),zN (aa l 5),zN (aa l 6),zN (aa l 7),zN (aa l 8),zN (aa l 9),zN (aa l 10),zN (aa l 11),zN (aa l 12),zN (aa l 13),zN (aa l 14),zN (aa l 15),Vl false q 1 (map nD (af l))],154,false⟩⟩,⟨8,8,8,8,.b ⟨(cr l (a+1) 0).map dB,5,true⟩⟩] 16⟩] 1000 64 (fun|⟨k,hk,_⟩,Q,Z9,ZC=>(.s 2 (.bd ((k:Int)<(↑(aa l a):Int)) (λ p2 Z5=>(.s 1 (.chk (true&&decide ((k:Int)<(↑(aa l a):Int))&&true) FM (.s 2 (.opt ((map nD (co l a))[k*1]?) (nD (getD (co l a) (k*1) mq)) (av _ _ (by(have h9:=(eb (l:=l) (a:=a) om).1;have h8:=lw (l:=l) (a:=a);have h4:=aX l a;have h6:=ek l a k;have h5:=bT l a;omega))) (.s 17 (.f (decide ((↑320:Int)<=(↑(getD (co l a) (k*1) mq):Int))) OL (.s 4 (.chk (true&&decide ((↑(getD (co l a) (k*1) mq):Int)<(↑320:Int))) OM (.s 3 (.opt ((map dB (cr l a k))[0+getD (co l a) (k*1) mq*1]?) (dB (getD (cr l a k) (0+getD (co l a) (k*1) mq*1) mq)) (av _ _ (by(have h9:=(eb (l:=l) (a:=a) om).1;have h8:=lw (l:=l) (a:=a);have h4:=aX l a;have h7:=sF (l:=l) (a:=a) (k:=k) om om;have h6:=ek l a k;have h5:=bT l a;omega))) (.s 4 (.f (decide (0<(↑(U3 (getD (cr l a k) (0+getD (co l a) (k*1) mq*1) mq)):Int))) OL (.s 4 (.opt (ax .u8 (a:Int)) (bl a) (b4 om) (.s 1 (.chk (true&&decide ((↑(getD (co l a) (k*1) mq):Int)<(↑320:Int))) OM (.s 1 (.chk (true&&U7 (0+getD (co l a) (k*1) mq*1+1) (length (map dB (cr l a k)))) (by(simp only[VM,Vj,ek];refine U8 ?_;have h9:=(eb (l:=l) (a:=a) om).1;have h8:=lw (l:=l) (a:=a);have h4:=aX l a;have h7:=sF (l:=l) (a:=a) (k:=k) om om;have h6:=ek l a k;have h5:=bT l a;omega)) (.lst (ai (map dB (cr l a k)) (0+getD (co l a) (k*1) mq*1) [bl a]) (ai (map dB (cr l a k)) (getD (co l a) k mq) [bl a]) Cy (.s 2 (.op (k+1) (by(have h9:=(eb (l:=l) (a:=a) om).1;have h8:=lw (l:=l) (a:=a);have h4:=aX l a;omega)) (.s 1 (.val 44 (zI (k+1)) (zN (k+1)) Cy (.blk 8 8 (U1 (ai (map dB (cr l a k)) (getD (co l a) k mq) [bl a]) 5 true) (U1 (map dB (cr l a (k+1))) 5 true) (by(refine aB (AT (by(omega)) (by rw[bT];(omega)) (by simp only[VG,VK]) ?_);first|rfl|(first|rfl|(refine congrArg _ (congrArg _ ?_);omega)))) (Hn.next Z9 ⟨(k+1),om,⟨⟩⟩ (by show aa l a-(k+1)<aa l a-k;clear Z9 ZC ZA ZD;omega) [(0,0),(8,8)] ro)))))))))))))))))))))))))) (λ p2 Z5=>(.blk 8 8 (U1 (map dB (cr l a k)) 5 true) (U1 (map dB (cr l (a+1) 0)) 5 true) (by(rw[show k=aa l a from by(omega),uY])) (Hn.last ZC 0 (():Unit) rfl [(0,0),(8,8)] ro)))))) (fun|⟨k,hk,_⟩=>by kernel_rfl) ⟨(0),om,⟨⟩⟩ [(0,0),(8,8)] ro (ck (fun|()=>(.s 3 (.chk (aU (some (↑(aa l a):Int)) none none (length (aV l a))&&true) FN (.s 3 (.ow (a+1) (.s 1 (.val 4 (Vl false (length (aV l a)-aa l a) 1 (drop (aa l a*1) (map nD (aV l a)))) (Vl false (length (aV l (a+1))) 1 (map nD (aV l (a+1)))) (by(exact yL (by(omega)))) (.val 20 (zI (a+1)) (zN (a+1)) Cy (Hn.next ZA ⟨(a+1),om,⟨⟩⟩ KY [(0,0),(8,8)] ro)))))))))))))))))))))))) (λ p0 Z7=>(.val 4 (Vl false (length (aV l a)) 1 (map nD (aV l a))) (Vl false 0 1 []) (by(rw[show a=16 from by(omega),FP];rfl)) (.blk 8 8 (U1 (map dB (cr l a 0)) 5 true) (U1 (map dB (eV l)) 5 true) (by(rw[show a=16 from by(omega),CA (by(omega)) h1.2])) (Hn.last ZD 0 (():Unit) rfl [(0,0),(8,8)] ro))))))) (fun|⟨a,ha,_⟩=>by kernel_rfl) ⟨(0),om,⟨⟩⟩ [(0,0),(48,48)] ro (ck (fun|()=>(.s 2 (.call 157 false [] (true&&(true&&U7 320 (length (map dB (eV l)))&&true&&ab (bif true&&U5 320 (length (map dB (eV l)))then map dB (eV l)else take 320 (drop 0 (map dB (eV l)))))&&true) (by(simp <;>(omega))) ([Vl true 320 1 (bif true&&U5 320 (length (map dB (eV l)))then map dB (eV l)else take 320 (drop 0 (map dB (eV l)))),zI 15]) _ (by exact(VR (D.sim.slw rfl (bW (by(simp <;>(omega)))|>.trans rfl)) (qr trivial))) (true) wr _ _ _ (VC (az.of Tryz.func157 rfl rfl) (@CG (l) (m) aF om)) (.s 36 (.call 195 false [] (true&&(true&&(true&&(true&&(true&&(true&&(true&&(true&&(true&&(true&&(true&&(true&&(true&&(true&&(true&&(true&&(true&&(true&&U7 (0+length (af l)*1) (length (map nD (af l)))&&true&&ab (bif true&&U5 (length (af l)*1) (length (map nD (af l)))then map nD (af l)else take (length (af l)*1) (drop 0 (map nD (af l)))))&&true))))))))))))))))&&true) Cy ([Wp [zN (aa l 0),zN (aa l 1),zN (aa l 2),zN (aa l 3),zN (aa l 4),zN (aa l 5),zN (aa l 6),zN (aa l 7),zN (aa l 8),zN (aa l 9),zN (aa l 10),zN (aa l 11),zN (aa l 12),zN (aa l 13),zN (aa l 14),zN (aa l 15),Vl (U7 1 (length (af l))) (length (af l)) 1 (bif true&&U5 (length (af l)*1) (length (map nD (af l)))then map nD (af l)else take (length (af l)*1) (drop 0 (map nD (af l))))],Wp [zN (aa l 0),zN (aa l 1),zN (aa l 2),zN (aa l 3),zN (aa l 4),zN (aa l 5),zN (aa l 6),zN (aa l 7),zN (aa l 8),zN (aa l 9),zN (aa l 10),zN (aa l 11),zN (aa l 12),zN (aa l 13),zN (aa l 14),zN (aa l 15),Vl false q 1 (map nD (af l))]]) _ (by exact(VR (D.sim.agg (qr (qr (qr (qr (qr (qr (qr (qr (qr (qr (qr (qr (qr (qr (qr (qr (VR (D.sim.slw rfl (bW (by(simp[lq,ka];done))|>.trans rfl)) trivial)))))))))))))))))) (qr trivial))) (true) wr _ _ _ (VC (az.of Tryz.func195 rfl rfl) (@wR (l) (length (af l)) (q) om om om)) (.s 5 (.out [] [] (zI 0) [] R (ok _ _ wr wr)))))))))))))))) kr
def pd (b l:Z1):Nat->Nat->Nat->Nat->Nat×Nat×Nat
 |0,_,_,_=>(0,0,50)
 |k+1,a,d,p=>if(aJ l a).length+aa l a=(af l).length then(0,0,50)else if kV b p 1≠0 then(0,0,10)else
  if 2*(d-aa l a)+gG b p 1<aa l (a+1)then((af l).getD ((aJ l a).length+aa l a+(2*(d-aa l a)+gG b p 1)) mq,p+1,0)
  else pd b l k (a+1) (2*(d-aa l a)+gG b p 1) (p+1)
def fZ (b l:Z1)(p:Nat):Nat×Nat×Nat:=lk b (pd b l 16 0 0 p)
theorem sG (b l:Z1)(p:Nat):fZ b l p=pd b l 16 0 0 p:=au _ _
theorem K1 {b l:Z1}{a d p:Nat}(ha:a<=15)(h:(aJ l a).length+aa l a=(af l).length):pd b l (16-a) a d p=(0,0,50):=by
 rw[show 16-a=(15-a)+1 from by omega,pd,ZF h]
theorem K3 {b l:Z1}{a d p:Nat}(ha:a<=15)(h:¬(aJ l a).length+aa l a=(af l).length)(h2:kV b p 1≠0):pd b l (16-a) a d p=(0,0,10):=by
 rw[show 16-a=(15-a)+1 from by omega,pd,ZE h,ZF h2]
theorem FR {b l:Z1}{a d p:Nat}(ha:a<=15)(h:¬(aJ l a).length+aa l a=(af l).length)(h2:kV b p 1=0)(h3:2*(d-aa l a)+gG b p 1<aa l (a+1)):pd b l (16-a) a d p=((af l).getD ((aJ l a).length+aa l a+(2*(d-aa l a)+gG b p 1)) mq,p+1,0):=by
 rw[show 16-a=(15-a)+1 from by omega,pd,ZE h,ZE om,ZF h3]
theorem OO {b l:Z1}{a d p:Nat}(ha:a<=15)(h:¬(aJ l a).length+aa l a=(af l).length)(h2:kV b p 1=0)(h3:¬2*(d-aa l a)+gG b p 1<aa l (a+1)):pd b l (16-a) a d p=pd b l (16-(a+1)) (a+1) (2*(d-aa l a)+gG b p 1) (p+1):=by
 rw[show 16-a=(15-a)+1 from by omega,pd,ZE h,ZE om,ZE h3,show 15-a=16-(a+1)from by omega]
def UX (r:Nat×Nat×Nat):D:=.tup [nD r.1,nD r.2.1,nD r.2.2]
theorem bJ {l:Z1}{a:Nat}(h:a<=15):(aJ l a).length+aa l a<=(af l).length∧(aJ l (a+1)).length=(aJ l a).length+aa l a∧(a=15->(aJ l a).length+aa l a=(af l).length):=by
 have e:(aJ l (a+1)).length=(aJ l a).length+aa l a:=by rw[db,U2,bT]
 obtain⟨r,hr⟩:=jB (l:=l) h;have h2:=congrArg Ym hr;rw[U2,U2,bT]at h2;refine⟨by omega,e,λ q=>?_⟩;subst q;rw[dE,e]
theorem wS (f:Nat->Nat){r:List D}(n:Nat)(h:n<16):(dZ f++r)[0+n*1]? =some (nD (f n)):=by rw[VG,VK];exact yy f r n h
theorem K4 (f:Nat->Nat){r:List D}(a:Nat)(h:a+1<16):(dZ f++r)[0+AB ((a:Int)+1)*1]? =some (nD (f (a+1))):=by
 rw[show 0+AB ((a:Int)+1)*1=a+1 from by omega];exact yy f r (a+1) h
theorem sH {b l:Z1}{p x y z:Nat}(h:fZ b l p=(x,y,z)):nD x=nD (fZ b l p).1∧nD y=nD (fZ b l p).2.1∧nD z=nD (fZ b l p).2.2:=by rw[h];exact⟨rfl,rfl,rfl⟩
theorem SN {s:List Nat}{i j:Nat}(h:i=j):D.v (.int .i64 ((s.getD i mq:Nat):Int))=nD (s.getD j mq):=by rw[h]
theorem dU (b:Z1)(p:Nat):gG b p 1<2:=wI b p 1
theorem K5 (l:Z1)(m:Nat)(hm:m<=15)(h:aG l m=0)(q:Nat)(hq:q=(af l).length)(b:Z1)(n:Nat)(hn:n=b.length)(hN:n<=1000000)(p:Nat)(hp:p<=15000000):S0 159 [yx q l,.sl false n 1 (b.map dB),nD p] [] (UX (fZ b l p)) []:=by
 have h0:=dD h;have h1:=iV hm h;have hQ:=bU l;have hp:=fz h0.1;refine SpecH.run T_ok ah Tryz.func159 rfl rfl rfl trivial rfl 1000 64 (λ R ok=>(.s 10 (.call 182 false [] (true) wr ([Wp [zN (aa l 0),zN (aa l 1),zN (aa l 2),zN (aa l 3),zN (aa l 4),zN (aa l 5),zN (aa l 6),zN (aa l 7),zN (aa l 8),zN (aa l 9),zN (aa l 10),zN (aa l 11),zN (aa l 12),zN (aa l 13),zN (aa l 14),zN (aa l 15),Vl false q 1 (map nD (af l))]]) _ (by exact(qr trivial)) (true) wr _ _ _ (VC (az.of Tryz.func182 rfl rfl) (@ON (l) (m) aF om (q) om)) (.s 18 (Hn.inl T_ok ah false 47 0 (aq Tryz.prog 159 0) (λ(x:(a:Nat)×'(ha:a<=15)×'(d:Nat)×'(hd:aa l a<=d)×'(fi:Nat)×'(hb:fi+d+1<=2^a)×'(c:Nat)×'(hc:c<=p+a)×'(hR:pd b l (16-a) a d c=fZ b l p)×'Unit)=>match x with|⟨a,ha,d,hd,fi,hb,c,hc,hR,_⟩=>Vn [(1,Vl false n 1 (map dB b)),(2,nD c),(3,Vh 0 0 0),(10,Vh 8 8 0)] [⟨0,0,0,0,.b ⟨[zN (aa l 0),zN (aa l 1),zN (aa l 2),zN (aa l 3),zN (aa l 4),zN (aa l 5),zN (aa l 6),zN (aa l 7),zN (aa l 8),zN (aa l 9),zN (aa l 10),zN (aa l 11),zN (aa l 12),zN (aa l 13),zN (aa l 14),zN (aa l 15),Vl false q 1 (map nD (af l))],154,false⟩⟩,⟨8,8,104,104,.c ⟨dZ (aa l)++[.sl false q 1 ((af l).map nD),nD a,nD (fi+d),nD fi,nD (aJ l a).length],282,false⟩⟩] 16) (λ(x:(a:Nat)×'(ha:a<=15)×'(d:Nat)×'(hd:aa l a<=d)×'(fi:Nat)×'(hb:fi+d+1<=2^a)×'(c:Nat)×'(hc:c<=p+a)×'(hR:pd b l (16-a) a d c=fZ b l p)×'Unit)=>match x with|⟨a,ha,d,hd,fi,hb,c,hc,hR,_⟩=>16-a) [⟨Unit,.ret,λ x=>match x with|()=>Vn [(6,nD (fZ b l p).1),(7,nD (fZ b l p).2.1),(8,nD (fZ b l p).2.2)] [⟨0,0,0,0,.b ⟨[zN (aa l 0),zN (aa l 1),zN (aa l 2),zN (aa l 3),zN (aa l 4),zN (aa l 5),zN (aa l 6),zN (aa l 7),zN (aa l 8),zN (aa l 9),zN (aa l 10),zN (aa l 11),zN (aa l 12),zN (aa l 13),zN (aa l 14),zN (aa l 15),Vl false q 1 (map nD (af l))],154,false⟩⟩] 16⟩] 1000 64 (fun|⟨a,ha,d,hd,fi,hb,c,hc,hR,_⟩,Q,ZA,ZD=>(.s 30 (.chk (true&&decide ((a:Int)<(↑16:Int))) FO (.s 3 (.opt ((dZ (aa l)++[Vl false q 1 (map nD (af l)),zN a,zN (fi+d),zN fi,zN (length (aJ l a))])[0+a*1]?) (nD (aa l a)) (@wS (aa l) ([Vl false q 1 (map nD (af l)),zN a,zN (fi+d),zN fi,zN (length (aJ l a))]) (a) om) (.s 2 (.op ((↑(length (aJ l a)):Int)+(↑(aa l a):Int)) nw (.s 15 (.br ((↑(length (aJ l a)):Int)+(↑(aa l a):Int)==(q:Int)) (λ p0=>have Z7:=eq_of_beq p0;(.s 3 (.val 6 (zI 0) (zN (Va (fZ b l p))) (by(have h9:=bJ (l:=l) (a:=a) om;have h8:=dU b c;have h7:=aX l a;have h6:=aX l (a+1);have h5:=bU l;have h4:=V8 2 a;have h3:2^a<=2^15:=VD (by decide) om;exact(sH (hR.symm.trans (K1 om om))).1)) (.val 7 (zI 0) (zN (Va (U0 (fZ b l p)))) (by(have h9:=bJ (l:=l) (a:=a) om;have h8:=dU b c;have h7:=aX l a;have h6:=aX l (a+1);have h5:=bU l;have h4:=V8 2 a;have h3:2^a<=2^15:=VD (by decide) om;exact(sH (hR.symm.trans (K1 om om))).2.1)) (.val 8 (zI 50) (zN (U0 (U0 (fZ b l p)))) (by(have h9:=bJ (l:=l) (a:=a) om;have h8:=dU b c;have h7:=aX l a;have h6:=aX l (a+1);have h5:=bU l;have h4:=V8 2 a;have h3:2^a<=2^15:=VD (by decide) om;exact(sH (hR.symm.trans (K1 om om))).2.2)) (Hn.last ZD 0 (():Unit) rfl [(0,0)] ro)))))) (λ p0=>have Z7:=ap p0;(.s 3 (.cl 156 false [] (.fn N6 (@Co (b) (n) om om ((c:Int)) (1) om om)) (.s 10 (.br ((↑(kV b c 1):Int) !=0) (λ p1=>have Z6:=cS p1;(.s 3 (.val 6 (zI 0) (zN (Va (fZ b l p))) (by(have h9:=bJ (l:=l) (a:=a) om;have h8:=dU b c;have h7:=aX l a;have h6:=aX l (a+1);have h5:=bU l;have h4:=V8 2 a;have h3:2^a<=2^15:=VD (by decide) om;exact(sH (hR.symm.trans (K3 om om om))).1)) (.val 7 (zI 0) (zN (Va (U0 (fZ b l p)))) (by(have h9:=bJ (l:=l) (a:=a) om;have h8:=dU b c;have h7:=aX l a;have h6:=aX l (a+1);have h5:=bU l;have h4:=V8 2 a;have h3:2^a<=2^15:=VD (by decide) om;exact(sH (hR.symm.trans (K3 om om om))).2.1)) (.val 8 (zI 10) (zN (U0 (U0 (fZ b l p)))) (by(have h9:=bJ (l:=l) (a:=a) om;have h8:=dU b c;have h7:=aX l a;have h6:=aX l (a+1);have h5:=bU l;have h4:=V8 2 a;have h3:2^a<=2^15:=VD (by decide) om;exact(sH (hR.symm.trans (K3 om om om))).2.2)) (Hn.last ZD 0 (():Unit) rfl [(0,0)] ro)))))) (λ p1=>have Z6:=cT p1;(.s 3 (.ow (c+1) (.s 33 (.chk (true&&decide ((a:Int)<(↑16:Int))) FO (.s 3 (.opt ((dZ (aa l)++[Vl false q 1 (map nD (af l)),zN a,zN (fi+d),zN fi,zN (length (aJ l a))])[0+a*1]?) (nD (aa l a)) (@wS (aa l) ([Vl false q 1 (map nD (af l)),zN a,zN (fi+d),zN fi,zN (length (aJ l a))]) (a) om) (.s 2 (.op (fi+(↑(aa l a):Int)) nw (.s 2 (.op (((fi:Int)+(↑(aa l a):Int))*2) nw (.s 33 (.chk (true&&decide ((a:Int)<(↑16:Int))) FO (.s 3 (.opt ((dZ (aa l)++[Vl false q 1 (map nD (af l)),zN a,zN (fi+d),zI (((fi:Int)+(↑(aa l a):Int))*2),zN (length (aJ l a))])[0+a*1]?) (nD (aa l a)) (@wS (aa l) ([Vl false q 1 (map nD (af l)),zN a,zN (fi+d),zI (((fi:Int)+(↑(aa l a):Int))*2),zN (length (aJ l a))]) (a) om) (.s 2 (.op ((↑(length (aJ l a)):Int)+(↑(aa l a):Int)) nw (.s 18 (.op ((↑(fi+d):Int)*2) nw (.s 2 (.op (↑(gG b c 1):Int) nw (.s 2 (.op ((↑(fi+d):Int)*2+(↑(gG b c 1):Int)) nw (.s 17 (.ow (a+1) (.s 26 (.op ((↑(fi+d):Int)*2+(↑(gG b c 1):Int)-((fi:Int)+(↑(aa l a):Int))*2) nw (.s 20 (.chk (true&&decide ((a:Int)+1<(↑16:Int))) (by(refine decide_eq_true ?_;have h9:=bJ (l:=l) (a:=a) om;have h8:=dU b c;have h7:=aX l a;have h6:=aX l (a+1);have h5:=bU l;have h4:=V8 2 a;have h3:2^a<=2^15:=VD (by decide) om;omega)) (.s 3 (.opt ((dZ (aa l)++[Vl false q 1 (map nD (af l)),zI (a+1),zI ((↑(fi+d):Int)*2+(↑(gG b c 1):Int)),zI (((fi:Int)+(↑(aa l a):Int))*2),zI ((↑(length (aJ l a)):Int)+(↑(aa l a):Int))])[0+AB ((a:Int)+1)*1]?) (nD (aa l (a+1))) (@K4 (aa l) ([Vl false q 1 (map nD (af l)),zI (a+1),zI ((↑(fi+d):Int)*2+(↑(gG b c 1):Int)),zI (((fi:Int)+(↑(aa l a):Int))*2),zI ((↑(length (aJ l a)):Int)+(↑(aa l a):Int))]) (a) nw) (.s 2 (.bd ((↑(fi+d):Int)*2+(↑(gG b c 1):Int)-((fi:Int)+(↑(aa l a):Int))*2<(↑(aa l (a+1)):Int)) (λ p2 Z5=>(.s 11 (.op ((↑(length (aJ l a)):Int)+(↑(aa l a):Int)+((↑(fi+d):Int)*2+(↑(gG b c 1):Int)-((fi:Int)+(↑(aa l a):Int))*2)) nw (.s 5 (.t (decide (0<=(↑(length (aJ l a)):Int)+(↑(aa l a):Int)+((↑(fi+d):Int)*2+(↑(gG b c 1):Int)-((fi:Int)+(↑(aa l a):Int))*2))) FO (.s 8 (.chk (decide (0<=(↑(length (aJ l a)):Int)+(↑(aa l a):Int)+((↑(fi+d):Int)*2+(↑(gG b c 1):Int)-((fi:Int)+(↑(aa l a):Int))*2))&&decide ((↑(length (aJ l a)):Int)+(↑(aa l a):Int)+((↑(fi+d):Int)*2+(↑(gG b c 1):Int)-((fi:Int)+(↑(aa l a):Int))*2)<(q:Int))&&true) (by((refine aI ?_ ?_)<;>(repeat' (first|(refine aI ?_ ?_)|(with_reducible rfl)|(refine decide_eq_true ?_)|(refine U8 ?_)|(refine fw ?_)))<;>(have h9:=bJ (l:=l) (a:=a) om;have h8:=dU b c;have h7:=aX l a;have h6:=aX l (a+1);have h5:=bU l;have h4:=V8 2 a;have h3:2^a<=2^15:=VD (by decide) om;have h2:=bJ (l:=l) (a:=a+1) om;omega))) (.s 2 (.opt ((map nD (af l))[AB ((↑(length (aJ l a)):Int)+(↑(aa l a):Int)+((↑(fi+d):Int)*2+(↑(gG b c 1):Int)-((fi:Int)+(↑(aa l a):Int))*2))*1]?) (nD (getD (af l) (AB ((↑(length (aJ l a)):Int)+(↑(aa l a):Int)+((↑(fi+d):Int)*2+(↑(gG b c 1):Int)-((fi:Int)+(↑(aa l a):Int))*2))*1) mq)) (av _ _ (by(have h9:=bJ (l:=l) (a:=a) om;have h8:=dU b c;have h7:=aX l a;have h6:=aX l (a+1);have h5:=bU l;have h4:=V8 2 a;have h3:2^a<=2^15:=VD (by decide) om;have h2:=bJ (l:=l) (a:=a+1) om;omega))) (.s 4 (.val 6 (zN (getD (af l) (AB ((↑(length (aJ l a)):Int)+(↑(aa l a):Int)+((↑(fi+d):Int)*2+(↑(gG b c 1):Int)-((fi:Int)+(↑(aa l a):Int))*2))*1) mq)) (zN (Va (fZ b l p))) (by(have h9:=bJ (l:=l) (a:=a) om;have h8:=dU b c;have h7:=aX l a;have h6:=aX l (a+1);have h5:=bU l;have h4:=V8 2 a;have h3:2^a<=2^15:=VD (by decide) om;refine YV (SN (j:=(aJ l a).length+aa l a+(2*(d-aa l a)+gG b c 1)) ?_) (sH (hR.symm.trans (FR om om om om))).1;omega)) (.val 7 (zI (c+1)) (zN (Va (U0 (fZ b l p)))) (by(have h9:=bJ (l:=l) (a:=a) om;have h8:=dU b c;have h7:=aX l a;have h6:=aX l (a+1);have h5:=bU l;have h4:=V8 2 a;have h3:2^a<=2^15:=VD (by decide) om;exact(sH (hR.symm.trans (FR om om om om))).2.1)) (.val 8 (zI 0) (zN (U0 (U0 (fZ b l p)))) (by(have h9:=bJ (l:=l) (a:=a) om;have h8:=dU b c;have h7:=aX l a;have h6:=aX l (a+1);have h5:=bU l;have h4:=V8 2 a;have h3:2^a<=2^15:=VD (by decide) om;exact(sH (hR.symm.trans (FR om om om om))).2.2)) (Hn.last ZD 0 (():Unit) rfl [(0,0)] ro)))))))))))))) (λ p2 Z5=>(.s 6 (.val 2 (zI (c+1)) (zN (c+1)) (by(have h9:=bJ (l:=l) (a:=a) om;have h8:=dU b c;have h7:=aX l a;have h6:=aX l (a+1);have h5:=bU l;have h4:=V8 2 a;have h3:2^a<=2^15:=VD (by decide) om;refine aR ?_;omega)) (.blk 8 8 (U1 [zN (aa l 0),zN (aa l 1),zN (aa l 2),zN (aa l 3),zN (aa l 4),zN (aa l 5),zN (aa l 6),zN (aa l 7),zN (aa l 8),zN (aa l 9),zN (aa l 10),zN (aa l 11),zN (aa l 12),zN (aa l 13),zN (aa l 14),zN (aa l 15),Vl false q 1 (map nD (af l)),zI (a+1),zI ((↑(fi+d):Int)*2+(↑(gG b c 1):Int)),zI (((fi:Int)+(↑(aa l a):Int))*2),zI ((↑(length (aJ l a)):Int)+(↑(aa l a):Int))] 282 false) (U1 [zN (aa l 0),zN (aa l 1),zN (aa l 2),zN (aa l 3),zN (aa l 4),zN (aa l 5),zN (aa l 6),zN (aa l 7),zN (aa l 8),zN (aa l 9),zN (aa l 10),zN (aa l 11),zN (aa l 12),zN (aa l 13),zN (aa l 14),zN (aa l 15),Vl false q 1 (map nD (af l)),zN (a+1),zN (2*(fi+aa l a)+(2*(d-aa l a)+gG b c 1)),zN (2*(fi+aa l a)),zN (length (aJ l (a+1)))] 282 false) (by(simp;have h9:=bJ (l:=l) (a:=a) om;have h8:=dU b c;have h7:=aX l a;have h6:=aX l (a+1);have h5:=bU l;have h4:=V8 2 a;have h3:2^a<=2^15:=VD (by decide) om;omega)) (Hn.next ZA ⟨(a+1),nw,(2*(d-aa l a)+gG b c 1),om,(2*(fi+aa l a)),nw,(c+1),om,(by(have h9:=bJ (l:=l) (a:=a) om;have h8:=dU b c;have h7:=aX l a;have h6:=aX l (a+1);have h5:=bU l;have h4:=V8 2 a;have h3:2^a<=2^15:=VD (by decide) om;exact(OO om om om om).symm.trans hR)),⟨⟩⟩ KY [(0,0),(8,8)] ro)))))))))))))))))))))))))))))))))))))))))))))))))))) (fun|⟨a,ha,d,hd,fi,hb,c,hc,hR,_⟩=>by kernel_rfl) ⟨(0),om,(0),(by(exact Nat.le_of_eq (yJ l))),(0),om,(p),om,(by(exact(sG b l p).symm)),⟨⟩⟩ [(0,0),(104,104)] ro (ck (fun|()=>(.out [] [] (V2 [zN (Va (fZ b l p)),zN (Va (U0 (fZ b l p))),zN (U0 (U0 (fZ b l p)))]) [] R (ok _ _ (by exact rfl) wr))))))))) kr
theorem lx (l:Z1)(n:Nat):∀(k j:Nat),∃r,cu l n (k+j)=cu l n k++r
 |k,0=>⟨[],by simp⟩
 |k,j+1=>by
  obtain⟨r,hr⟩:=lx l n k j;exact⟨r++(if(l.getD (k+j) mq).toNat=n then[k+j]else[]),by rw[<-Wh,dO,hr,Ve]⟩
theorem FS {l:Z1}{n N i:Nat}(hi:i<N)(h:(l.getD i mq).toNat=n):(cu l n N)[(cu l n i).length]? =some i:=by
 obtain⟨r,hr⟩:=lx l n (i+1) (N-(i+1));rw[show i+1+(N-(i+1))=N from by omega,dO,ZF h,Ve]at hr;rw[hr,Vs (Vd _),Wn];rfl
def jd (l:Z1):Nat->Nat
 |0=>0
 |a+1=>2*(jd l a+aa l a)
theorem sI {l:Z1}{a:Nat}(h:a≠0):(cu l a l.length).length=aa l a:=by rw[gR];unfold sq;rw[ZE h]
theorem u0 {a:Nat}(h:a<15):eY 32768 a=2*eY 32768 (a+1):=by
 rw[fY om,fY om,show 15-a=(15-(a+1))+1 from by omega,V8,WR]
theorem wT (l:Z1):∀a,a<=15->AQ l (a+1)=(jd l a+aa l a)*eY 32768 a
 |0,_=>by rw[AQ,ZF rfl,yJ];show 0+0=(0+0)*_;omega
 |a+1,h=>by
  have ih:=wT l a om;rw[AQ,ZE (Xi a),ih,sI (Xi a),jd,u0 om];generalize eY 32768 (a+1)=P;generalize jd l a+aa l a=X;rw[Wt (2*X),WA 2 X P,Nat.mul_left_comm X 2 P]
theorem K6 {l:Z1}{a:Nat}(h0:a≠0)(h:a<=15):AQ l a=jd l a*eY 32768 a:=by
 obtain⟨b,rfl⟩:∃b,a=b+1:=⟨a-1,by omega⟩
 rw[wT l b om,jd,u0 om];rw[WR 2 (jd l b+aa l b),WA]
theorem u4 (l:Z1)(a:Nat):∀k,AQ l a<=AQ l (a+k)
 |0=>Vd _
 |k+1=>Vq (u4 l a k) (by rw[<-Wh,AQ];exact Nat.le_add_right _ _)
theorem yM {l:Z1}{i a:Nat}(h:(l.getD i mq).toNat=a)(h0:a≠0)(h1:a<=15):kQ l i=jd l a+(cu l a i).length:=by
 unfold kQ;rw[h,KU,ZE h0,K6 h0 h1,<-Wt,Nat.mul_div_cancel _ (uV h1)]
def Bq (l:Z1)(k:Nat):Nat->Nat
 |0=>0
 |a+1=>Bq l k a+(if a=0 then 0 else(cu l a k).length*eY 32768 a)
theorem CH (l:Z1):∀a,Bq l l.length a=AQ l a
 |0=>rfl
 |a+1=>by rw[Bq,AQ,CH l a]
theorem u5 (l:Z1):∀a,Bq l 0 a=0
 |0=>rfl
 |a+1=>by
  have:cu l a 0=[]:=rfl;rw[Bq,u5 l a,this,WZ,WT];split<;>rfl
theorem u6 (l:Z1)(k:Nat):∀a,Bq l (k+1) a=Bq l k a+(if(l.getD k mq).toNat≠0∧(l.getD k mq).toNat<a then eY 32768 (l.getD k mq).toNat else 0)
 |0=>by rw[Bq,Bq,ZE (λ q=>Ws _ q.2)]
 |a+1=>by
  rw[Bq,Bq,u6 l k a,dO];generalize(l.getD k mq).toNat=x
  by_cases h0:a=0
  ·rw[ZF h0,ZF h0,ZE (λ q=>by omega),ZE (λ q=>by omega)]
  ·rw[ZE h0,ZE h0]
   by_cases h:x=a
   ·subst h
    rw[ZF rfl,ZE (λ q=>by omega),ZF ⟨h0,by omega⟩,U2,VP,Nat.succ_mul];omega
   ·rw[ZE h,VS]
    by_cases h2:x≠0∧x<a
    ·rw[ZF h2,ZF om];omega
    ·rw[ZE h2,ZE om];omega
theorem OP (l:Z1)(ho:dn l 15=false):AQ l 16=aW l:=by
 have key:∀k,k<=l.length->Bq l k 16=aW (l.take k):=by
  intro k
  induction k with
  |zero=>intro _;exact u5 l 16
  |succ k ih=>
   intro hk;have hx:=dN ho (i:=k) om;rw[u6,ih om,iQ om]
   by_cases q:(l.getD k mq).toNat=0
   ·rw[ZE (λ z=>z.1 q),ZF q]
   ·rw[ZF ⟨q,by omega⟩,ZE q,fY hx]
 have h:=key l.length (Vd _);rw[Wd,CH]at h;exact h
theorem FT {l:Z1}{a d:Nat}(ha:a<=15)(h:d<aa l a):(af l).getD ((aJ l a).length+d) mq=(co l a).getD d mq:=by
 obtain⟨r,hr⟩:=jB (l:=l) ha;rw[hr,UZ,UZ,Vs om,Xr,Vz (by rw[bT];exact h)]
theorem wU {l:Z1}(ho:dn l 15=false){n:Nat}(hn:n<=15):(aJ l n).length+aa l n≠(af l).length↔∃i,i<l.length∧n<(l.getD i mq).toNat:=by
 obtain⟨r,hr⟩:=kg l (n+1) (16-(n+1));rw[show n+1+(16-(n+1))=16 from by omega,<-dE,db]at hr;have hl:=congrArg Ym hr;rw[U2,U2,bT]at hl;constructor
 ·intro h
  have hr0:0<r.length:=by omega
  have hall:∀k,∀x∈aJ l (n+1+k),x∈aJ l (n+1)∨(x<l.length∧n<(l.getD x mq).toNat):=by
   intro k
   induction k with
   |zero=>exact λ x hx=>.inl hx
   |succ k ih=>
    intro x hx;rw[<-Wh,db,Zh]at hx;rcases hx with hx|hx
    ·exact ih x hx
    ·rw[gH,ZE om]at hx
     have:=fy.1 hx;exact .inr ⟨this.1,by omega⟩
  apply Classical.byContradiction;intro hno;have hlen:∀k,(aJ l (n+1+k)).length=(aJ l (n+1)).length:=by
   intro k
   induction k with
   |zero=>rfl
   |succ k ih=>
    rw[<-Wh,db,U2,ih];have:co l (n+1+k)=[]:=by
     rw[YB];intro x hx;rw[gH,ZE om]at hx;have:=fy.1 hx;exact hno ⟨x,this.1,by omega⟩
    rw[this];rfl
  have h3:=hlen (16-(n+1));rw[show n+1+(16-(n+1))=16 from by omega,<-dE,db,U2,bT]at h3;exact h h3.symm
 ·rintro⟨i,h1,h2⟩ h
  have hx:=dN ho h1;generalize ha:(l.getD i mq).toNat=a at *;obtain⟨r2,hr2⟩:=kg l (n+1) (a-(n+1));rw[show n+1+(a-(n+1))=a from by omega]at hr2;obtain⟨r3,hr3⟩:=jB (l:=l) (a:=a) hx;have h4:=congrArg Ym hr3;rw[hr2,db,U2,U2,U2,U2,bT,bT]at h4;have h5:0<aa l a:=by
   rw[<-sI om];have:i∈cu l a l.length:=fy.2 ⟨h1,ha⟩;exact List.length_pos_of_mem this
  omega
def K7 (b l:Z1)(n d c:Nat):Nat×Nat×Nat:=lk b (if d<aa l n then((af l).getD ((aJ l n).length+d) mq,c,0)else pd b l (16-n) n d c)
theorem sJ (b l:Z1)(n d c:Nat):K7 b l n d c=if d<aa l n then((af l).getD ((aJ l n).length+d) mq,c,0)else pd b l (16-n) n d c:=au _ _
theorem OQ (b l:Z1)(p:Nat):K7 b l 0 0 p=fZ b l p:=by rw[sJ,yJ,ZE (XA 0),sG]
section
variable {b l:Z1} {n d c v:Nat} {R:Nat×Nat×Nat}
theorem SO (hn:n<=15)(hv:v=jd l n+d)(hR:K7 b l n d c=R){i:Nat}(hi:i<l.length)(h:(l.getD i mq).toNat=n)(h0:0<n)(hc:kQ l i=v):R=(i,c,0):=by
 rw[yM h om hn]at hc;have hd:(cu l n i).length=d:=by omega
 have h2:=FS hi h;have h3:=(List.getElem?_eq_some_iff.1 h2).1;rw[sI om]at h3;rw[<-hR,sJ,ZF om,<-hd,FT hn h3,gH,ZE om,UZ,h2];rfl
theorem OR (hn:n<=15)(hd:aa l n<=d)(hR:K7 b l n d c=R)(h:(aJ l n).length+aa l n≠(af l).length)(h2:kV b c 1=0):n+1<=15∧K7 b l (n+1) (2*(d-aa l n)+gG b c 1) (c+1)=R:=by
 have h3:=bJ (l:=l) (a:=n) hn;have hn2:n+1<=15:=by
  rcases VL n 15 with q|q
  ·exact q
  ·exact absurd (h3.2.2 om) h
 refine⟨hn2,?_⟩;rw[<-hR,sJ,sJ,ZE (show¬d<aa l n by omega)]
 by_cases q:2*(d-aa l n)+gG b c 1<aa l (n+1)
 ·rw[ZF q,FR hn h h2 q,h3.2.1]
 ·rw[ZE q,OO hn h h2 q]
theorem SP (hv:v=jd l n+d)(hd:aa l n<=d):2*v+gG b c 1=jd l (n+1)+(2*(d-aa l n)+gG b c 1):=by
 rw[jd];omega
end

section
variable {b l:Z1} {n a d c v:Nat} {R:Nat×Nat×Nat} (hT:aG l 15=0) (hn:n=l.length) (ha:a<=15) (hv:v=jd l a+d) (hb:v<2^a) (hno:∀j,j<n->¬((l.getD j mq).toNat=a∧kQ l j=v∧0<a)) (hR:K7 b l a d c=R)
include hT hn ha hv hb hno hR
end
theorem K8 {p:Prop}(h:p:=by(have h8:=FU (l:=l) (k:=k) hc15 om (0+(l.getD (k*1) mq).toNat*1) om om;omega)):p:=h
theorem OS {p:Prop}(h:p:=by(refine decide_eq_true ?_;have h8:=FU (l:=l) (k:=k) hc15 om (0+(l.getD (k*1) mq).toNat*1) om om;omega)):p:=h
theorem RL {p:Prop}(h:p:=by(refine aR ?_;(omega))):p:=h
theorem RM {p:Prop}(h:p:=by show n-(k+1)<n-k;clear ZA ZD;omega):p:=h
theorem Uu {p:Prop}(h:p:=by((refine aI ?_ ?_)<;>(repeat' (first|(refine aI ?_ ?_)|(with_reducible rfl)|(refine decide_eq_true ?_)|(refine U8 ?_)|(refine fw ?_)))<;>(omega))):p:=h
theorem Uv {p:Prop}(h:p:=by((refine aI ?_ ?_)<;>(repeat' (first|(refine aI ?_ ?_)|(with_reducible rfl)|(refine decide_eq_true ?_)|(refine U8 ?_)|(refine fw ?_)))<;>(have h8:=FU (l:=l) (k:=k) hc15 om (0+(l.getD (k*1) mq).toNat*1) om om;omega))):p:=h
theorem Uw {p:Prop}(h:p:=by(have h7:=IM (l:=l) (a:=a) hc15 om (0+a*1) om;omega)):p:=h
theorem Ux {p:Prop}(h:p:=by(have h7:=IM (l:=l) (a:=a) hc15 om (0+a*1) om;refine aR ?_;omega)):p:=h
def kv (f:Nat->Nat):List D:=[ea (f 0),ea (f 1),ea (f 2),ea (f 3),ea (f 4),ea (f 5),ea (f 6),ea (f 7),ea (f 8),ea (f 9),ea (f 10),ea (f 11),ea (f 12),ea (f 13),ea (f 14),ea (f 15),ea (f 16)]
theorem yN (f:Nat->Nat)(n:Nat)(h:n<17):(kv f)[n]? =some (ea (f n)):=by
 match n,h with
 |0,_=>rfl|1,_=>rfl|2,_=>rfl|3,_=>rfl|4,_=>rfl|5,_=>rfl|6,_=>rfl|7,_=>rfl|8,_=>rfl|9,_=>rfl|10,_=>rfl|11,_=>rfl|12,_=>rfl|13,_=>rfl|14,_=>rfl|15,_=>rfl|16,_=>rfl
 |n+17,h=>exact absurd h om
theorem CI (f:Nat->Nat)(n:Nat)(h:n<17)(x:Nat):ai (kv f) n [ea x]=kv (λ m=>if m=n then x else f m):=by
 match n,h with
 |0,_=>rfl|1,_=>rfl|2,_=>rfl|3,_=>rfl|4,_=>rfl|5,_=>rfl|6,_=>rfl|7,_=>rfl|8,_=>rfl|9,_=>rfl|10,_=>rfl|11,_=>rfl|12,_=>rfl|13,_=>rfl|14,_=>rfl|15,_=>rfl|16,_=>rfl
 |n+17,h=>exact absurd h om
theorem dQ {f g:Nat->Nat}(h:∀n,n<17->f n=g n):kv f=kv g:=by
 unfold kv;rw[h 0 (by decide),h 1 (by decide),h 2 (by decide),h 3 (by decide),h 4 (by decide),h 5 (by decide),h 6 (by decide),h 7 (by decide),h 8 (by decide),h 9 (by decide),h 10 (by decide),h 11 (by decide),h 12 (by decide),h 13 (by decide),h 14 (by decide),h 15 (by decide),h 16 (by decide)]
def bz (l:Z1)(k m:Nat):Nat:=lk l (if m=0 then 0 else(cu l m k).length)
theorem jD (l:Z1)(k m:Nat):bz l k m=if m=0 then 0 else(cu l m k).length:=au _ _
theorem IH (l:Z1)(m:Nat):bz l 0 m=0:=by rw[jD];split<;>rfl
theorem II (l:Z1)(m:Nat):bz l l.length m=aa l m:=by rw[jD,gR];rfl
theorem CJ (l:Z1)(k m:Nat):bz l k m<=k:=by
 rw[jD];split
 ·exact VI _
 ·exact ke _ _ _
theorem u7 {l:Z1}{k:Nat}(m:Nat):bz l (k+1) m=bz l k m+(if m≠0∧(l.getD k mq).toNat=m then 1 else 0):=by
 rw[jD,jD]
 by_cases h0:m=0
 ·rw[ZF h0,ZF h0,ZE (λ q=>q.1 h0)]
 ·rw[ZE h0,ZE h0,dO]
  by_cases h:(l.getD k mq).toNat=m
  ·rw[ZF h,ZF ⟨h0,h⟩,U2];rfl
  ·rw[ZE h,ZE (λ q=>h q.2),VS];rfl
def cJ (l:Z1)(a m:Nat):Nat:=lk l (if m<a then jd l m else aa l m)
theorem pf (l:Z1)(a m:Nat):cJ l a m=if m<a then jd l m else aa l m:=au _ _
def bN (l:Z1)(k m:Nat):Nat:=lk l (jd l m+bz l k m)
theorem gS (l:Z1)(k m:Nat):bN l k m=jd l m+bz l k m:=au _ _
def u9 (l:Z1)(a:Nat):Nat:=lk l (jd l a)
theorem sK (l:Z1)(a:Nat):u9 l a=jd l a:=au _ _
def K9 (l:Z1)(k j:Nat):Nat×Nat:=if j<k∧(l.getD j mq).toNat≠0 then(kQ l j,(l.getD j mq).toNat)else(0,0)
def nW (l:Z1)(k:Nat):List (Nat×Nat):=lk l ((Wa l.length).map (K9 l k))
theorem pg (l:Z1)(k:Nat):nW l k=(Wa l.length).map (K9 l k):=au _ _
theorem sL (l:Z1)(k:Nat):(nW l k).length=l.length:=by rw[pg,Vj,WH]
theorem OT (l:Z1):nW l 0=Vk l.length (0,0):=by
 rw[pg];apply Wb;intro i;rw[Vu,Wz];rcases VL i l.length with hi|hi
 ·rw[Wu hi,ZF hi];rfl
 ·rw[VF (by simpa using hi),ZE om];rfl
theorem IJ {l:Z1}{k:Nat}(hk:k<l.length):nW l (k+1)=if(l.getD k mq).toNat=0 then nW l k else(nW l k).set k (kQ l k,(l.getD k mq).toNat):=by
 apply Wb;intro i;have e:∀j,(nW l j)[i]? =if i<l.length then some (K9 l j i)else none:=λ j=>by
  rw[pg,Vu];rcases VL i l.length with hi|hi
  ·rw[Wu hi,ZF hi];rfl
  ·rw[VF (by simpa using hi),ZE om];rfl
 by_cases h:(l.getD k mq).toNat=0
 ·rw[ZF h,e,e]
  split
  ·congr 1;unfold K9
   by_cases hi:i=k
   ·subst hi;rw[ZE (λ q=>q.2 h),ZE (λ q=>q.2 h)]
   ·by_cases q:i<k∧(l.getD i mq).toNat≠0
    ·rw[ZF q,ZF ⟨by omega,q.2⟩]
    ·rw[ZE q,ZE (λ z=>q ⟨by omega,z.2⟩)]
  ·rfl
 ·rw[ZE h,WN,sL,e,e]
  by_cases hi:k=i
  ·subst hi
   rw[ZF hk,ZF rfl,ZF hk];unfold K9;rw[ZF ⟨YC k,h⟩]
  ·rw[ZE hi]
   split
   ·congr 1;unfold K9
    by_cases q:i<k∧(l.getD i mq).toNat≠0
    ·rw[ZF q,ZF ⟨by omega,q.2⟩]
    ·rw[ZE q,ZE (λ z=>q ⟨by omega,z.2⟩)]
   ·rfl
theorem IK {l:Z1}(ho:dn l 15=false):nW l l.length=ac l:=by
 rw[pg,Cw,IG];apply YO;intro j hj;have hj:=List.mem_range.1 hj;have h:=dN ho hj;unfold K9 SM
 by_cases q:(l.getD j mq).toNat=0
 ·rw[ZE (λ z=>z.2 q),ZE (λ z=>z.1 q)]
 ·rw[ZF ⟨hj,q⟩,ZF ⟨q,.inl om⟩]
theorem IL {l:Z1}(hc:aG l 15=0){a:Nat}(h:a<=15):jd l a+aa l a<=2^a:=by
 have ho:=(dD hc).2.1;have hk:=(dD hc).2.2;have h1:=wT l a h;have h2:=u4 l (a+1) (16-(a+1));rw[show a+1+(16-(a+1))=16 from by omega,OP l ho,h1]at h2;have h3:(jd l a+aa l a)*eY 32768 a<=2^a*eY 32768 a:=by
  rw[fY h,<-Y1,show a+(15-a)=15 from by omega];rw[fY h]at h2;omega
 exact Nat.le_of_mul_le_mul_right h3 (uV h)
theorem La {l:Z1}(ho:dn l 15=false){a:Nat}(h:16<=a):aa l a=0:=by
 rw[gR];unfold sq;rw[ZE om];have:cu l a l.length=[]:=by
  rw[YB];intro i hi;have:=fy.1 hi;have:=dN ho this.1;omega
 rw[this];rfl
theorem CK {l:Z1}(hc:aG l 15=0){a:Nat}(h:a<=17):jd l a<=131072∧(a<=16->jd l a+aa l a<=65536):=by
 have ho:=(dD hc).2.1;have p:∀b,b<=15->jd l b+aa l b<=32768:=λ b hb=>Vq (IL hc hb) (VD (n:=2) (by decide) hb)
 have q16:jd l 16=2*(jd l 15+aa l 15):=rfl;have q17:jd l 17=2*(jd l 16+aa l 16):=rfl;have dZ:=La ho (a:=16) (by decide);have p15:=p 15 (by decide);rcases VL a 16 with z|z
 ·have:=p a om;exact⟨by omega,λ _=>by omega⟩
 ·rcases VL a 17 with y|y
  ·have e:a=16:=by omega
   subst e;exact⟨by omega,λ _=>by omega⟩
  ·have e:a=17:=by omega
   subst e;exact⟨by omega,λ q=>by omega⟩
theorem OU (l:Z1):kv (λ _=>0)=kv (bz l 0):=dQ λ m _=>(IH l m).symm
theorem Lb {l:Z1}{k:Nat}(h:(l.getD (k*1) mq).toNat=0):kv (bz l k)=kv (bz l (k+1)):=dQ λ m _=>by
 rw[VG]at h;rw[u7,ZE (λ q=>by omega)];rfl
theorem OV {l:Z1}{k:Nat}(h:k=l.length):kv (bz l k)=kv (aa l):=dQ λ m _=>by rw[h,II]
theorem OW (l:Z1):kv (aa l)=kv (cJ l 0):=dQ λ m _=>by rw[pf,ZE (Ws m)]
theorem OX {l:Z1}{a:Nat}(h:17<=a):kv (cJ l a)=kv (bN l 0):=dQ λ m hm=>by rw[pf,ZF om,gS,IH];rfl
theorem Lc {l:Z1}{k:Nat}(h:(l.getD (k*1) mq).toNat=0):kv (bN l k)=kv (bN l (k+1)):=dQ λ m _=>by
 rw[VG]at h;rw[gS,gS,u7,ZE (λ q=>by omega)];rfl
theorem SQ (l:Z1)(k:Nat){o:Nat}(h:(l.getD (k*1) mq).toNat=o)(h0:0<o)(h1:o<17):ai (kv (bz l k)) o [D.v (.int .u32 (((bz l k o:Nat):Int)+1))]=kv (bz l (k+1)):=by
 rw[VG]at h;refine(CI (bz l k) o h1 (bz l k o+1)).trans (dQ λ m _=>?_);rw[u7]
 by_cases e:m=o
 ·rw[ZF e,e,ZF ⟨by omega,h⟩]
 ·rw[ZE e,ZE (λ q=>e om)];rfl
theorem OY (l:Z1)(a:Nat){o:Nat}{z:Int}(ho:o=a)(h1:a<17)(hz:z=((u9 l a:Nat):Int)):ai (kv (cJ l a)) o [D.v (.int .u32 z)]=kv (cJ l (a+1)):=by
 subst ho hz;refine(CI (cJ l o) o h1 (u9 l o)).trans (dQ λ m _=>?_);rw[pf,pf,sK]
 by_cases e:m=o
 ·rw[ZF e,e,ZF (YC o)]
 ·rw[ZE e]
  by_cases q:m<o
  ·rw[ZF q,ZF om]
  ·rw[ZE q,ZE om]
theorem OZ (l:Z1)(k:Nat){o:Nat}(h:(l.getD (k*1) mq).toNat=o)(h0:0<o)(h1:o<17):ai (kv (bN l k)) o [D.v (.int .u32 (((bN l k o:Nat):Int)+1))]=kv (bN l (k+1)):=by
 rw[VG]at h;refine(CI (bN l k) o h1 (bN l k o+1)).trans (dQ λ m _=>?_);rw[gS,gS,gS,u7]
 by_cases e:m=o
 ·rw[ZF e,e,ZF ⟨by omega,h⟩];rfl
 ·rw[ZE e,ZE (λ q=>e om)];rfl
theorem FU {l:Z1}{k:Nat}(hc:aG l 15=0)(hk:k<l.length)(o:Nat)(h:(l.getD (k*1) mq).toNat=o)(h0:0<o):o<=15∧bN l k o=kQ l k∧bN l (k+1) o=kQ l k+1∧kQ l k<=65536∧bz l k o<=k:=by
 rw[VG]at h;have ho:=dN (dD hc).2.1 hk;have h1:o<=15:=by omega
 have e:=yM h om h1;have h2:bN l k o=kQ l k:=by rw[gS,jD,ZE om,e]
 have h3:=(CK hc (a:=o) om).2 om;have h4:bz l (k+1) o=bz l k o+1:=by rw[u7,ZF ⟨by omega,h⟩]
 have h5:bN l (k+1) o=kQ l k+1:=by
  rw[gS,h4,<-h2,gS,Wh]
 have h6:bz l (k+1) o<=aa l o:=by
  rw[<-II,jD,jD,ZE om,ZE om];obtain⟨r,hr⟩:=lx l o (k+1) (l.length-(k+1));rw[show k+1+(l.length-(k+1))=l.length from by omega]at hr;rw[hr,U2];omega
 refine⟨h1,h2,h5,?_,CJ l k o⟩;rw[<-h2,gS];omega
theorem IM {l:Z1}{a:Nat}(hc:aG l 15=0)(h:a<17)(o:Nat)(ho:o=a):u9 l a+cJ l a o<=65536∧(u9 l a+cJ l a o)*2=u9 l (a+1)∧u9 l (a+1)<=131072:=by
 subst ho;have h1:=(CK hc (a:=o) om).2 om;have h2:=(CK hc (a:=o+1) om).1;rw[sK,sK,pf,ZE (XA o)];refine⟨h1,?_,h2⟩;rw[jd,WR]
theorem O0 {l:Z1}{k:Nat}(hk:k<l.length)(h:(l.getD (k*1) mq).toNat=0):nW l (k+1)=nW l k:=by
 rw[VG]at h;rw[IJ hk,ZF h]
theorem O1 {l:Z1}{k:Nat}(hk:k<l.length)(h:0<(l.getD (k*1) mq).toNat):nW l (k+1)=(nW l k).set k (kQ l k,(l.getD k mq).toNat):=by
 rw[VG]at h;rw[IJ hk,ZE om]
theorem UY {l:Z1}{k:Nat}(hc:aG l 15=0)(hk:k<l.length)(h:0<(l.getD (k*1) mq).toNat):ai ((nW l k).flatMap ni) (k*2) [D.v (.int .u32 (((bN l (k+1) (l.getD k mq).toNat:Nat):Int)-1)),D.v (.int .u8 (((l.getD k mq).toNat:Nat):Int))]=(nW l (k+1)).flatMap ni:=by
 have h2:=FU hc hk (l.getD k mq).toNat (by rw[VG]) (by rwa [VG]at h);rw[O1 hk h,h2.2.2.1,show(((kQ l k+1:Nat):Int)-1)=((kQ l k:Nat):Int)from by omega];exact FL (c:=(kQ l k,(l.getD k mq).toNat)) (by rw[sL];exact hk) (WR k 2)
theorem FV (l:Z1)(n:Nat)(hn:n=l.length)(m:Nat)(hm:1<=m∧m<=15)(hc:aG l m=0):S0 112 [.sl false n 1 (l.map dB),nD m] [] (.tup [.ref 0 0 0 n 2,iD 0]) [⟨(ac l).flatMap ni, 210,true⟩]:=by
 have hL:=(dD hc).1;have hc15:=(iV hm.2 hc).1;have ho:=(dD hc15).2.1;refine SpecH.run T_ok ah Tryz.func112 rfl rfl rfl ⟨gi (λ _=>rfl) _,trivial⟩ rfl 1000 64 (λ R ok=>(.s 5 (.cl 148 false [] (.fn Kv (@sA (l) (n) om om (m) om)) (.s 4 (.f ((↑(aG l m):Int) !=0) (by(simp <;>(omega))) (.s 8 (.blk 80 80 (U1 [uI 0,uI 0,uI 0,uI 0,uI 0,uI 0,uI 0,uI 0,uI 0,uI 0,uI 0,uI 0,uI 0,uI 0,uI 0,uI 0,uI 0] 234 false) (U1 [ak (bz l 0 0),ak (bz l 0 1),ak (bz l 0 2),ak (bz l 0 3),ak (bz l 0 4),ak (bz l 0 5),ak (bz l 0 6),ak (bz l 0 7),ak (bz l 0 8),ak (bz l 0 9),ak (bz l 0 10),ak (bz l 0 11),ak (bz l 0 12),ak (bz l 0 13),ak (bz l 0 14),ak (bz l 0 15),ak (bz l 0 16)] 234 false) (by(exact aB (OU l))) (Hn.inl T_ok ah false 20 80 (aq Tryz.prog 149 0) (λ(x:(k:Nat)×'(hk:k<=n)×'Unit)=>match x with|⟨k,hk,_⟩=>Vn [(2,Vh 80 80 0),(5,Vl false n 1 (map dB l)),(6,zN n),(7,nD k)] [⟨80,80,80,80,.c ⟨kv (bz l k),234,false⟩⟩] 88) (λ(x:(k:Nat)×'(hk:k<=n)×'Unit)=>match x with|⟨k,hk,_⟩=>n-k) [⟨Unit,.exit 0,λ x=>match x with|()=>Vn [(2,Vh 80 80 0),(5,Vl false n 1 (map dB l)),(6,zN n)] [⟨80,80,80,80,.c ⟨kv (aa l),234,false⟩⟩] 88⟩] 1000 64 (fun|⟨k,hk,_⟩,Q,ZA,ZD=>(.s 2 (.bd ((k:Int)<n) (λ p0 Z7=>(.s 1 (.chk (true&&decide ((k:Int)<n)&&true) Uu (.s 2 (.opt ((map dB l)[k*1]?) (dB (getD l (k*1) mq)) (av _ _ om) (.s 4 (.bd (0<(↑(U3 (getD l (k*1) mq)):Int)) (λ p1 Z6=>(.s 2 (.chk (true&&decide ((↑(U3 (getD l (k*1) mq)):Int)<(↑17:Int))) OS (.s 3 (.opt ((kv (bz l k))[0+U3 (getD l (k*1) mq)*1]?) (ea (bz l k (0+U3 (getD l (k*1) mq)*1))) (@yN (bz l k) (0+U3 (getD l (k*1) mq)*1) K8) (.s 2 (.opt (ax .u32 ((↑(bz l k (0+U3 (getD l (k*1) mq)*1)):Int)+1)) (uI ((↑(bz l k (0+U3 (getD l (k*1) mq)*1)):Int)+1)) (aE (by(have h9:=CJ l k (0+(l.getD (k*1) mq).toNat*1);omega))) (.s 1 (.chk (true&&decide ((↑(U3 (getD l (k*1) mq)):Int)<(↑17:Int))) OS (.s 2 (.chk (true&&U7 (0+U3 (getD l (k*1) mq)*1+1) 17) Uv (.lst (ai [ak (bz l k 0),ak (bz l k 1),ak (bz l k 2),ak (bz l k 3),ak (bz l k 4),ak (bz l k 5),ak (bz l k 6),ak (bz l k 7),ak (bz l k 8),ak (bz l k 9),ak (bz l k 10),ak (bz l k 11),ak (bz l k 12),ak (bz l k 13),ak (bz l k 14),ak (bz l k 15),ak (bz l k 16)] (0+U3 (getD l (k*1) mq)*1) [uI ((↑(bz l k (0+U3 (getD l (k*1) mq)*1)):Int)+1)]) ([ak (bz l (k+1) 0),ak (bz l (k+1) 1),ak (bz l (k+1) 2),ak (bz l (k+1) 3),ak (bz l (k+1) 4),ak (bz l (k+1) 5),ak (bz l (k+1) 6),ak (bz l (k+1) 7),ak (bz l (k+1) 8),ak (bz l (k+1) 9),ak (bz l (k+1) 10),ak (bz l (k+1) 11),ak (bz l (k+1) 12),ak (bz l (k+1) 13),ak (bz l (k+1) 14),ak (bz l (k+1) 15),ak (bz l (k+1) 16)]) (@SQ l k (0+U3 (getD l (k*1) mq)*1) om om K8) (.s 2 (.ow (k+1) (.s 1 (.val 7 (zI (k+1)) (zN (k+1)) RL (Hn.next ZA ⟨(k+1),om,⟨⟩⟩ RM [(80,80)] ro))))))))))))))))) (λ p1 Z6=>(.s 2 (.ow (k+1) (.s 1 (.val 7 (zI (k+1)) (zN (k+1)) RL (.blk 80 80 (U1 [ak (bz l k 0),ak (bz l k 1),ak (bz l k 2),ak (bz l k 3),ak (bz l k 4),ak (bz l k 5),ak (bz l k 6),ak (bz l k 7),ak (bz l k 8),ak (bz l k 9),ak (bz l k 10),ak (bz l k 11),ak (bz l k 12),ak (bz l k 13),ak (bz l k 14),ak (bz l k 15),ak (bz l k 16)] 234 false) (U1 [ak (bz l (k+1) 0),ak (bz l (k+1) 1),ak (bz l (k+1) 2),ak (bz l (k+1) 3),ak (bz l (k+1) 4),ak (bz l (k+1) 5),ak (bz l (k+1) 6),ak (bz l (k+1) 7),ak (bz l (k+1) 8),ak (bz l (k+1) 9),ak (bz l (k+1) 10),ak (bz l (k+1) 11),ak (bz l (k+1) 12),ak (bz l (k+1) 13),ak (bz l (k+1) 14),ak (bz l (k+1) 15),ak (bz l (k+1) 16)] 234 false) (by(exact aB (Lb (by(omega))))) (Hn.next ZA ⟨(k+1),om,⟨⟩⟩ RM [(80,80)] ro)))))))))))))) (λ p0 Z7=>(.blk 80 80 (U1 [ak (bz l k 0),ak (bz l k 1),ak (bz l k 2),ak (bz l k 3),ak (bz l k 4),ak (bz l k 5),ak (bz l k 6),ak (bz l k 7),ak (bz l k 8),ak (bz l k 9),ak (bz l k 10),ak (bz l k 11),ak (bz l k 12),ak (bz l k 13),ak (bz l k 14),ak (bz l k 15),ak (bz l k 16)] 234 false) (U1 [ak (aa l 0),ak (aa l 1),ak (aa l 2),ak (aa l 3),ak (aa l 4),ak (aa l 5),ak (aa l 6),ak (aa l 7),ak (aa l 8),ak (aa l 9),ak (aa l 10),ak (aa l 11),ak (aa l 12),ak (aa l 13),ak (aa l 14),ak (aa l 15),ak (aa l 16)] 234 false) (by(exact aB (OV (by(omega))))) (Hn.last ZD 0 (():Unit) rfl [(80,80)] ro)))))) (fun|⟨k,hk,_⟩=>by kernel_rfl) ⟨(0),om,⟨⟩⟩ [(80,80)] ro (ck (fun|()=>(.s 19 (.val 2 (uI 0) (ak (u9 l 0)) (by(rw[sK];rfl)) (.blk 120 120 (U1 [ak (aa l 0),ak (aa l 1),ak (aa l 2),ak (aa l 3),ak (aa l 4),ak (aa l 5),ak (aa l 6),ak (aa l 7),ak (aa l 8),ak (aa l 9),ak (aa l 10),ak (aa l 11),ak (aa l 12),ak (aa l 13),ak (aa l 14),ak (aa l 15),ak (aa l 16)] 234 false) (U1 [ak (cJ l 0 0),ak (cJ l 0 1),ak (cJ l 0 2),ak (cJ l 0 3),ak (cJ l 0 4),ak (cJ l 0 5),ak (cJ l 0 6),ak (cJ l 0 7),ak (cJ l 0 8),ak (cJ l 0 9),ak (cJ l 0 10),ak (cJ l 0 11),ak (cJ l 0 12),ak (cJ l 0 13),ak (cJ l 0 14),ak (cJ l 0 15),ak (cJ l 0 16)] 234 false) (by(exact aB (OW l))) (Hn.inl T_ok ah false 21 144 (aq Tryz.prog 150 0) (λ(x:(a:Nat)×'(ha:a<=17)×'Unit)=>match x with|⟨a,ha,_⟩=>Vn [(0,Vh 120 120 0),(2,ea (u9 l a)),(4,nD a)] [⟨80,80,80,80,.b ⟨[ak (aa l 0),ak (aa l 1),ak (aa l 2),ak (aa l 3),ak (aa l 4),ak (aa l 5),ak (aa l 6),ak (aa l 7),ak (aa l 8),ak (aa l 9),ak (aa l 10),ak (aa l 11),ak (aa l 12),ak (aa l 13),ak (aa l 14),ak (aa l 15),ak (aa l 16)],234,false⟩⟩,⟨120,120,120,120,.c ⟨kv (cJ l a),234,false⟩⟩] 160) (λ(x:(a:Nat)×'(ha:a<=17)×'Unit)=>match x with|⟨a,ha,_⟩=>17-a) [⟨Unit,.exit 0,λ x=>match x with|()=>Vn [(0,Vh 120 120 0)] [⟨80,80,80,80,.b ⟨[ak (aa l 0),ak (aa l 1),ak (aa l 2),ak (aa l 3),ak (aa l 4),ak (aa l 5),ak (aa l 6),ak (aa l 7),ak (aa l 8),ak (aa l 9),ak (aa l 10),ak (aa l 11),ak (aa l 12),ak (aa l 13),ak (aa l 14),ak (aa l 15),ak (aa l 16)],234,false⟩⟩,⟨120,120,120,120,.c ⟨kv (bN l 0),234,false⟩⟩] 160⟩] 1000 64 (fun|⟨a,ha,_⟩,Q,ZA,ZD=>(.s 2 (.bd ((a:Int)<17) (λ p2 Z5=>(.s 10 (.chk (true&&decide ((a:Int)<(↑17:Int))) aF (.s 3 (.opt ((kv (cJ l a))[0+a*1]?) (ea (cJ l a (0+a*1))) (@yN (cJ l a) (0+a*1) om) (.s 2 (.opt (ax .u32 ((↑(u9 l a):Int)+(↑(cJ l a (0+a*1)):Int))) (uI ((↑(u9 l a):Int)+(↑(cJ l a (0+a*1)):Int))) (aE Uw) (.s 2 (.opt (ax .u32 (((↑(u9 l a):Int)+(↑(cJ l a (0+a*1)):Int))*2)) (uI (((↑(u9 l a):Int)+(↑(cJ l a (0+a*1)):Int))*2)) (aE Uw) (.s 4 (.chk (true&&decide ((a:Int)<(↑17:Int))) aF (.s 2 (.chk (true&&U7 (0+a*1+1) 17) (by(refine U8 ?_;(omega))) (.lst (ai [ak (cJ l a 0),ak (cJ l a 1),ak (cJ l a 2),ak (cJ l a 3),ak (cJ l a 4),ak (cJ l a 5),ak (cJ l a 6),ak (cJ l a 7),ak (cJ l a 8),ak (cJ l a 9),ak (cJ l a 10),ak (cJ l a 11),ak (cJ l a 12),ak (cJ l a 13),ak (cJ l a 14),ak (cJ l a 15),ak (cJ l a 16)] (0+a*1) [ak (u9 l a)]) ([ak (cJ l (a+1) 0),ak (cJ l (a+1) 1),ak (cJ l (a+1) 2),ak (cJ l (a+1) 3),ak (cJ l (a+1) 4),ak (cJ l (a+1) 5),ak (cJ l (a+1) 6),ak (cJ l (a+1) 7),ak (cJ l (a+1) 8),ak (cJ l (a+1) 9),ak (cJ l (a+1) 10),ak (cJ l (a+1) 11),ak (cJ l (a+1) 12),ak (cJ l (a+1) 13),ak (cJ l (a+1) 14),ak (cJ l (a+1) 15),ak (cJ l (a+1) 16)]) (@OY l a (0+a*1) ((↑(u9 l a):Int)) om om om) (.s 2 (.ow (a+1) (.s 1 (.val 2 (uI (((↑(u9 l a):Int)+(↑(cJ l a (0+a*1)):Int))*2)) (ak (u9 l (a+1))) Ux (.val 4 (zI (a+1)) (zN (a+1)) Ux (Hn.next ZA ⟨(a+1),om,⟨⟩⟩ (by show 17-(a+1)<17-a;clear ZA ZD;omega) [(80,80),(120,120)] ro)))))))))))))))))))) (λ p2 Z5=>(.blk 120 120 (U1 [ak (cJ l a 0),ak (cJ l a 1),ak (cJ l a 2),ak (cJ l a 3),ak (cJ l a 4),ak (cJ l a 5),ak (cJ l a 6),ak (cJ l a 7),ak (cJ l a 8),ak (cJ l a 9),ak (cJ l a 10),ak (cJ l a 11),ak (cJ l a 12),ak (cJ l a 13),ak (cJ l a 14),ak (cJ l a 15),ak (cJ l a 16)] 234 false) (U1 [ak (bN l 0 0),ak (bN l 0 1),ak (bN l 0 2),ak (bN l 0 3),ak (bN l 0 4),ak (bN l 0 5),ak (bN l 0 6),ak (bN l 0 7),ak (bN l 0 8),ak (bN l 0 9),ak (bN l 0 10),ak (bN l 0 11),ak (bN l 0 12),ak (bN l 0 13),ak (bN l 0 14),ak (bN l 0 15),ak (bN l 0 16)] 234 false) (by(exact aB (OX (by(omega))))) (Hn.last ZD 0 (():Unit) rfl [(80,80),(120,120)] ro)))))) (fun|⟨a,ha,_⟩=>by kernel_rfl) ⟨(0),om,⟨⟩⟩ [(80,80),(120,120)] ro (ck (fun|()=>(.s 3 (.chk (true&&decide ((n:Int)<=n)&&true&&true&&true&&true&&decide ((↑(TI.bytes yq):Int)*(n:Int)<=140737488355328)) (by(have h9:((yq.bytes:Nat):Int)=8:=rfl;rw[h9];simp;omega)) (.s 4 (.blk 184 184 (U1 (dJ [uI 0,bI 0] (n*2)) 210 true) (U1 (flatMap ni (nW l 0)) 210 true) (by(refine aB ?_;rw[KW,OT,hn])) (Hn.inl T_ok ah false 39 0 (aq Tryz.prog 112 0) (λ(x:(k:Nat)×'(hk:k<=n)×'Unit)=>match x with|⟨k,hk,_⟩=>Vn [(7,Vh 0 0 0),(8,U6 8 8 0 n 2),(23,Vl false n 1 (map dB l)),(24,zN n),(25,nD k)] [⟨0,0,120,120,.c ⟨kv (bN l k),234,false⟩⟩,⟨8,8,184,184,.b ⟨(nW l k).flatMap ni,210,true⟩⟩] 16) (λ(x:(k:Nat)×'(hk:k<=n)×'Unit)=>match x with|⟨k,hk,_⟩=>n-k) [⟨Unit,.exit 0,λ x=>match x with|()=>Vn [(7,Vh 0 0 0),(8,U6 8 8 0 n 2),(23,Vl false n 1 (map dB l)),(24,zN n)] [⟨8,8,184,184,.b ⟨(ac l).flatMap ni,210,true⟩⟩] 16⟩] 1000 64 (fun|⟨k,hk,_⟩,Q,ZA,ZD=>(.s 2 (.bd ((k:Int)<n) (λ p3 Z4=>(.s 2 (.chk (true&&decide ((k:Int)<n)&&true) Uu (.s 2 (.opt ((map dB l)[k*1]?) (dB (getD l (k*1) mq)) (av _ _ om) (.s 5 (.bd (0<(↑(U3 (getD l (k*1) mq)):Int)) (λ p4 Z3=>(.s 12 (.chk (true&&decide ((↑(U3 (getD l (k*1) mq)):Int)<(↑17:Int))) OS (.s 3 (.opt ((kv (bN l k))[0+U3 (getD l (k*1) mq)*1]?) (ea (bN l k (0+U3 (getD l (k*1) mq)*1))) (@yN (bN l k) (0+U3 (getD l (k*1) mq)*1) K8) (.s 2 (.opt (ax .u32 ((↑(bN l k (0+U3 (getD l (k*1) mq)*1)):Int)+1)) (uI ((↑(bN l k (0+U3 (getD l (k*1) mq)*1)):Int)+1)) (aE K8) (.s 2 (.chk (true&&decide ((↑(U3 (getD l (k*1) mq)):Int)<(↑17:Int))) OS (.s 2 (.chk (true&&U7 (0+U3 (getD l (k*1) mq)*1+1) 17) Uv (.lst (ai [ak (bN l k 0),ak (bN l k 1),ak (bN l k 2),ak (bN l k 3),ak (bN l k 4),ak (bN l k 5),ak (bN l k 6),ak (bN l k 7),ak (bN l k 8),ak (bN l k 9),ak (bN l k 10),ak (bN l k 11),ak (bN l k 12),ak (bN l k 13),ak (bN l k 14),ak (bN l k 15),ak (bN l k 16)] (0+U3 (getD l (k*1) mq)*1) [uI ((↑(bN l k (0+U3 (getD l (k*1) mq)*1)):Int)+1)]) ([ak (bN l (k+1) 0),ak (bN l (k+1) 1),ak (bN l (k+1) 2),ak (bN l (k+1) 3),ak (bN l (k+1) 4),ak (bN l (k+1) 5),ak (bN l (k+1) 6),ak (bN l (k+1) 7),ak (bN l (k+1) 8),ak (bN l (k+1) 9),ak (bN l (k+1) 10),ak (bN l (k+1) 11),ak (bN l (k+1) 12),ak (bN l (k+1) 13),ak (bN l (k+1) 14),ak (bN l (k+1) 15),ak (bN l (k+1) 16)]) (@OZ l k (0+U3 (getD l (k*1) mq)*1) om om K8) (.s 4 (.chk (true&&decide ((↑(U3 (getD l (k*1) mq)):Int)<(↑17:Int))) OS (.s 3 (.opt ((kv (bN l (k+1)))[0+U3 (getD l (k*1) mq)*1]?) (ea (bN l (k+1) (0+U3 (getD l (k*1) mq)*1))) (@yN (bN l (k+1)) (0+U3 (getD l (k*1) mq)*1) K8) (.s 2 (.opt (ax .u32 ((↑(bN l (k+1) (0+U3 (getD l (k*1) mq)*1)):Int)-1)) (uI ((↑(bN l (k+1) (0+U3 (getD l (k*1) mq)*1)):Int)-1)) (aE K8) (.s 10 (.chk (true&&decide ((k:Int)<n)) aF (.s 1 (.chk (true&&U7 (0+k*2+2) (length (flatMap ni (nW l k)))) (by(rw[ba (k:=2) (λ _=>rfl),sL];simp only[VM];refine U8 ?_;(omega))) (.lst (ai (flatMap ni (nW l k)) (0+k*2) [uI ((↑(bN l (k+1) (0+U3 (getD l (k*1) mq)*1)):Int)-1),bl (U3 (getD l (k*1) mq))]) (ai (flatMap ni (nW l k)) (k*2) [uI ((↑(bN l (k+1) (U3 (getD l k mq))):Int)-1),bl (U3 (getD l k mq))]) (by(simp;done)) (.s 2 (.ow (k+1) (.s 1 (.val 25 (zI (k+1)) (zN (k+1)) RL (.blk 8 8 (U1 (ai (flatMap ni (nW l k)) (k*2) [uI ((↑(bN l (k+1) (U3 (getD l k mq))):Int)-1),bl (U3 (getD l k mq))]) 210 true) (U1 (flatMap ni (nW l (k+1))) 210 true) (by(exact aB (UY hc15 (by(omega)) (by(omega))))) (Hn.next ZA ⟨(k+1),om,⟨⟩⟩ RM [(0,0),(8,8)] ro))))))))))))))))))))))))))))) (λ p4 Z3=>(.s 2 (.ow (k+1) (.s 1 (.val 25 (zI (k+1)) (zN (k+1)) RL (.blk 0 0 (U1 [ak (bN l k 0),ak (bN l k 1),ak (bN l k 2),ak (bN l k 3),ak (bN l k 4),ak (bN l k 5),ak (bN l k 6),ak (bN l k 7),ak (bN l k 8),ak (bN l k 9),ak (bN l k 10),ak (bN l k 11),ak (bN l k 12),ak (bN l k 13),ak (bN l k 14),ak (bN l k 15),ak (bN l k 16)] 234 false) (U1 [ak (bN l (k+1) 0),ak (bN l (k+1) 1),ak (bN l (k+1) 2),ak (bN l (k+1) 3),ak (bN l (k+1) 4),ak (bN l (k+1) 5),ak (bN l (k+1) 6),ak (bN l (k+1) 7),ak (bN l (k+1) 8),ak (bN l (k+1) 9),ak (bN l (k+1) 10),ak (bN l (k+1) 11),ak (bN l (k+1) 12),ak (bN l (k+1) 13),ak (bN l (k+1) 14),ak (bN l (k+1) 15),ak (bN l (k+1) 16)] 234 false) (by(exact aB (Lc (by(omega))))) (.blk 8 8 (U1 (flatMap ni (nW l k)) 210 true) (U1 (flatMap ni (nW l (k+1))) 210 true) (by(rw[O0 (by(omega)) (by(omega))])) (Hn.next ZA ⟨(k+1),om,⟨⟩⟩ RM [(0,0),(8,8)] ro))))))))))))))) (λ p3 Z4=>(.blk 8 8 (U1 (flatMap ni (nW l k)) 210 true) (U1 (flatMap ni (ac l)) 210 true) (by(rw[show k=l.length from by(omega),IK ho])) (Hn.last ZD 0 (():Unit) rfl [(8,8)] ro)))))) (fun|⟨k,hk,_⟩=>by kernel_rfl) ⟨(0),om,⟨⟩⟩ [(120,120),(184,184)] ro (ck (fun|()=>(.s 3 (.out [8] [8] (V2 [U6 0 0 0 n 2,zI 0]) [U1 (flatMap ni (ac l)) 210 true] R (ok _ _ wr wr)))))))))))))))))))))))))) kr
def yO (l:Z1)(m:Nat):Nat->Nat
 |0=>0
 |n+1=>if m<n+1∧l.getD n mq=0 then yO l m n else n+1
def jE (l:Z1)(m:Nat):Nat:=lk l (yO l m l.length)
theorem pj (l:Z1)(m:Nat):jE l m=yO l m l.length:=au _ _
theorem SS {l:Z1}{m n T u:Nat}(hR:yO l m n=T)(h:m<n)(hu:u=n-1)(h2:(((l.getD u mq).toNat:Nat):Int)=0):yO l m (n-1)=T:=by
 subst hu;obtain⟨g,rfl⟩:∃g,n=g+1:=⟨n-1,by omega⟩
 rw[<-hR,yO,ZF ⟨by omega,Iy h2⟩];rfl
theorem O2 {l:Z1}{m n T:Nat}(hR:yO l m n=T)(h:¬(m<n∧(l.getD (n-1) mq).toNat=0)):n=T:=by
 rw[<-hR]
 cases n with
 |zero=>rfl
 |succ n=>exact(ZE (λ q=>h ⟨by omega,by rw[Nat.add_sub_cancel,q.2];rfl⟩)).symm
theorem CL {l:Z1}{m:Nat}:∀n,yO l m n<=n∧(m<=n->m<=yO l m n)
 |0=>⟨Vd _,id⟩
 |n+1=>by
  rw[yO];split
  ·have:=CL (l:=l) (m:=m) n;omega
  ·omega
theorem mF (l:Z1)(m:Nat):jE l m<=l.length∧(m<=l.length->m<=jE l m):=by rw[pj];exact CL _
structure Nm where
 v:Nat
 n:Nat
 deriving Inhabited
abbrev bb (x:Nm):List D:=[ea x.v,nD x.n]
theorem dc (l:List Nm):(l.flatMap bb).length=l.length*2:=ba (k:=2) (λ _=>rfl) l
theorem de (l m:List Nm):(l++m).flatMap bb=l.flatMap bb++m.flatMap bb:=WL
theorem Ld (l:Z1)(L:Nat)(hL:L=l.length)(hL2:L<=320)(m:Nat)(hm:m<=1000)(T:Nat)(hT:jE l m=T):S0 109 [.sl false L 1 (l.map dB),nD m] [] (nD T) []:=by
 refine SpecH.run T_ok ah Tryz.func109 rfl rfl rfl trivial rfl 1000 64 (λ R ok=>(.s 4 (Hn.inl T_ok ah false 22 0 (aq Tryz.prog 109 0) (λ(x:(n:Nat)×'(hn:n<=L)×'(hR:yO l m n=T)×'Unit)=>match x with|⟨n,hn,hR,_⟩=>Vn [(0,Vl false L 1 (map dB l)),(1,zN m),(5,nD n)] [] 0) (λ(x:(n:Nat)×'(hn:n<=L)×'(hR:yO l m n=T)×'Unit)=>match x with|⟨n,hn,hR,_⟩=>n) [⟨Unit,.exit 0,λ x=>match x with|()=>Vn [(0,Vl false L 1 (map dB l)),(1,zN m),(5,nD T)] [] 0⟩] 1000 64 (fun|⟨n,hn,hR,_⟩,Q,ZA,ZD=>(.s 6 (.bd ((m:Int)<n) (λ p0 Z7=>(.s 5 (.ow (n-1) (.s 2 (.chk (decide (0<=(n:Int)-1)&&decide ((n:Int)-1<L)&&true) (by((refine aI ?_ ?_)<;>(repeat' (first|(refine aI ?_ ?_)|(with_reducible rfl)|(refine decide_eq_true ?_)|(refine U8 ?_)|(refine fw ?_)))<;>(omega))) (.s 3 (.opt ((map dB l)[AB ((n:Int)-1)*1]?) (dB (getD l (AB ((n:Int)-1)*1) mq)) (av _ _ om) (.s 4 (.br ((↑(U3 (getD l (AB ((n:Int)-1)*1) mq)):Int)==0) (λ p1=>have Z6:=eq_of_beq p1;(.s 3 (.ow (n-1) (.s 1 (.val 5 (zI (n-1)) (zN (n-1)) (by(refine aR ?_;omega)) (Hn.next ZA ⟨(n-1),om,(by(simp only[VG]at *;exact SS hR om (u:=((n:Int)-1).toNat) om om)),⟨⟩⟩ (by show n-1<n;clear ZA ZD;omega) [] ro)))))) (λ p1=>have Z6:=ap p1;(.val 5 (zN n) (zN T) (by(simp only[VG]at *;rw[O2 hR (by rw[show((n:Int)-1).toNat=n-1 from by omega]at *;omega)])) (Hn.last ZD 0 (():Unit) rfl [] ro)))))))))))) (λ p0 Z7=>(.s 12 (.val 5 (zN n) (zN T) (by(rw[O2 hR om])) (Hn.last ZD 0 (():Unit) rfl [] ro))))))) (fun|⟨n,hn,hR,_⟩=>by kernel_rfl) ⟨(L),om,(by(rw[hL];exact(pj l m).symm.trans hT)),⟨⟩⟩ [] ro (ck (fun|()=>(.s 2 (.out [] [] (zN T) [] R (ok _ _ wr wr)))))))) kr
def rg (X:List Nm):Nat->Nat
 |0=>0
 |i+1=>rg X i+(X.getD i mq).n
def CM (X:List Nm):Nat:=lk X (rg X X.length)
theorem wV (X:List Nm):CM X=rg X X.length:=au _ _
theorem IN {X:List Nm}(h:∀i,(X.getD i mq).n<=32):∀i,rg X i<=32*i
 |0=>Vd _
 |i+1=>by have:=IN h i;have:=h i;rw[rg];omega
theorem O3 {p:Prop}(h:p:=by(simp;have h9:=ie (v:=v) (c:=c) (m:=m) om;have h8:=mn m (c-m);omega)):p:=h
theorem O4 {p:Prop}(h:p:=by(have h9:=ie (v:=v) (c:=c) (m:=m) om;have h8:=mn m (c-m);omega)):p:=h
theorem O5 (c:Nat)(hc:c<=100000):S0 141 [.v (.int .u64 1),.v (.int .u64 c)] [] (.tup [.v (.int .u64 0),.v (.int .u64 c)]) []:=by
 refine SpecH.run T_ok ah Tryz.func141 rfl rfl rfl trivial rfl 1000 64 (λ R ok=>(.s 22 (.opt (bY W5 (Vo W5 (↑(VO (Vb 64 (c:Int)&&&Vb 64 4294967295)):Int))) (D.v (Wj .u64 ((c:Int)%4294967296))) (aQ (@nf 32 (4294967296:Int) ((c:Int)) (4294967295) om om om om)) (.s 4 (.opt (bY W5 (V1 (c:Int) 4294967296)) (D.v (Wj .u64 ((c:Int)/4294967296))) (aQ (@iO  ((c:Int)) (4294967296) om)) (.s 5 (.opt (ax .u64 (1*((c:Int)%4294967296))) (D.v (Wj .u64 (1*((c:Int)%4294967296)))) (bG om) (.s 5 (.opt (ax .u64 (0*((c:Int)%4294967296))) (D.v (Wj .u64 (0*((c:Int)%4294967296)))) (bG om) (.s 3 (.opt (bY W5 (V1 (1*((c:Int)%4294967296)) 4294967296)) (D.v (Wj .u64 (1*((c:Int)%4294967296)/4294967296))) (aQ (@iO  (1*((c:Int)%4294967296)) (4294967296) om)) (.s 2 (.opt (ax .u64 (0*((c:Int)%4294967296)+1*(c%4294967296)/4294967296)) (D.v (Wj .u64 (0*((c:Int)%4294967296)+1*(c%4294967296)/4294967296))) (bG om) (.s 4 (.opt (bY W5 (Vo W5 (↑(VO (Vb 64 (0*((c:Int)%4294967296)+1*(c%4294967296)/4294967296)&&&Vb 64 4294967295)):Int))) (D.v (Wj .u64 ((0*((c:Int)%4294967296)+1*(c%4294967296)/4294967296)%4294967296))) (aQ (@nf 32 (4294967296:Int) (0*((c:Int)%4294967296)+1*(c%4294967296)/4294967296) (4294967295) om om om om)) (.s 4 (.opt (bY W5 (V1 (0*((c:Int)%4294967296)+1*(c%4294967296)/4294967296) 4294967296)) (D.v (Wj .u64 ((0*((c:Int)%4294967296)+1*(c%4294967296)/4294967296)/4294967296))) (aQ (@iO  (0*((c:Int)%4294967296)+1*(c%4294967296)/4294967296) (4294967296) om)) (.s 6 (.opt (ax .u64 (1*((c:Int)/4294967296))) (D.v (Wj .u64 (1*((c:Int)/4294967296)))) (bG om) (.s 2 (.opt (ax .u64 ((0*((c:Int)%4294967296)+1*(c%4294967296)/4294967296)%4294967296+1*(c/4294967296))) (D.v (Wj .u64 ((0*((c:Int)%4294967296)+1*(c%4294967296)/4294967296)%4294967296+1*(c/4294967296)))) (bG om) (.s 5 (.opt (ax .u64 (0*((c:Int)/4294967296))) (D.v (Wj .u64 (0*((c:Int)/4294967296)))) (bG om) (.s 3 (.opt (ax .u64 (0*((c:Int)/4294967296)+(0*(c%4294967296)+1*(c%4294967296)/4294967296)/4294967296)) (D.v (Wj .u64 (0*((c:Int)/4294967296)+(0*(c%4294967296)+1*(c%4294967296)/4294967296)/4294967296))) (bG om) (.s 3 (.opt (bY W5 (V1 ((0*((c:Int)%4294967296)+1*(c%4294967296)/4294967296)%4294967296+1*(c/4294967296)) 4294967296)) (D.v (Wj .u64 (((0*((c:Int)%4294967296)+1*(c%4294967296)/4294967296)%4294967296+1*(c/4294967296))/4294967296))) (aQ (@iO  ((0*((c:Int)%4294967296)+1*(c%4294967296)/4294967296)%4294967296+1*(c/4294967296)) (4294967296) om)) (.s 2 (.opt (ax .u64 (0*((c:Int)/4294967296)+(0*(c%4294967296)+1*(c%4294967296)/4294967296)/4294967296+((0*(c%4294967296)+1*(c%4294967296)/4294967296)%4294967296+1*(c/4294967296))/4294967296)) (D.v (Wj .u64 (0*((c:Int)/4294967296)+(0*(c%4294967296)+1*(c%4294967296)/4294967296)/4294967296+((0*(c%4294967296)+1*(c%4294967296)/4294967296)%4294967296+1*(c/4294967296))/4294967296))) (bG om) (.s 5 (.opt (ax .u64 (1*(c:Int))) (D.v (Wj .u64 (1*(c:Int)))) (bG om) (.s 12 (.out [] [] (V2 [D.v (Wj .u64 (0*((c:Int)/4294967296)+(0*(c%4294967296)+1*(c%4294967296)/4294967296)/4294967296+((0*(c%4294967296)+1*(c%4294967296)/4294967296)%4294967296+1*(c/4294967296))/4294967296)),D.v (Wj .u64 (1*(c:Int)))]) [] R (ok _ _ (by(simp <;>(omega))) wr)))))))))))))))))))))))))))))))))) kr
def dh (v:UInt8)(c m:Nat):Z1:=Vk m v++Vk (c-m) 0
theorem ie {v:UInt8}{c m:Nat}(h:m<=c):(dh v c m).length=c:=by unfold dh;simp;omega
theorem mn (a b:Nat):WB a b<=a∧WB a b<=b∧(1<=a->1<=b->1<=WB a b):=by
 show min a b<=a∧min a b<=b∧(1<=a->1<=b->1<=min a b);omega
theorem SU {L:List D}{m:Nat}:(bif true&&U5 (m*1) L.length then L else(L.drop 0).take (m*1))=L.take m:=by
 rw[VG,Wm]
 cases h:(true&&U5 m L.length)with
 |false=>rfl
 |true=>
  have:=Vc ((VM _).symm.trans h);rw[cond_true,this,Wd]
theorem Lf {v:UInt8}{c:Nat}(h:1<=c):ai (dJ [D.v (.int .u8 0)] c) 0 (VX (WB 1 c) [D.v (.int .u8 ((v.toNat:Nat):Int))])=(dh v c 1).map dB:=by
 have e:WB 1 c=1:=by show min 1 c=1;omega
 have r:dJ [D.v (.int .u8 0)] c=Vk c (dB 0):=by
  rw[XY];refine⟨by simp[dJ],λ d hd=>?_⟩;unfold dJ at hd;obtain⟨j,_,rfl⟩:=List.mem_map.1 hd;show[D.v (.int .u8 0)].getD (j%1) mq=dB 0;rw[Nat.mod_one];rfl
 rw[e,r];unfold dh ai;rw[V4,W7,W7,YP];rfl
theorem Lg {v:UInt8}{c m k:Nat}(h:k<=m)(h2:m+k<=c):ai ((dh v c m).map dB) m (List.map dB (VX k (VX m (dh v c m))))=(dh v c (m+k)).map dB:=by
 have e1:(dh v c m).take m=Vk m v:=by
  unfold dh;rw[Xn (by simp),ZN,Nat.min_self]
 unfold ai;rw[<-Yf,e1,ZN,YM h,Vj,VJ,<-ZT,<-V4,<-V4]
 congr 1
 unfold dh;rw[aat,YP,YP,VJ,show m-(m+k)=0 from by omega,show c-m-(m+k-m)=c-(m+k)from by omega];simp[List.replicate_append_replicate]
theorem va (nn:Bool)(v:UInt8)(c:Nat)(hc:1<=c∧c<=100000):S0 105 [.sl nn 1 1 [dB v],nD c] [] (.ref 0 0 0 c 1) [⟨(Vk c v).map dB, 5,true⟩]:=by
 refine SpecH.run T_ok ah Tryz.func105 rfl rfl rfl ⟨bn _,trivial⟩ rfl 1000 64 (λ R ok=>(.s 11 (.opt (ax .u64 (c:Int)) (D.v (Wj .u64 (c:Int))) (bG om) (.s 1 (.cl 141 false [] (.fn Sm (@O5 (c) om)) (.s 17 (.f (decide (9223372036854775807<(c:Int))) (by(refine decide_eq_false ?_;(omega))) (.s 2 (.ow (c:Int) (.s 1 (.chk (true&&decide ((c:Int)<=c)&&true&&true&&true&&true&&decide ((↑(TI.bytes Fy):Int)*(c:Int)<=140737488355328)) (by(have h9:((Fy.bytes:Nat):Int)=1:=rfl;rw[h9];simp;omega)) (.s 4 (.chk (true&&Nat.blt 0 (WB 1 c)&&U7 (0+c) (length (dJ [bI 0] (c*1)))) (by(simp_all;done)) (.lst (ai (dJ [bI 0] (c*1)) 0 (take (WB 1 c) [bl (U3 v)])) (ai (dJ [bI 0] c) 0 (take (WB 1 c) [bl (U3 v)])) (by(simp;done)) (.s 1 (.val 8 (zN (WB 1 c)) (zI 1) (by(simp_all;done)) (.blk 176 176 (U1 (ai (dJ [bI 0] c) 0 (take (WB 1 c) [bl (U3 v)])) 5 true) (U1 (map dB (dh v c 1)) 5 true) (by(refine aB (Lf om))) (Hn.inl T_ok ah false 48 0 (aq Tryz.prog 105 0) (λ(x:(m:Nat)×'(hm:1<=m∧m<=c)×'Unit)=>match x with|⟨m,hm,_⟩=>Vn [(7,U6 0 0 0 c 1),(8,nD m)] [⟨0,0,176,176,.b ⟨(dh v c m).map dB,5,true⟩⟩] 8) (λ(x:(m:Nat)×'(hm:1<=m∧m<=c)×'Unit)=>match x with|⟨m,hm,_⟩=>c-m) [⟨Unit,.exit 0,λ x=>match x with|()=>Vn [(7,U6 0 0 0 c 1)] [⟨0,0,176,176,.b ⟨(replicate c v).map dB,5,true⟩⟩] 8⟩] 1000 64 (fun|⟨m,hm,_⟩,Q,ZA,ZD=>(.s 5 (.bd ((m:Int)<c) (λ p0 Z7=>(.s 5 (.chk (aU (some (m:Int)) none none c&&true) O3 (.s 3 (.chk (aU none (some (m:Int)) none c&&true) O3 (.s 1 (.chk (true&&U7 (0+m*1) (length (map dB (dh v c m)))&&true&&true&&true&&Nat.blt 0 (WB m (c-m))&&U7 (0+m*1+(c-m)) (length (map dB (dh v c m)))) (by(simp only[VM,VV,Vj];have h9:=ie (v:=v) (c:=c) (m:=m) om;have h8:=mn m (c-m);simp only[U9];refine⟨⟨U8 om,U8 om⟩,U8 om⟩)) (.lst (ai (map dB (dh v c m)) (0+m*1) (take (WB m (c-m)) (bif true&&U5 (m*1) (length (map dB (dh v c m)))then map dB (dh v c m)else take (m*1) (drop 0 (map dB (dh v c m)))))) (ai (map dB (dh v c m)) m (map dB (take (WB m (c-m)) (take m (dh v c m))))) (by(rw[SU,VG,VK,Yf,Yf])) (.s 2 (.op (m+(↑(WB m (c-m)):Int)) O4 (.s 1 (.val 8 (zI (m+(↑(WB m (c-m)):Int))) (zN (m+WB m (c-m))) (by(refine aR ?_;(omega))) (.blk 0 0 (U1 (ai (map dB (dh v c m)) m (map dB (take (WB m (c-m)) (take m (dh v c m))))) 5 true) (U1 (map dB (dh v c (m+WB m (c-m)))) 5 true) (by(have h9:=ie (v:=v) (c:=c) (m:=m) om;have h8:=mn m (c-m);refine aB (Lg om om))) (Hn.next ZA ⟨(m+WB m (c-m)),O4,⟨⟩⟩ (by show c-(m+WB m (c-m))<c-m;clear ZA ZD;(have h9:=ie (v:=v) (c:=c) (m:=m) om;have h8:=mn m (c-m);omega)) [(0,0)] ro)))))))))))))) (λ p0 Z7=>(.blk 0 0 (U1 (map dB (dh v c m)) 5 true) (U1 (map dB (replicate c v)) 5 true) (by(rw[show m=c from by(omega)];unfold dh;simp;done)) (Hn.last ZD 0 (():Unit) rfl [(0,0)] ro)))))) (fun|⟨m,hm,_⟩=>by kernel_rfl) ⟨(1),om,⟨⟩⟩ [(176,176)] ro (ck (fun|()=>(.s 2 (.out [0] [0] (U6 0 0 0 c 1) [U1 (map dB (replicate c v)) 5 true] R (ok _ _ wr wr))))))))))))))))))))))) kr
def bE:Z1:=Vk 144 8++Vk 112 9++Vk 24 7++Vk 8 8
def cY:Z1:=Vk 32 5
theorem O6 (R:Z1)(hR:R=Vk 144 8):S0 105 [.sl true 1 1 [.v (.int .u8 8)],iD 144] [] (.ref 0 0 0 144 1) [⟨R.map dB, 5,true⟩]:=by
 subst hR;exact va true 8 144 (by decide)
theorem O7 (R:Z1)(hR:R=Vk 112 9):S0 105 [.sl true 1 1 [.v (.int .u8 9)],iD 112] [] (.ref 0 0 0 112 1) [⟨R.map dB, 5,true⟩]:=by
 subst hR;exact va true 9 112 (by decide)
theorem O8 (R:Z1)(hR:R=Vk 24 7):S0 105 [.sl true 1 1 [.v (.int .u8 7)],iD 24] [] (.ref 0 0 0 24 1) [⟨R.map dB, 5,true⟩]:=by
 subst hR;exact va true 7 24 (by decide)
theorem O9 (R:Z1)(hR:R=Vk 8 8):S0 105 [.sl true 1 1 [.v (.int .u8 8)],iD 8] [] (.ref 0 0 0 8 1) [⟨R.map dB, 5,true⟩]:=by
 subst hR;exact va true 8 8 (by decide)
theorem Pa (R:Z1)(hR:R=Vk 32 5):S0 105 [.sl true 1 1 [.v (.int .u8 5)],iD 32] [] (.ref 0 0 0 32 1) [⟨R.map dB, 5,true⟩]:=by
 subst hR;exact va true 5 32 (by decide)
theorem FW (R1 R2 R3 R4 R5:Z1)(h1:R1=Vk 144 8)(h2:R2=Vk 112 9)(h3:R3=Vk 24 7)(h4:R4=Vk 8 8)(h5:R5=Vk 32 5):S0 86 [] [] (.tup [.ref 0 0 0 288 1,.ref 1 1 0 32 1]) [⟨(R1++R2++R3++R4).map dB, 5,true⟩,⟨R5.map dB, 5,true⟩]:=by
 have l1:R1.length=144:=by rw[h1,VJ]
 have l2:R2.length=112:=by rw[h2,VJ]
 have l3:R3.length=24:=by rw[h3,VJ]
 have l4:R4.length=8:=by rw[h4,VJ]
 have l5:R5.length=32:=by rw[h5,VJ]
 refine SpecH.run T_ok ah Tryz.func86 rfl rfl rfl ⟨bn _,bn _,trivial⟩ rfl 1000 64 (λ R ok=>(.s 5 (.cl 105 false [] (.fn B8 (@O6 (R1) aF)) (.s 3 (.cl 105 false [] (.fn B8 (@O7 (R2) aF)) (.s 3 (.cl 105 false [] (.fn B8 (@O8 (R3) aF)) (.s 3 (.cl 105 false [] (.fn B8 (@O9 (R4) aF)) (.s 165 (.chk (true&&(true&&U7 144 (length (map dB R1)))&&true&&true&&true) (by(simp <;>(omega))) (.s 17 (.chk (true&&U5 144 (length (bif true&&U5 144 (length (map dB R1))then map dB R1 else take 144 (drop 0 (map dB R1))))&&true&&(true&&U7 112 (length (map dB R2)))&&true&&true&&true) (by(simp_all;done)) (.s 17 (.chk (true&&U5 256 (length ((bif true&&U5 144 (length (map dB R1))then map dB R1 else take 144 (drop 0 (map dB R1)))++bif true&&U5 112 (length (map dB R2))then map dB R2 else take 112 (drop 0 (map dB R2))))&&true&&(true&&U7 24 (length (map dB R3)))&&true&&true&&true) (by(simp_all;done)) (.s 17 (.chk (true&&U5 280 (length (((bif true&&U5 144 (length (map dB R1))then map dB R1 else take 144 (drop 0 (map dB R1)))++bif true&&U5 112 (length (map dB R2))then map dB R2 else take 112 (drop 0 (map dB R2)))++bif true&&U5 24 (length (map dB R3))then map dB R3 else take 24 (drop 0 (map dB R3))))&&true&&(true&&U7 8 (length (map dB R4)))&&true&&true&&true) (by(simp_all;done)) (.s 15 (.cl 105 false [] (.fn B8 (@Pa (R5) aF)) (.s 2 (.out [1112,1272] [1112,1272] (V2 [U6 0 0 0 288 1,U6 1 1 0 32 1]) [U1 ((((bif true&&U5 144 (length (map dB R1))then map dB R1 else take 144 (drop 0 (map dB R1)))++bif true&&U5 112 (length (map dB R2))then map dB R2 else take 112 (drop 0 (map dB R2)))++bif true&&U5 24 (length (map dB R3))then map dB R3 else take 24 (drop 0 (map dB R3)))++bif true&&U5 8 (length (map dB R4))then map dB R4 else take 8 (drop 0 (map dB R4))) 5 true,U1 (map dB R5) 5 true] R (ok _ _ wr (by(simp_all;done)))))))))))))))))))))))) kr
theorem ly (L F:Z1)(hL:L=bE)(hF:F=cY):S0 86 [] [] (.tup [.ref 0 0 0 288 1,.ref 1 1 0 32 1]) [⟨L.map dB, 5,true⟩,⟨F.map dB, 5,true⟩]:=by
 subst hL hF;exact FW _ _ _ _ _ rfl rfl rfl rfl rfl
theorem lD:S0 111 [] [] (.agg ([16,17,18,0,8,7,9,6,10,5,11,4,12,3,13,2,14,1,15].map nD)) []:=by
 refine SpecH.run T_ok ah Tryz.func111 rfl rfl rfl trivial rfl 1000 64 (λ R ok=>(.s 10 (.out [] [] (Wp [zI 16,zI 17,zI 18,zI 0,zI 8,zI 7,zI 9,zI 6,zI 10,zI 5,zI 11,zI 4,zI 12,zI 3,zI 13,zI 2,zI 14,zI 1,zI 15]) [] R (ok _ _ (by(simp;done)) wr)))) kr
theorem RN {p:Prop}(h:p:=by(refine aR ?_;(omega))):p:=h
theorem Uy {p:Prop}(h:p:=by((refine aI ?_ ?_)<;>(repeat' (first|(refine aI ?_ ?_)|(with_reducible rfl)|(refine decide_eq_true ?_)|(refine U8 ?_)|(refine fw ?_)))<;>(omega))):p:=h
def gv (at':Nat):Nat:=lk [()] ((8-(at'+3)%8)%8)
theorem lE (at':Nat):gv at'=(8-(at'+3)%8)%8:=au _ _
def vb (x:UInt8):Nm:=⟨x.toNat,8⟩
def kx (e k:Nat):List Nm:=[⟨e,1⟩,⟨k,2⟩]
def Pb (e a r:Nat):List Nm:=[⟨e,1⟩,⟨0,2⟩,⟨0,gv a⟩,⟨r,16⟩,⟨65535-r,16⟩]
def qf (e a:Nat)(raw:Z1)(i:Nat):List Nm:=lk raw (Pb e a raw.length++(raw.take i).map vb)
theorem fK (e a:Nat)(raw:Z1)(i:Nat):qf e a raw i=Pb e a raw.length++(raw.take i).map vb:=au _ _
def nj (e a:Nat)(raw:Z1):List Nm:=qf e a raw raw.length
theorem lF {e a:Nat}{raw:Z1}{i:Nat}(h:i<=raw.length):(qf e a raw i).length=5+i:=by
 rw[fK,U2,Vj,Vg,YM h];rfl
theorem Pd {e a:Nat}{raw:Z1}{i:Nat}(h:i<raw.length):(qf e a raw (i+1)).flatMap bb=(qf e a raw i).flatMap bb++bb ⟨(raw.getD i mq).toNat,8⟩:=by
 have e1:raw.take (i+1)=raw.take i++[raw.getD i mq]:=by
  rw[VT h,UZ,U4 h];rfl
 rw[fK,fK,e1,V4,<-Ve,de];rfl
theorem Pe {e a:Nat}{raw:Z1}:(qf e a raw 0).flatMap bb=[ea e,nD 1,ea 0,nD 2,ea 0,nD (gv a),ea raw.length,nD 16,ea (65535-raw.length),nD 16]:=by
 rw[fK];rfl
theorem IP {e a:Nat}{raw:Z1}{r:Nat}{x y:Int}(hr:r=raw.length)(hx:x=(gv a:Int))(hy:y=((65535-r:Nat):Int)):[D.v (.int .u32 (e:Int)),D.v (.int .i64 1),D.v (.int .u32 0),D.v (.int .i64 2),D.v (.int .u32 0),D.v (.int .i64 x),D.v (.int .u32 (r:Int)),D.v (.int .i64 16),D.v (.int .u32 y),D.v (.int .i64 16)]=(qf e a raw 0).flatMap bb:=by
 subst hr hx hy;exact Pe.symm
theorem IQ {e a:Nat}{raw:Z1}{i u:Nat}(hu:u=i)(h:i<raw.length):(qf e a raw i).flatMap bb++[D.v (.int .u32 (((raw.getD u mq).toNat:Nat):Int)),D.v (.int .i64 8)]=(qf e a raw (i+1)).flatMap bb:=by
 subst hu;exact(Pd h).symm
theorem Pf (k:Nat)(cs:List D)(hcs:cs.length=k*3)(a:Nat)(ha:a<=7)(raw:Z1)(r:Nat)(hr:r=raw.length)(hr2:r<=65535)(L F:Z1)(hL:L=bE)(hF:F=cY):S0 65 [nD a,fP 0,.sl false r 1 (raw.map dB),.sl false k 3 cs,.v (.bool true)] [] (.ptr 0 0 0) [⟨[.ref 1 1 0 (5+r) 2], 123,false⟩,⟨(nj 1 a raw).flatMap bb, 126,true⟩]:=by
 refine SpecH.run T_ok ah Tryz.func65 rfl rfl rfl ⟨rfl,gi (λ _=>rfl) _,trivial⟩ rfl 1000 64 (λ R ok=>(.s 43 (.cl 86 false [] (.fn N2 (@ly (L) (F) aF aF)) (.s 21 (.ow (a+3) (.s 2 (.opt (bY VN (XK ((a:Int)+3) 8)) (zI (((a:Int)+3)%8)) (aQ (@ee  ((a:Int)+3) (8) om)) (.s 2 (.ow (8-((a:Int)+3)%8) (.s 2 (.opt (bY VN (XK (8-((a:Int)+3)%8) 8)) (zI ((8-((a:Int)+3)%8)%8)) (aQ (@ee  (8-((a:Int)+3)%8) (8) om)) (.s 5 (.opt (ax .u32 (r:Int)) (ak r) (aE om) (.s 6 (.ow (65535-(r:Int)) (.s 1 (.opt (ax .u32 (65535-(r:Int))) (uI (65535-(r:Int))) (aE om) (.s 28 (.blk 560 560 (U1 [uI 1,zI 1,uI 0,zI 2,uI 0,zI ((8-((a:Int)+3)%8)%8),ak r,zI 16,uI (65535-(r:Int)),zI 16] 126 true) (U1 (flatMap bb (qf 1 a raw 0)) 126 true) (by(refine aB (IP (e:=1) hr ?_ ?_)<;>(try rw[lE])<;>omega)) (Hn.inl T_ok ah false 39 368 (aq Tryz.prog 87 0) (λ(x:(i:Nat)×'(hi:i<=r)×'Unit)=>match x with|⟨i,hi,_⟩=>Vn [(0,Vh 16 16 0),(26,Vl false r 1 (map dB raw)),(27,zN r),(28,nD i)] [⟨16,16,16,16,.b ⟨[(U6 400 400 (0) (5+i) 2)],123,false⟩⟩,⟨104,104,104,104,.b ⟨[uI 1,zI 1,uI 0,zI 2],126,false⟩⟩,⟨264,264,264,264,.b ⟨map dB L,5,true⟩⟩,⟨265,265,265,265,.b ⟨map dB F,5,true⟩⟩,⟨400,400,560,560,.b ⟨(qf 1 a raw i).flatMap bb,126,true⟩⟩] 408) (λ(x:(i:Nat)×'(hi:i<=r)×'Unit)=>match x with|⟨i,hi,_⟩=>r-i) [⟨Unit,.exit 0,λ x=>match x with|()=>Vn [(0,Vh 16 16 0),(26,Vl false r 1 (map dB raw)),(27,zN r),(28,nD r)] [⟨16,16,16,16,.b ⟨[(U6 400 400 (0) (5+r) 2)],123,false⟩⟩,⟨104,104,104,104,.b ⟨[uI 1,zI 1,uI 0,zI 2],126,false⟩⟩,⟨264,264,264,264,.b ⟨map dB L,5,true⟩⟩,⟨265,265,265,265,.b ⟨map dB F,5,true⟩⟩,⟨400,400,560,560,.b ⟨(nj 1 a raw).flatMap bb,126,true⟩⟩] 408⟩] 1000 64 (fun|⟨i,hi,_⟩,Q,ZA,ZD=>(.s 2 (.bd ((i:Int)<r) (λ p0 Z7=>(.s 1 (.chk (true&&decide ((i:Int)<r)&&true) Uy (.s 2 (.opt ((map dB raw)[i*1]?) (dB (getD raw (i*1) mq)) (av _ _ om) (.s 4 (.opt (ax .u32 (↑(U3 (getD raw (i*1) mq)):Int)) (ak (U3 (getD raw (i*1) mq))) (aE (by(exact iP _ (by decide) (by decide)))) (.s 17 (.chk (true&&U5 ((5+i)*2) (length (flatMap bb (qf 1 a raw i)))&&true&&true&&true&&true&&U7 ((5+i+1)*16) 140737488355328) (by(simp only[dc,lF (raw:=raw) (e:=1) (a:=a) (i:=i) om,Wo,VM,VV];refine U8 ?_;omega)) (.s 9 (.ow (i+1) (.s 1 (.val 28 (zI (i+1)) (zN (i+1)) RN (.blk 16 16 (U1 [U6 536 536 0 (5+i+1) 2] 123 false) (U1 [U6 536 536 0 (5+(i+1)) 2] 123 false) (by(simp <;>(omega))) (.blk 536 536 (U1 (flatMap bb (qf 1 a raw i)++[ak (U3 (getD raw (i*1) mq)),zI 8]) 126 true) (U1 (flatMap bb (qf 1 a raw (i+1))) 126 true) (by(refine aB (IQ om om))) (Hn.next ZA ⟨(i+1),om,⟨⟩⟩ (by show r-(i+1)<r-i;clear ZA ZD;omega) [(16,16),(104,104),(264,264),(265,265),(536,536)] ro)))))))))))))))) (λ p0 Z7=>(.val 28 (zN i) (zN r) RN (.blk 16 16 (U1 [U6 400 400 0 (5+i) 2] 123 false) (U1 [U6 400 400 0 (5+r) 2] 123 false) (by(simp <;>(omega))) (.blk 400 400 (U1 (flatMap bb (qf 1 a raw i)) 126 true) (U1 (flatMap bb (nj 1 a raw)) 126 true) (by(rw[show i=raw.length from by omega];rfl)) (Hn.last ZD 0 (():Unit) rfl [(16,16),(104,104),(264,264),(265,265),(400,400)] ro)))))))) (fun|⟨i,hi,_⟩=>by kernel_rfl) ⟨(0),om,⟨⟩⟩ [(16,16),(104,104),(264,264),(265,265),(560,560)] ro (ck (fun|()=>(.s 2 (.out [16,400] [16,400] (Vh 0 0 0) [U1 [U6 1 1 0 (5+r) 2] 123 false,U1 (flatMap bb (nj 1 a raw)) 126 true] R (ok _ _ wr wr))))))))))))))))))))))))) kr
theorem Pg (k:Nat)(cs:List D)(hcs:cs.length=k*3)(a:Nat)(ha:a<=7)(raw:Z1)(r:Nat)(hr:r=raw.length)(hr2:r<=65535)(L F:Z1)(hL:L=bE)(hF:F=cY):S0 65 [nD a,fP 0,.sl false r 1 (raw.map dB),.sl false k 3 cs,.v (.bool false)] [] (.ptr 0 0 0) [⟨[.ref 1 1 0 (5+r) 2], 123,false⟩,⟨(nj 0 a raw).flatMap bb, 126,true⟩]:=by
 refine SpecH.run T_ok ah Tryz.func65 rfl rfl rfl ⟨rfl,gi (λ _=>rfl) _,trivial⟩ rfl 1000 64 (λ R ok=>(.s 42 (.cl 86 false [] (.fn N2 (@ly (L) (F) aF aF)) (.s 21 (.ow (a+3) (.s 2 (.opt (bY VN (XK ((a:Int)+3) 8)) (zI (((a:Int)+3)%8)) (aQ (@ee  ((a:Int)+3) (8) om)) (.s 2 (.ow (8-((a:Int)+3)%8) (.s 2 (.opt (bY VN (XK (8-((a:Int)+3)%8) 8)) (zI ((8-((a:Int)+3)%8)%8)) (aQ (@ee  (8-((a:Int)+3)%8) (8) om)) (.s 5 (.opt (ax .u32 (r:Int)) (ak r) (aE om) (.s 6 (.ow (65535-(r:Int)) (.s 1 (.opt (ax .u32 (65535-(r:Int))) (uI (65535-(r:Int))) (aE om) (.s 28 (.blk 552 552 (U1 [uI 0,zI 1,uI 0,zI 2,uI 0,zI ((8-((a:Int)+3)%8)%8),ak r,zI 16,uI (65535-(r:Int)),zI 16] 126 true) (U1 (flatMap bb (qf 0 a raw 0)) 126 true) (by(refine aB (IP (e:=0) hr ?_ ?_)<;>(try rw[lE])<;>omega)) (Hn.inl T_ok ah false 39 360 (aq Tryz.prog 87 0) (λ(x:(i:Nat)×'(hi:i<=r)×'Unit)=>match x with|⟨i,hi,_⟩=>Vn [(0,Vh 16 16 0),(26,Vl false r 1 (map dB raw)),(27,zN r),(28,nD i)] [⟨16,16,16,16,.b ⟨[(U6 392 392 (0) (5+i) 2)],123,false⟩⟩,⟨96,96,96,96,.b ⟨[uI 0,zI 1,uI 0,zI 2],126,false⟩⟩,⟨256,256,256,256,.b ⟨map dB L,5,true⟩⟩,⟨257,257,257,257,.b ⟨map dB F,5,true⟩⟩,⟨392,392,552,552,.b ⟨(qf 0 a raw i).flatMap bb,126,true⟩⟩] 400) (λ(x:(i:Nat)×'(hi:i<=r)×'Unit)=>match x with|⟨i,hi,_⟩=>r-i) [⟨Unit,.exit 0,λ x=>match x with|()=>Vn [(0,Vh 16 16 0),(26,Vl false r 1 (map dB raw)),(27,zN r),(28,nD r)] [⟨16,16,16,16,.b ⟨[(U6 392 392 (0) (5+r) 2)],123,false⟩⟩,⟨96,96,96,96,.b ⟨[uI 0,zI 1,uI 0,zI 2],126,false⟩⟩,⟨256,256,256,256,.b ⟨map dB L,5,true⟩⟩,⟨257,257,257,257,.b ⟨map dB F,5,true⟩⟩,⟨392,392,552,552,.b ⟨(nj 0 a raw).flatMap bb,126,true⟩⟩] 400⟩] 1000 64 (fun|⟨i,hi,_⟩,Q,ZA,ZD=>(.s 2 (.bd ((i:Int)<r) (λ p0 Z7=>(.s 1 (.chk (true&&decide ((i:Int)<r)&&true) Uy (.s 2 (.opt ((map dB raw)[i*1]?) (dB (getD raw (i*1) mq)) (av _ _ om) (.s 4 (.opt (ax .u32 (↑(U3 (getD raw (i*1) mq)):Int)) (ak (U3 (getD raw (i*1) mq))) (aE (by(exact iP _ (by decide) (by decide)))) (.s 17 (.chk (true&&U5 ((5+i)*2) (length (flatMap bb (qf 0 a raw i)))&&true&&true&&true&&true&&U7 ((5+i+1)*16) 140737488355328) (by(simp only[dc,lF (raw:=raw) (e:=0) (a:=a) (i:=i) om,Wo,VM,VV];refine U8 ?_;omega)) (.s 9 (.ow (i+1) (.s 1 (.val 28 (zI (i+1)) (zN (i+1)) RN (.blk 16 16 (U1 [U6 528 528 0 (5+i+1) 2] 123 false) (U1 [U6 528 528 0 (5+(i+1)) 2] 123 false) (by(simp <;>(omega))) (.blk 528 528 (U1 (flatMap bb (qf 0 a raw i)++[ak (U3 (getD raw (i*1) mq)),zI 8]) 126 true) (U1 (flatMap bb (qf 0 a raw (i+1))) 126 true) (by(refine aB (IQ om om))) (Hn.next ZA ⟨(i+1),om,⟨⟩⟩ (by show r-(i+1)<r-i;clear ZA ZD;omega) [(16,16),(96,96),(256,256),(257,257),(528,528)] ro)))))))))))))))) (λ p0 Z7=>(.val 28 (zN i) (zN r) RN (.blk 16 16 (U1 [U6 392 392 0 (5+i) 2] 123 false) (U1 [U6 392 392 0 (5+r) 2] 123 false) (by(simp <;>(omega))) (.blk 392 392 (U1 (flatMap bb (qf 0 a raw i)) 126 true) (U1 (flatMap bb (nj 0 a raw)) 126 true) (by(rw[show i=raw.length from by omega];rfl)) (Hn.last ZD 0 (():Unit) rfl [(16,16),(96,96),(256,256),(257,257),(392,392)] ro)))))))) (fun|⟨i,hi,_⟩=>by kernel_rfl) ⟨(0),om,⟨⟩⟩ [(16,16),(96,96),(256,256),(257,257),(552,552)] ro (ck (fun|()=>(.s 2 (.out [16,392] [16,392] (Vh 0 0 0) [U1 [U6 1 1 0 (5+r) 2] 123 false,U1 (flatMap bb (nj 0 a raw)) 126 true] R (ok _ _ wr wr))))))))))))))))))))))))) kr
theorem kW {p:Prop}(h:p:=by(have h9:=hl i;have h5:=Wl (l.getD i mq).lit;have h2:=bK hT1 hT2 (hl i);have h8:=fN (l.getD i mq).lit.toNat;have h4:=fN (257+ao T1 (l.getD i mq).long);have h3:=okF (ao T2 (l.getD i mq).dist);have g1:=hz1 (ao T1 (l.getD i mq).long);have g2:=hz2 (ao T2 (l.getD i mq).dist);have g3:=fN 256;have h7:=cH (T1:=T1) (T2:=T2) (A:=ac L) (B:=ac F) (H:=H) (l:=l) i om;unfold ef at h9;omega)):p:=h
theorem qg {p:Prop}(h:p:=by(have h9:=hl 0;have h5:=Wl (l.getD 0 mq).lit;have h2:=bK hT1 hT2 (hl 0);have h8:=fN (l.getD 0 mq).lit.toNat;have h4:=fN (257+ao T1 (l.getD 0 mq).long);have h3:=okF (ao T2 (l.getD 0 mq).dist);have g1:=hz1 (ao T1 (l.getD 0 mq).long);have g2:=hz2 (ao T2 (l.getD 0 mq).dist);have g3:=fN 256;have h7:=cH (T1:=T1) (T2:=T2) (A:=ac L) (B:=ac F) (H:=H) (l:=l) 0 om;unfold ef at h9;omega)):p:=h
theorem FX {p:Prop}(h:p:=by(exact Vq (fN _).1 (by decide))):p:=h
theorem IR {p:Prop}(h:p:=by cases d<;>repeat' first|exact trivial|exact rfl|exact(λ _=>cR _)|exact(λ _=>by assumption)|exact(λ _=>cE _ (λ _=>rfl) _)|exact(λ _=>fO (λ _=>rfl) _)|(intro h;cases h;done)|(intro _;rfl)|(intro _;exact dM _ (cE _ (λ _=>rfl) _))|exact mr _ (cE _ (λ _=>rfl) _)|refine VR ?_ ?_|refine iL ?_ ?_|(intro _;refine eg ?_ ?_)|refine eg ?_ ?_|(intro _;refine js ?_ ?_)|exact dM _ (cE _ (λ _=>rfl) _)|exact cE _ (λ _=>rfl) _):p:=h
theorem Nc {p:Prop}(h:p:=by(rw[show i=k from by omega])):p:=h
theorem RO {p:Prop}(h:p:=by(rw[gI];have h5:=Wl (l.getD 0 mq).lit;refine U8 ?_;omega)):p:=h
theorem RP {p:Prop}(h:p:=by(have h7:=cH (T1:=T1) (T2:=T2) (A:=ac L) (B:=ac F) (H:=H) (l:=l) i om;simp only[U2,dc,VE,WZ,VM,VV,U9,Nat.beq_eq,Nat.ble_eq];omega)):p:=h
theorem RQ {p:Prop}(h:p:=by(have h7:=cH (T1:=T1) (T2:=T2) (A:=ac L) (B:=ac F) (H:=H) (l:=l) i om;simp only[dc,Wo,VM,VV];refine U8 ?_;omega)):p:=h
theorem RR {p:Prop}(h:p:=by(refine aR ?_;(omega))):p:=h
theorem RS {p:Prop}(h:p:=by show k-(i+1)<k-i;clear ZA ZD;omega):p:=h
theorem FY {p:Prop}(h:p:=by(refine decide_eq_true ?_;have h9:=hl i;have h5:=Wl (l.getD i mq).lit;have h2:=bK hT1 hT2 (hl i);have h8:=fN (l.getD i mq).lit.toNat;have h4:=fN (257+ao T1 (l.getD i mq).long);have h3:=okF (ao T2 (l.getD i mq).dist);have g1:=hz1 (ao T1 (l.getD i mq).long);have g2:=hz2 (ao T2 (l.getD i mq).dist);have g3:=fN 256;have h7:=cH (T1:=T1) (T2:=T2) (A:=ac L) (B:=ac F) (H:=H) (l:=l) i om;unfold ef at h9;omega)):p:=h
theorem FZ {p:Prop}(h:p:=by(rw[gI];have h2:=bK hT1 hT2 (hl i);refine U8 ?_;omega)):p:=h
theorem Lh {p:Prop}(h:p:=by(rw[gk];refine U8 ?_;(omega))):p:=h
theorem Li {p:Prop}(h:p:=by(exact iP _ (by decide) (by decide))):p:=h
theorem Lj {p:Prop}(h:p:=by(refine decide_eq_true ?_;have h9:=hl 0;have h5:=Wl (l.getD 0 mq).lit;have h2:=bK hT1 hT2 (hl 0);have h8:=fN (l.getD 0 mq).lit.toNat;have h4:=fN (257+ao T1 (l.getD 0 mq).long);have h3:=okF (ao T2 (l.getD 0 mq).dist);have g1:=hz1 (ao T1 (l.getD 0 mq).long);have g2:=hz2 (ao T2 (l.getD 0 mq).dist);have g3:=fN 256;have h7:=cH (T1:=T1) (T2:=T2) (A:=ac L) (B:=ac F) (H:=H) (l:=l) 0 om;unfold ef at h9;omega)):p:=h
theorem Lk {p:Prop}(h:p:=by(exact Vq (okF _).1 (by decide))):p:=h
theorem Ph {p:Prop}(h:p:=by(simp;have h9:=hl 0;have h5:=Wl (l.getD 0 mq).lit;have h2:=bK hT1 hT2 (hl 0);have h8:=fN (l.getD 0 mq).lit.toNat;have h4:=fN (257+ao T1 (l.getD 0 mq).long);have h3:=okF (ao T2 (l.getD 0 mq).dist);have g1:=hz1 (ao T1 (l.getD 0 mq).long);have g2:=hz2 (ao T2 (l.getD 0 mq).dist);have g3:=fN 256;have h7:=cH (T1:=T1) (T2:=T2) (A:=ac L) (B:=ac F) (H:=H) (l:=l) 0 om;unfold ef at h9;omega)):p:=h
theorem Pi {p:Prop}(h:p:=by exact(VR (D.sim.slw rfl (bW (by(simp;have h9:=hl 0;have h5:=Wl (l.getD 0 mq).lit;have h2:=bK hT1 hT2 (hl 0);have h8:=fN (l.getD 0 mq).lit.toNat;have h4:=fN (257+ao T1 (l.getD 0 mq).long);have h3:=okF (ao T2 (l.getD 0 mq).dist);have g1:=hz1 (ao T1 (l.getD 0 mq).long);have g2:=hz2 (ao T2 (l.getD 0 mq).dist);have g3:=fN 256;have h7:=cH (T1:=T1) (T2:=T2) (A:=ac L) (B:=ac F) (H:=H) (l:=l) 0 om;unfold ef at h9;omega))|>.trans rfl)) (qr trivial))):p:=h
theorem Pj {p:Prop}(h:p:=by(rw[VM];refine decide_eq_true ?_;have h5:=Wl (l.getD i mq).lit;omega)):p:=h
theorem Pk {p:Prop}(h:p:=by(rw[gI];refine U8 ?_;have h5:=Wl (l.getD i mq).lit;(omega))):p:=h
theorem Pl {p:Prop}(h:p:=by(refine aB ?_;rw[gT om om,de,de,Ve];rfl)):p:=h
theorem Pm {p:Prop}(h:p:=by(have h7:=cH (T1:=T1) (T2:=T2) (A:=ac L) (B:=ac F) (H:=H) (l:=l) k om;simp only[dc,Wo,VM,VV];refine U8 ?_;omega)):p:=h
theorem Pn {p:Prop}(h:p:=by(rw[gI];have h2:=bK hT1 hT2 (hl 0);refine U8 ?_;omega)):p:=h
structure Tn where
 lit:UInt8
 dist:Nat
 long:Nat
 deriving Inhabited
abbrev b5 (t:Tn):List D:=[dB t.lit,nD t.dist,nD t.long]
def ef (t:Tn):Prop:=t.long=0∨3<=t.long∧t.long<=258∧1<=t.dist∧t.dist<=32768
theorem gk (l:List Tn):(l.flatMap b5).length=l.length*3:=ba (k:=3) (λ _=>rfl) l
def f6 (C:List (Nat×Nat))(s n x:Nat):List Nm:=[⟨fI (C.getD s mq).1 (C.getD s mq).2,(C.getD s mq).2⟩,⟨x,n⟩]
def mG (T1 T2:List Sy)(A B:List (Nat×Nat))(t:Tn):List Nm:=
 if t.long=0 then f6 A t.lit.toNat 0 0
 else f6 A (257+ao T1 t.long) (T1.getD (ao T1 t.long) mq).bits (t.long-(T1.getD (ao T1 t.long) mq).least)++f6 B (ao T2 t.dist) (T2.getD (ao T2 t.dist) mq).bits (t.dist-(T2.getD (ao T2 t.dist) mq).least)
def a9 (T1 T2:List Sy)(A B:List (Nat×Nat))(H:List Nm)(l:List Tn)(i:Nat):List Nm:=lk l (H++(l.take i).flatMap (mG T1 T2 A B))
section
variable {T1 T2:List Sy} {A B:List (Nat×Nat)} {H:List Nm} {l:List Tn} {i:Nat}
theorem fg:a9 T1 T2 A B H l i=H++(l.take i).flatMap (mG T1 T2 A B):=au _ _
theorem jF:a9 T1 T2 A B H l 0=H:=by rw[fg];exact VS _
theorem CN (h:i<l.length):a9 T1 T2 A B H l (i+1)=a9 T1 T2 A B H l i++mG T1 T2 A B (l.getD i mq):=by
 have e1:l.take (i+1)=l.take i++[l.getD i mq]:=by
  rw[VT h,UZ,U4 h];rfl
 rw[fg,fg,e1,WL,<-Ve,List.flatMap_singleton]
theorem F0 (t:Tn):(mG T1 T2 A B t).length<=4:=by 
 unfold mG;split
 ·show 2<=4;decide
 ·show 4<=4;decide
theorem cH:∀i,i<=l.length->(a9 T1 T2 A B H l i).length<=H.length+4*i
 |0,_=>by rw[jF];omega
 |i+1,h=>by
  rw[CN om,U2];have:=cH i om;have:=F0 (T1:=T1) (T2:=T2) (A:=A) (B:=B) (l.getD i mq);omega
theorem fL (h:i<l.length)(h0:(l.getD i mq).long=0):a9 T1 T2 A B H l (i+1)=a9 T1 T2 A B H l i++f6 A (l.getD i mq).lit.toNat 0 0:=by
 rw[CN h,mG,ZF h0]
theorem gT (h:i<l.length)(h0:(l.getD i mq).long≠0):a9 T1 T2 A B H l (i+1)=a9 T1 T2 A B H l i++(f6 A (257+ao T1 (l.getD i mq).long) (T1.getD (ao T1 (l.getD i mq).long) mq).bits ((l.getD i mq).long-(T1.getD (ao T1 (l.getD i mq).long) mq).least)++f6 B (ao T2 (l.getD i mq).dist) (T2.getD (ao T2 (l.getD i mq).dist) mq).bits ((l.getD i mq).dist-(T2.getD (ao T2 (l.getD i mq).dist) mq).least)):=by
 rw[CN h,mG,ZE h0]
end
theorem CP {T:List Sy}(hT:T=aw){n:Nat}(h:3<=n∧n<=258):ao T n<29:=by
 subst hT;rw[kO];exact Cm (n:=n) (b:=259) aw 29 0 3 rfl (by decide) h.1 om
theorem F1 {T:List Sy}(hT:T=aC){n:Nat}(h:1<=n∧n<=32768):ao T n<30:=by
 subst hT;rw[kO];exact Cm (n:=n) (b:=32769) aC 30 0 1 rfl (by decide) h.1 om
abbrev dq (c:Nat×Nat):List D:=[ea c.1,fP c.2]
theorem gI (l:List (Nat×Nat)):(l.flatMap dq).length=l.length*2:=ba (k:=2) (λ _=>rfl) l
theorem lG (l:Z1)(n:Nat)(hn:n=l.length)(m:Nat)(hm:1<=m∧m<=15)(hc:aG l m=0):S0 112 [.sl false n 1 (l.map dB),nD m] [] (.tup [.ref 0 0 0 n 2,iD 0]) [⟨(ac l).flatMap dq, 210,true⟩]:=FV l n hn m hm hc
theorem bK {T1 T2:List Sy}(hT1:T1=aw)(hT2:T2=aC){t:Tn}(h:ef t):t.long≠0->ao T1 t.long<29∧ao T2 t.dist<30:=λ h0=>by
 unfold ef at h;exact⟨CP hT1 om,F1 hT2 om⟩
def pm (C:List (Nat×Nat)):Prop:=∀s,(C.getD s mq).2<=15∧(C.getD s mq).1<2^(C.getD s mq).2
theorem kS (T:List Sy)(hT:T=aw)(hl:T.length=29)(hz:b6 T)(n:Nat)(hn:n<=40000)(hIk:ao T n<29):S0 142 [nD n] [] (.tup [nD (257+ao T n),nD (T.getD (ao T n) mq).bits,nD (n-(T.getD (ao T n) mq).least),iD 0]) []:=KJ T hT hl hz n hn _ rfl hIk
theorem pn (T:List Sy)(hT:T=aC)(hl:T.length=30)(hz:b6 T)(n:Nat)(hn:n<=40000)(hIk:ao T n<30):S0 143 [nD n] [] (.tup [nD (ao T n),nD (T.getD (ao T n) mq).bits,nD (n-(T.getD (ao T n) mq).least),iD 0]) []:=by
 have q:=Oz T hT hl hz n hn _ rfl hIk
 rwa [VK]at q
def sh (b:Bool):Nat:=bif b then 8 else 0
theorem SpecH.run2 {τ:Sort _}(t:τ){S0 S1:Prop}{C0 C1:τ->Prop}(f0:∀t,C0 t->S0)(f1:∀t,C1 t->S1)(h0:C0 t)(h1:C1 t):S0∧S1:=⟨f0 t h0,f1 t h1⟩
theorem IS (l:List Tn)(k:Nat)(hk:k=l.length)(hk2:k<=65535)(hl:∀i,ef (l.getD i mq))(T1 T2:List Sy)(hT1:T1=aw)(hT2:T2=aC)(hl1:T1.length=29)(hl2:T2.length=30)(hz1:b6 T1)(hz2:b6 T2)(L F:Z1)(hL:L=bE)(hF:F=cY)(hLl:L.length=288)(hFl:F.length=32)(hcL:aG L 15=0)(hcF:aG F 15=0)(hmL:(ac L).length=288)(hmF:(ac F).length=32)(fN:pm (ac L))(okF:pm (ac F))(a:Nat)(ha:a<=7)(raw:Z1)(r:Nat)(hr:r=raw.length)(hr2:r<=65535)(H:List Nm)(hH:H=kx 1 1)(hHl:H.length=2)(H':List Nm)(hH':H'=kx 0 1)(hHl':H'.length=2):(S0 65 [nD a,fP 1,.sl false r 1 (raw.map dB),.sl false k 3 (l.flatMap b5),.v (.bool true)] [] (.ptr 0 0 0) [⟨[.ref 1 1 0 (a9 T1 T2 (ac L) (ac F) H l k++f6 (ac L) 256 0 0).length 2], 123,false⟩,⟨(a9 T1 T2 (ac L) (ac F) H l k++f6 (ac L) 256 0 0).flatMap bb, 126,true⟩])∧(S0 65 [nD a,fP 1,.sl false r 1 (raw.map dB),.sl false k 3 (l.flatMap b5),.v (.bool false)] [] (.ptr 0 0 0) [⟨[.ref 1 1 0 (a9 T1 T2 (ac L) (ac F) H' l k++f6 (ac L) 256 0 0).length 2], 123,false⟩,⟨(a9 T1 T2 (ac L) (ac F) H' l k++f6 (ac L) 256 0 0).flatMap bb, 126,true⟩]):=by
 refine SpecH.run2 (λ(d:Bool) (e:Nat) (H:List Nm) (hH:H=kx e 1) (hHl:H.length=2) (R:D->List Blk->Prop) (ok:∀r' bs',r'=(.ptr 0 0 0)->bs'=[⟨[.ref 1 1 0 (a9 T1 T2 (ac L) (ac F) H l k++f6 (ac L) 256 0 0).length 2], 123,false⟩,⟨(a9 T1 T2 (ac L) (ac F) H l k++f6 (ac L) 256 0 0).flatMap bb, 126,true⟩]->R r' bs')=>((.cl 86 false [] (.fn N2 (@ly (L) (F) aF aF)) (.s 26 (.call 112 false [] (true&&(true&&U7 288 (length (map dB L))&&true&&ab (bif true&&U5 288 (length (map dB L))then map dB L else take 288 (drop 0 (map dB L))))&&true) Ph ([Vl true 288 1 (bif true&&U5 288 (length (map dB L))then map dB L else take 288 (drop 0 (map dB L))),zI 15]) _ Pi (true) wr _ _ _ (VC (az.of Tryz.func112 rfl rfl) (@lG (L) (288) om (15) (by(simp;done)) om)) (.s 13 (.call 112 false [] (true&&(true&&U7 32 (length (map dB F))&&true&&ab (bif true&&U5 32 (length (map dB F))then map dB F else take 32 (drop 0 (map dB F))))&&true) Ph ([Vl true 32 1 (bif true&&U5 32 (length (map dB F))then map dB F else take 32 (drop 0 (map dB F))),zI 15]) _ Pi (true) wr _ _ _ (VC (az.of Tryz.func112 rfl rfl) (@lG (F) (32) om (15) (by(simp;done)) om)) (.s 18 (.two (.s 2 (.bd (0<(k:Int)) (λ p0 Z7=>(.s 1 (.chk (true&&decide (0<(k:Int))&&true) (by((refine aI ?_ ?_)<;>(repeat' (first|(refine aI ?_ ?_)|(with_reducible rfl)|(refine decide_eq_true ?_)|(refine U8 ?_)|(refine fw ?_)))<;>(omega))) (.s 2 (.chk (U7 3 (length (flatMap b5 l))) Lh (.lst (take 3 (drop 0 (flatMap b5 l))) ([bl (U3 (Tn.lit (getD l 0 mq))),zN (Tn.dist (getD l 0 mq)),zN (Tn.long (getD l 0 mq))]) (aD (k:=3) (i:=0) (λ _=>rfl) om om) (.s 13 (.br ((↑(Tn.long (getD l 0 mq)):Int)==0) (λ p1=>have Z6:=eq_of_beq p1;(.s 8 (.op (↑(U3 (Tn.lit (getD l 0 mq))):Int) Li (.s 18 (.chk (true&&decide ((↑(U3 (Tn.lit (getD l 0 mq))):Int)<(↑288:Int))) Lj (.s 2 (.chk (U7 (0+U3 (Tn.lit (getD l 0 mq))*2+2) (length (flatMap dq (ac L)))) RO (.lst (take 2 (drop (0+U3 (Tn.lit (getD l 0 mq))*2) (flatMap dq (ac L)))) ([ak (Va (getD (ac L) (U3 (Tn.lit (getD l 0 mq))) mq)),bl (U0 (getD (ac L) (U3 (Tn.lit (getD l 0 mq))) mq))]) (aD (k:=2) (i:=U3 (Tn.lit (getD l 0 mq))) (λ _=>rfl) qg om) (.s 18 (.op (↑(U0 (getD (ac L) (U3 (Tn.lit (getD l 0 mq))) mq)):Int) qg (.s 1 (.cl 152 false [] (.fn fH (@b7 (Va (getD (ac L) (U3 (Tn.lit (getD l 0 mq))) mq)) (U0 (getD (ac L) (U3 (Tn.lit (getD l 0 mq))) mq)) FX (by(exact(fN _).2)))) (.s 16 (.op (↑(U0 (getD (ac L) (U3 (Tn.lit (getD l 0 mq))) mq)):Int) qg (.s 35 (.blk 16 16 (U1 [U6 (1008+sh d) (1008+sh d) 0 4 2] 123 false) (U1 [U6 (1008+sh d) (1008+sh d) 0 (length (a9 T1 T2 (ac L) (ac F) H l 1)) 2] 123 false) (by(rw[fL (i:=0) om om,jF,hH];rfl)) (.blk (1008+sh d) (1008+sh d) (U1 [ak e,zI 1,uI 1,zI 2,ak (fI (Va (getD (ac L) (U3 (Tn.lit (getD l 0 mq))) mq)) (U0 (getD (ac L) (U3 (Tn.lit (getD l 0 mq))) mq))),zN (U0 (getD (ac L) (U3 (Tn.lit (getD l 0 mq))) mq)),uI 0,zI 0] 126 true) (U1 (flatMap bb (a9 T1 T2 (ac L) (ac F) H l 1)) 126 true) (by(rw[fL (i:=0) om om,jF,hH];rfl)) (Hn.inl T_ok ah false 53 (544+sh d) (aq Tryz.prog 106 0) (λ(x:(i:Nat)×'(hi:1<=i∧i<=k)×'Unit)=>match x with|⟨i,hi,_⟩=>Vn [(1,WJ (VU 115) [] [Vh (384+sh d) (384+sh d) 0,Vh (496+sh d) (496+sh d) 0,Vh (432+sh d) (432+sh d) 0]),(10,Vl false k 3 (flatMap b5 l)),(11,zN k),(12,nD i)] [⟨16,16,16,16,.b ⟨[(U6 (616+sh d) (616+sh d) (0) ((a9 T1 T2 (ac L) (ac F) H l i).length) 2)],123,false⟩⟩,⟨(96+sh d),(96+sh d),(96+sh d),(96+sh d),.b ⟨[ak e,zI 1,uI 1,zI 2],126,false⟩⟩,⟨(256+sh d),(256+sh d),(256+sh d),(256+sh d),.b ⟨map dB L,5,true⟩⟩,⟨(257+sh d),(257+sh d),(257+sh d),(257+sh d),.b ⟨map dB F,5,true⟩⟩,⟨(384+sh d),(384+sh d),(384+sh d),(384+sh d),.b ⟨[Vh 16 16 0],105,false⟩⟩,⟨(400+sh d),(400+sh d),(400+sh d),(400+sh d),.b ⟨flatMap dq (ac L),210,true⟩⟩,⟨(432+sh d),(432+sh d),(432+sh d),(432+sh d),.b ⟨[U6 (400+sh d) (400+sh d) 0 288 2],189,false⟩⟩,⟨(464+sh d),(464+sh d),(464+sh d),(464+sh d),.b ⟨flatMap dq (ac F),210,true⟩⟩,⟨(496+sh d),(496+sh d),(496+sh d),(496+sh d),.b ⟨[U6 (464+sh d) (464+sh d) 0 32 2],189,false⟩⟩,⟨(616+sh d),(616+sh d),(1008+sh d),(1008+sh d),.b ⟨(a9 T1 T2 (ac L) (ac F) H l i).flatMap bb,126,true⟩⟩] (624+sh d)) (λ(x:(i:Nat)×'(hi:1<=i∧i<=k)×'Unit)=>match x with|⟨i,hi,_⟩=>k-i) [⟨Unit,.exit 0,λ x=>match x with|()=>Vn [(1,WJ (VU 115) [] [Vh (384+sh d) (384+sh d) 0,Vh (496+sh d) (496+sh d) 0,Vh (432+sh d) (432+sh d) 0]),(10,Vl false k 3 (flatMap b5 l)),(11,zN k),(12,nD k)] [⟨16,16,16,16,.b ⟨[(U6 (616+sh d) (616+sh d) (0) ((a9 T1 T2 (ac L) (ac F) H l k).length) 2)],123,false⟩⟩,⟨(96+sh d),(96+sh d),(96+sh d),(96+sh d),.b ⟨[ak e,zI 1,uI 1,zI 2],126,false⟩⟩,⟨(256+sh d),(256+sh d),(256+sh d),(256+sh d),.b ⟨map dB L,5,true⟩⟩,⟨(257+sh d),(257+sh d),(257+sh d),(257+sh d),.b ⟨map dB F,5,true⟩⟩,⟨(384+sh d),(384+sh d),(384+sh d),(384+sh d),.b ⟨[Vh 16 16 0],105,false⟩⟩,⟨(400+sh d),(400+sh d),(400+sh d),(400+sh d),.b ⟨flatMap dq (ac L),210,true⟩⟩,⟨(432+sh d),(432+sh d),(432+sh d),(432+sh d),.b ⟨[U6 (400+sh d) (400+sh d) 0 288 2],189,false⟩⟩,⟨(464+sh d),(464+sh d),(464+sh d),(464+sh d),.b ⟨flatMap dq (ac F),210,true⟩⟩,⟨(496+sh d),(496+sh d),(496+sh d),(496+sh d),.b ⟨[U6 (464+sh d) (464+sh d) 0 32 2],189,false⟩⟩,⟨(616+sh d),(616+sh d),(1008+sh d),(1008+sh d),.b ⟨(a9 T1 T2 (ac L) (ac F) H l k).flatMap bb,126,true⟩⟩] (624+sh d)⟩] 1000 64 (fun|⟨i,hi,_⟩,Q,ZA,ZD=>(.s 2 (.bd ((i:Int)<k) (λ p2 Z5=>(.s 1 (.chk (true&&decide ((i:Int)<k)&&true) RP (.s 2 (.chk (U7 (i*3+3) (length (flatMap b5 l))) Lh (.lst (take 3 (drop (i*3) (flatMap b5 l))) ([bl (U3 (Tn.lit (getD l i mq))),zN (Tn.dist (getD l i mq)),zN (Tn.long (getD l i mq))]) (aD (k:=3) (i:=i) (λ _=>rfl) om om) (.s 13 (.br ((↑(Tn.long (getD l i mq)):Int)==0) (λ p3=>have Z4:=eq_of_beq p3;(.s 8 (.op (↑(U3 (Tn.lit (getD l i mq))):Int) Li (.s 18 (.chk (true&&decide ((↑(U3 (Tn.lit (getD l i mq))):Int)<(↑288:Int))) Pj (.s 2 (.chk (U7 (0+U3 (Tn.lit (getD l i mq))*2+2) (length (flatMap dq (ac L)))) Pk (.lst (take 2 (drop (0+U3 (Tn.lit (getD l i mq))*2) (flatMap dq (ac L)))) ([ak (Va (getD (ac L) (U3 (Tn.lit (getD l i mq))) mq)),bl (U0 (getD (ac L) (U3 (Tn.lit (getD l i mq))) mq))]) (aD (k:=2) (i:=U3 (Tn.lit (getD l i mq))) (λ _=>rfl) kW om) (.s 18 (.op (↑(U0 (getD (ac L) (U3 (Tn.lit (getD l i mq))) mq)):Int) kW (.s 1 (.cl 152 false [] (.fn fH (@b7 (Va (getD (ac L) (U3 (Tn.lit (getD l i mq))) mq)) (U0 (getD (ac L) (U3 (Tn.lit (getD l i mq))) mq)) FX (by(exact(fN _).2)))) (.s 16 (.op (↑(U0 (getD (ac L) (U3 (Tn.lit (getD l i mq))) mq)):Int) kW (.s 23 (.chk (true&&U5 (length (a9 T1 T2 (ac L) (ac F) H l i)*2) (length (flatMap bb (a9 T1 T2 (ac L) (ac F) H l i)))&&true&&true&&true&&true&&U7 ((length (a9 T1 T2 (ac L) (ac F) H l i)+2)*16) 140737488355328) RQ (.s 9 (.ow (i+1) (.s 1 (.val 12 (zI (i+1)) (zN (i+1)) RR (.blk 16 16 (U1 [U6 (1064+sh d) (1064+sh d) 0 (length (a9 T1 T2 (ac L) (ac F) H l i)+2) 2] 123 false) (U1 [U6 (1064+sh d) (1064+sh d) 0 (length (a9 T1 T2 (ac L) (ac F) H l (i+1))) 2] 123 false) (by(rw[fL om om,U2];rfl)) (.blk (1064+sh d) (1064+sh d) (U1 (flatMap bb (a9 T1 T2 (ac L) (ac F) H l i)++[ak (fI (Va (getD (ac L) (U3 (Tn.lit (getD l i mq))) mq)) (U0 (getD (ac L) (U3 (Tn.lit (getD l i mq))) mq))),zN (U0 (getD (ac L) (U3 (Tn.lit (getD l i mq))) mq)),uI 0,zI 0]) 126 true) (U1 (flatMap bb (a9 T1 T2 (ac L) (ac F) H l (i+1))) 126 true) (by(refine aB ?_;rw[fL om om,de];rfl)) (Hn.next ZA ⟨(i+1),om,⟨⟩⟩ RS [(16,16),((96+sh d),(96+sh d)),((256+sh d),(256+sh d)),((257+sh d),(257+sh d)),((384+sh d),(384+sh d)),((400+sh d),(400+sh d)),((432+sh d),(432+sh d)),((464+sh d),(464+sh d)),((496+sh d),(496+sh d)),((1064+sh d),(1064+sh d))] IR))))))))))))))))))))))) (λ p3=>have Z4:=ap p3;(.s 7 (.cl 142 false [] (.fn wG (@kS (T1) aF om om (Tn.long (getD l i mq)) kW kW)) (.s 35 (.chk (true&&decide ((↑(257+ao T1 (Tn.long (getD l i mq))):Int)<(↑288:Int))) FY (.s 2 (.chk (U7 (0+(257+ao T1 (Tn.long (getD l i mq)))*2+2) (length (flatMap dq (ac L)))) FZ (.lst (take 2 (drop (0+(257+ao T1 (Tn.long (getD l i mq)))*2) (flatMap dq (ac L)))) ([ak (Va (getD (ac L) (257+ao T1 (Tn.long (getD l i mq))) mq)),bl (U0 (getD (ac L) (257+ao T1 (Tn.long (getD l i mq))) mq))]) (aD (k:=2) (i:=257+ao T1 (Tn.long (getD l i mq))) (λ _=>rfl) kW om) (.s 18 (.op (↑(U0 (getD (ac L) (257+ao T1 (Tn.long (getD l i mq))) mq)):Int) kW (.s 1 (.cl 152 false [] (.fn fH (@b7 (Va (getD (ac L) (257+ao T1 (Tn.long (getD l i mq))) mq)) (U0 (getD (ac L) (257+ao T1 (Tn.long (getD l i mq))) mq)) FX (by(exact(fN _).2)))) (.s 16 (.op (↑(U0 (getD (ac L) (257+ao T1 (Tn.long (getD l i mq))) mq)):Int) kW (.s 4 (.opt (ax .u32 (↑(Tn.long (getD l i mq)-Sy.least (getD T1 (ao T1 (Tn.long (getD l i mq))) mq)):Int)) (ak (Tn.long (getD l i mq)-Sy.least (getD T1 (ao T1 (Tn.long (getD l i mq))) mq))) (aE kW) (.s 18 (.chk (true&&U5 (length (a9 T1 T2 (ac L) (ac F) H l i)*2) (length (flatMap bb (a9 T1 T2 (ac L) (ac F) H l i)))&&true&&true&&true&&true&&U7 ((length (a9 T1 T2 (ac L) (ac F) H l i)+2)*16) 140737488355328) RQ (.s 14 (.cl 143 false [] (.fn wH (@pn (T2) aF om om (Tn.dist (getD l i mq)) kW kW)) (.s 34 (.chk (true&&decide ((↑(ao T2 (Tn.dist (getD l i mq))):Int)<(↑32:Int))) FY (.s 2 (.chk (U7 (0+ao T2 (Tn.dist (getD l i mq))*2+2) (length (flatMap dq (ac F)))) FZ (.lst (take 2 (drop (0+ao T2 (Tn.dist (getD l i mq))*2) (flatMap dq (ac F)))) ([ak (Va (getD (ac F) (ao T2 (Tn.dist (getD l i mq))) mq)),bl (U0 (getD (ac F) (ao T2 (Tn.dist (getD l i mq))) mq))]) (aD (k:=2) (i:=ao T2 (Tn.dist (getD l i mq))) (λ _=>rfl) kW om) (.s 18 (.op (↑(U0 (getD (ac F) (ao T2 (Tn.dist (getD l i mq))) mq)):Int) kW (.s 1 (.cl 152 false [] (.fn fH (@b7 (Va (getD (ac F) (ao T2 (Tn.dist (getD l i mq))) mq)) (U0 (getD (ac F) (ao T2 (Tn.dist (getD l i mq))) mq)) Lk (by(exact(okF _).2)))) (.s 16 (.op (↑(U0 (getD (ac F) (ao T2 (Tn.dist (getD l i mq))) mq)):Int) kW (.s 4 (.opt (ax .u32 (↑(Tn.dist (getD l i mq)-Sy.least (getD T2 (ao T2 (Tn.dist (getD l i mq))) mq)):Int)) (ak (Tn.dist (getD l i mq)-Sy.least (getD T2 (ao T2 (Tn.dist (getD l i mq))) mq))) (aE kW) (.s 18 (.chk (true&&U5 ((length (a9 T1 T2 (ac L) (ac F) H l i)+2)*2) (length (flatMap bb (a9 T1 T2 (ac L) (ac F) H l i)++[ak (fI (Va (getD (ac L) (257+ao T1 (Tn.long (getD l i mq))) mq)) (U0 (getD (ac L) (257+ao T1 (Tn.long (getD l i mq))) mq))),zN (U0 (getD (ac L) (257+ao T1 (Tn.long (getD l i mq))) mq)),ak (Tn.long (getD l i mq)-Sy.least (getD T1 (ao T1 (Tn.long (getD l i mq))) mq)),zN (Sy.bits (getD T1 (ao T1 (Tn.long (getD l i mq))) mq))]))&&true&&true&&true&&true&&U7 ((length (a9 T1 T2 (ac L) (ac F) H l i)+2+2)*16) 140737488355328) RP (.s 9 (.ow (i+1) (.s 1 (.val 12 (zI (i+1)) (zN (i+1)) RR (.blk 16 16 (U1 [U6 (1840+sh d) (1840+sh d) 0 (length (a9 T1 T2 (ac L) (ac F) H l i)+2+2) 2] 123 false) (U1 [U6 (1840+sh d) (1840+sh d) 0 (length (a9 T1 T2 (ac L) (ac F) H l (i+1))) 2] 123 false) (by(rw[gT om om,U2];rfl)) (.blk (1840+sh d) (1840+sh d) (U1 (flatMap bb (a9 T1 T2 (ac L) (ac F) H l i)++[ak (fI (Va (getD (ac L) (257+ao T1 (Tn.long (getD l i mq))) mq)) (U0 (getD (ac L) (257+ao T1 (Tn.long (getD l i mq))) mq))),zN (U0 (getD (ac L) (257+ao T1 (Tn.long (getD l i mq))) mq)),ak (Tn.long (getD l i mq)-Sy.least (getD T1 (ao T1 (Tn.long (getD l i mq))) mq)),zN (Sy.bits (getD T1 (ao T1 (Tn.long (getD l i mq))) mq))]++[ak (fI (Va (getD (ac F) (ao T2 (Tn.dist (getD l i mq))) mq)) (U0 (getD (ac F) (ao T2 (Tn.dist (getD l i mq))) mq))),zN (U0 (getD (ac F) (ao T2 (Tn.dist (getD l i mq))) mq)),ak (Tn.dist (getD l i mq)-Sy.least (getD T2 (ao T2 (Tn.dist (getD l i mq))) mq)),zN (Sy.bits (getD T2 (ao T2 (Tn.dist (getD l i mq))) mq))]) 126 true) (U1 (flatMap bb (a9 T1 T2 (ac L) (ac F) H l (i+1))) 126 true) Pl (Hn.next ZA ⟨(i+1),om,⟨⟩⟩ RS [(16,16),((96+sh d),(96+sh d)),((256+sh d),(256+sh d)),((257+sh d),(257+sh d)),((384+sh d),(384+sh d)),((400+sh d),(400+sh d)),((432+sh d),(432+sh d)),((464+sh d),(464+sh d)),((496+sh d),(496+sh d)),((1840+sh d),(1840+sh d))] IR)))))))))))))))))))))))))))))))))))))))))))))))))) (λ p2 Z5=>(.val 12 (zN i) (zN k) Nc (.blk 16 16 (U1 [U6 (616+sh d) (616+sh d) 0 (length (a9 T1 T2 (ac L) (ac F) H l i)) 2] 123 false) (U1 [U6 (616+sh d) (616+sh d) 0 (length (a9 T1 T2 (ac L) (ac F) H l k)) 2] 123 false) Nc (.blk (616+sh d) (616+sh d) (U1 (flatMap bb (a9 T1 T2 (ac L) (ac F) H l i)) 126 true) (U1 (flatMap bb (a9 T1 T2 (ac L) (ac F) H l k)) 126 true) Nc (Hn.last ZD 0 (():Unit) rfl [(16,16),((96+sh d),(96+sh d)),((256+sh d),(256+sh d)),((257+sh d),(257+sh d)),((384+sh d),(384+sh d)),((400+sh d),(400+sh d)),((432+sh d),(432+sh d)),((464+sh d),(464+sh d)),((496+sh d),(496+sh d)),((616+sh d),(616+sh d))] IR)))))))) (fun|⟨i,hi,_⟩=>by cases d<;>kernel_rfl) ⟨(1),om,⟨⟩⟩ [(16,16),((96+sh d),(96+sh d)),((256+sh d),(256+sh d)),((257+sh d),(257+sh d)),((384+sh d),(384+sh d)),((400+sh d),(400+sh d)),((432+sh d),(432+sh d)),((464+sh d),(464+sh d)),((496+sh d),(496+sh d)),((1008+sh d),(1008+sh d))] IR (ck (fun|()=>(.s 22 (.chk (U7 514 (length (flatMap dq (ac L)))) RO (.lst (take 2 (drop 512 (flatMap dq (ac L)))) ([ak (Va (getD (ac L) 256 mq)),bl (U0 (getD (ac L) 256 mq))]) (aD (k:=2) (i:=256) (λ _=>rfl) om om) (.s 18 (.op (↑(U0 (getD (ac L) 256 mq)):Int) qg (.s 1 (.cl 152 false [] (.fn fH (@b7 (Va (getD (ac L) 256 mq)) (U0 (getD (ac L) 256 mq)) FX (by(exact(fN _).2)))) (.s 16 (.op (↑(U0 (getD (ac L) 256 mq)):Int) qg (.s 23 (.chk (true&&U5 (length (a9 T1 T2 (ac L) (ac F) H l k)*2) (length (flatMap bb (a9 T1 T2 (ac L) (ac F) H l k)))&&true&&true&&true&&true&&U7 ((length (a9 T1 T2 (ac L) (ac F) H l k)+2)*16) 140737488355328) Pm (.s 9 (.out [16,(976+sh d)] [16,(976+sh d)] (Vh 0 0 0) [U1 [U6 1 1 0 (length (a9 T1 T2 (ac L) (ac F) H l k)+2) 2] 123 false,U1 (flatMap bb (a9 T1 T2 (ac L) (ac F) H l k)++[ak (fI (Va (getD (ac L) 256 mq)) (U0 (getD (ac L) 256 mq))),zN (U0 (getD (ac L) 256 mq)),uI 0,zI 0]) 126 true] R (ok _ _ wr (by(rw[U2,de];rfl)))))))))))))))))))))))))))))))))))) (λ p1=>have Z6:=ap p1;(.s 7 (.cl 142 false [] (.fn wG (@kS (T1) aF om om (Tn.long (getD l 0 mq)) qg qg)) (.s 35 (.chk (true&&decide ((↑(257+ao T1 (Tn.long (getD l 0 mq))):Int)<(↑288:Int))) Lj (.s 2 (.chk (U7 (0+(257+ao T1 (Tn.long (getD l 0 mq)))*2+2) (length (flatMap dq (ac L)))) Pn (.lst (take 2 (drop (0+(257+ao T1 (Tn.long (getD l 0 mq)))*2) (flatMap dq (ac L)))) ([ak (Va (getD (ac L) (257+ao T1 (Tn.long (getD l 0 mq))) mq)),bl (U0 (getD (ac L) (257+ao T1 (Tn.long (getD l 0 mq))) mq))]) (aD (k:=2) (i:=257+ao T1 (Tn.long (getD l 0 mq))) (λ _=>rfl) qg om) (.s 18 (.op (↑(U0 (getD (ac L) (257+ao T1 (Tn.long (getD l 0 mq))) mq)):Int) qg (.s 1 (.cl 152 false [] (.fn fH (@b7 (Va (getD (ac L) (257+ao T1 (Tn.long (getD l 0 mq))) mq)) (U0 (getD (ac L) (257+ao T1 (Tn.long (getD l 0 mq))) mq)) FX (by(exact(fN _).2)))) (.s 16 (.op (↑(U0 (getD (ac L) (257+ao T1 (Tn.long (getD l 0 mq))) mq)):Int) qg (.s 4 (.opt (ax .u32 (↑(Tn.long (getD l 0 mq)-Sy.least (getD T1 (ao T1 (Tn.long (getD l 0 mq))) mq)):Int)) (ak (Tn.long (getD l 0 mq)-Sy.least (getD T1 (ao T1 (Tn.long (getD l 0 mq))) mq))) (aE qg) (.s 33 (.cl 143 false [] (.fn wH (@pn (T2) aF om om (Tn.dist (getD l 0 mq)) qg qg)) (.s 34 (.chk (true&&decide ((↑(ao T2 (Tn.dist (getD l 0 mq))):Int)<(↑32:Int))) Lj (.s 2 (.chk (U7 (0+ao T2 (Tn.dist (getD l 0 mq))*2+2) (length (flatMap dq (ac F)))) Pn (.lst (take 2 (drop (0+ao T2 (Tn.dist (getD l 0 mq))*2) (flatMap dq (ac F)))) ([ak (Va (getD (ac F) (ao T2 (Tn.dist (getD l 0 mq))) mq)),bl (U0 (getD (ac F) (ao T2 (Tn.dist (getD l 0 mq))) mq))]) (aD (k:=2) (i:=ao T2 (Tn.dist (getD l 0 mq))) (λ _=>rfl) qg om) (.s 18 (.op (↑(U0 (getD (ac F) (ao T2 (Tn.dist (getD l 0 mq))) mq)):Int) qg (.s 1 (.cl 152 false [] (.fn fH (@b7 (Va (getD (ac F) (ao T2 (Tn.dist (getD l 0 mq))) mq)) (U0 (getD (ac F) (ao T2 (Tn.dist (getD l 0 mq))) mq)) Lk (by(exact(okF _).2)))) (.s 16 (.op (↑(U0 (getD (ac F) (ao T2 (Tn.dist (getD l 0 mq))) mq)):Int) qg (.s 4 (.opt (ax .u32 (↑(Tn.dist (getD l 0 mq)-Sy.least (getD T2 (ao T2 (Tn.dist (getD l 0 mq))) mq)):Int)) (ak (Tn.dist (getD l 0 mq)-Sy.least (getD T2 (ao T2 (Tn.dist (getD l 0 mq))) mq))) (aE qg) (.s 30 (.blk 16 16 (U1 [U6 (1784+sh d) (1784+sh d) 0 6 2] 123 false) (U1 [U6 (1784+sh d) (1784+sh d) 0 (length (a9 T1 T2 (ac L) (ac F) H l 1)) 2] 123 false) (by(rw[gT (i:=0) om om,jF,hH];rfl)) (.blk (1784+sh d) (1784+sh d) (U1 [ak e,zI 1,uI 1,zI 2,ak (fI (Va (getD (ac L) (257+ao T1 (Tn.long (getD l 0 mq))) mq)) (U0 (getD (ac L) (257+ao T1 (Tn.long (getD l 0 mq))) mq))),zN (U0 (getD (ac L) (257+ao T1 (Tn.long (getD l 0 mq))) mq)),ak (Tn.long (getD l 0 mq)-Sy.least (getD T1 (ao T1 (Tn.long (getD l 0 mq))) mq)),zN (Sy.bits (getD T1 (ao T1 (Tn.long (getD l 0 mq))) mq)),ak (fI (Va (getD (ac F) (ao T2 (Tn.dist (getD l 0 mq))) mq)) (U0 (getD (ac F) (ao T2 (Tn.dist (getD l 0 mq))) mq))),zN (U0 (getD (ac F) (ao T2 (Tn.dist (getD l 0 mq))) mq)),ak (Tn.dist (getD l 0 mq)-Sy.least (getD T2 (ao T2 (Tn.dist (getD l 0 mq))) mq)),zN (Sy.bits (getD T2 (ao T2 (Tn.dist (getD l 0 mq))) mq))] 126 true) (U1 (flatMap bb (a9 T1 T2 (ac L) (ac F) H l 1)) 126 true) (by(rw[gT (i:=0) om om,jF,hH];rfl)) (Hn.inl T_ok ah false 53 (544+sh d) (aq Tryz.prog 106 0) (λ(x:(i:Nat)×'(hi:1<=i∧i<=k)×'Unit)=>match x with|⟨i,hi,_⟩=>Vn [(1,WJ (VU 115) [] [Vh (384+sh d) (384+sh d) 0,Vh (496+sh d) (496+sh d) 0,Vh (432+sh d) (432+sh d) 0]),(10,Vl false k 3 (flatMap b5 l)),(11,zN k),(12,nD i)] [⟨16,16,16,16,.b ⟨[(U6 (616+sh d) (616+sh d) (0) ((a9 T1 T2 (ac L) (ac F) H l i).length) 2)],123,false⟩⟩,⟨(96+sh d),(96+sh d),(96+sh d),(96+sh d),.b ⟨[ak e,zI 1,uI 1,zI 2],126,false⟩⟩,⟨(256+sh d),(256+sh d),(256+sh d),(256+sh d),.b ⟨map dB L,5,true⟩⟩,⟨(257+sh d),(257+sh d),(257+sh d),(257+sh d),.b ⟨map dB F,5,true⟩⟩,⟨(384+sh d),(384+sh d),(384+sh d),(384+sh d),.b ⟨[Vh 16 16 0],105,false⟩⟩,⟨(400+sh d),(400+sh d),(400+sh d),(400+sh d),.b ⟨flatMap dq (ac L),210,true⟩⟩,⟨(432+sh d),(432+sh d),(432+sh d),(432+sh d),.b ⟨[U6 (400+sh d) (400+sh d) 0 288 2],189,false⟩⟩,⟨(464+sh d),(464+sh d),(464+sh d),(464+sh d),.b ⟨flatMap dq (ac F),210,true⟩⟩,⟨(496+sh d),(496+sh d),(496+sh d),(496+sh d),.b ⟨[U6 (464+sh d) (464+sh d) 0 32 2],189,false⟩⟩,⟨(616+sh d),(616+sh d),(1784+sh d),(1784+sh d),.b ⟨(a9 T1 T2 (ac L) (ac F) H l i).flatMap bb,126,true⟩⟩] (624+sh d)) (λ(x:(i:Nat)×'(hi:1<=i∧i<=k)×'Unit)=>match x with|⟨i,hi,_⟩=>k-i) [⟨Unit,.exit 0,λ x=>match x with|()=>Vn [(1,WJ (VU 115) [] [Vh (384+sh d) (384+sh d) 0,Vh (496+sh d) (496+sh d) 0,Vh (432+sh d) (432+sh d) 0]),(10,Vl false k 3 (flatMap b5 l)),(11,zN k),(12,nD k)] [⟨16,16,16,16,.b ⟨[(U6 (616+sh d) (616+sh d) (0) ((a9 T1 T2 (ac L) (ac F) H l k).length) 2)],123,false⟩⟩,⟨(96+sh d),(96+sh d),(96+sh d),(96+sh d),.b ⟨[ak e,zI 1,uI 1,zI 2],126,false⟩⟩,⟨(256+sh d),(256+sh d),(256+sh d),(256+sh d),.b ⟨map dB L,5,true⟩⟩,⟨(257+sh d),(257+sh d),(257+sh d),(257+sh d),.b ⟨map dB F,5,true⟩⟩,⟨(384+sh d),(384+sh d),(384+sh d),(384+sh d),.b ⟨[Vh 16 16 0],105,false⟩⟩,⟨(400+sh d),(400+sh d),(400+sh d),(400+sh d),.b ⟨flatMap dq (ac L),210,true⟩⟩,⟨(432+sh d),(432+sh d),(432+sh d),(432+sh d),.b ⟨[U6 (400+sh d) (400+sh d) 0 288 2],189,false⟩⟩,⟨(464+sh d),(464+sh d),(464+sh d),(464+sh d),.b ⟨flatMap dq (ac F),210,true⟩⟩,⟨(496+sh d),(496+sh d),(496+sh d),(496+sh d),.b ⟨[U6 (464+sh d) (464+sh d) 0 32 2],189,false⟩⟩,⟨(616+sh d),(616+sh d),(1784+sh d),(1784+sh d),.b ⟨(a9 T1 T2 (ac L) (ac F) H l k).flatMap bb,126,true⟩⟩] (624+sh d)⟩] 1000 64 (fun|⟨i,hi,_⟩,Q,ZA,ZD=>(.s 2 (.bd ((i:Int)<k) (λ p4 Z3=>(.s 1 (.chk (true&&decide ((i:Int)<k)&&true) RP (.s 2 (.chk (U7 (i*3+3) (length (flatMap b5 l))) Lh (.lst (take 3 (drop (i*3) (flatMap b5 l))) ([bl (U3 (Tn.lit (getD l i mq))),zN (Tn.dist (getD l i mq)),zN (Tn.long (getD l i mq))]) (aD (k:=3) (i:=i) (λ _=>rfl) om om) (.s 13 (.br ((↑(Tn.long (getD l i mq)):Int)==0) (λ p5=>have p5f:=eq_of_beq p5;(.s 8 (.op (↑(U3 (Tn.lit (getD l i mq))):Int) Li (.s 18 (.chk (true&&decide ((↑(U3 (Tn.lit (getD l i mq))):Int)<(↑288:Int))) Pj (.s 2 (.chk (U7 (0+U3 (Tn.lit (getD l i mq))*2+2) (length (flatMap dq (ac L)))) Pk (.lst (take 2 (drop (0+U3 (Tn.lit (getD l i mq))*2) (flatMap dq (ac L)))) ([ak (Va (getD (ac L) (U3 (Tn.lit (getD l i mq))) mq)),bl (U0 (getD (ac L) (U3 (Tn.lit (getD l i mq))) mq))]) (aD (k:=2) (i:=U3 (Tn.lit (getD l i mq))) (λ _=>rfl) kW om) (.s 18 (.op (↑(U0 (getD (ac L) (U3 (Tn.lit (getD l i mq))) mq)):Int) kW (.s 1 (.cl 152 false [] (.fn fH (@b7 (Va (getD (ac L) (U3 (Tn.lit (getD l i mq))) mq)) (U0 (getD (ac L) (U3 (Tn.lit (getD l i mq))) mq)) FX (by(exact(fN _).2)))) (.s 16 (.op (↑(U0 (getD (ac L) (U3 (Tn.lit (getD l i mq))) mq)):Int) kW (.s 23 (.chk (true&&U5 (length (a9 T1 T2 (ac L) (ac F) H l i)*2) (length (flatMap bb (a9 T1 T2 (ac L) (ac F) H l i)))&&true&&true&&true&&true&&U7 ((length (a9 T1 T2 (ac L) (ac F) H l i)+2)*16) 140737488355328) RQ (.s 9 (.ow (i+1) (.s 1 (.val 12 (zI (i+1)) (zN (i+1)) RR (.blk 16 16 (U1 [U6 (1064+sh d) (1064+sh d) 0 (length (a9 T1 T2 (ac L) (ac F) H l i)+2) 2] 123 false) (U1 [U6 (1064+sh d) (1064+sh d) 0 (length (a9 T1 T2 (ac L) (ac F) H l (i+1))) 2] 123 false) (by(rw[fL om om,U2];rfl)) (.blk (1064+sh d) (1064+sh d) (U1 (flatMap bb (a9 T1 T2 (ac L) (ac F) H l i)++[ak (fI (Va (getD (ac L) (U3 (Tn.lit (getD l i mq))) mq)) (U0 (getD (ac L) (U3 (Tn.lit (getD l i mq))) mq))),zN (U0 (getD (ac L) (U3 (Tn.lit (getD l i mq))) mq)),uI 0,zI 0]) 126 true) (U1 (flatMap bb (a9 T1 T2 (ac L) (ac F) H l (i+1))) 126 true) (by(refine aB ?_;rw[fL om om,de];rfl)) (Hn.next ZA ⟨(i+1),om,⟨⟩⟩ RS [(16,16),((96+sh d),(96+sh d)),((256+sh d),(256+sh d)),((257+sh d),(257+sh d)),((384+sh d),(384+sh d)),((400+sh d),(400+sh d)),((432+sh d),(432+sh d)),((464+sh d),(464+sh d)),((496+sh d),(496+sh d)),((1064+sh d),(1064+sh d))] IR))))))))))))))))))))))) (λ p5=>have p5f:=ap p5;(.s 7 (.cl 142 false [] (.fn wG (@kS (T1) aF om om (Tn.long (getD l i mq)) kW kW)) (.s 35 (.chk (true&&decide ((↑(257+ao T1 (Tn.long (getD l i mq))):Int)<(↑288:Int))) FY (.s 2 (.chk (U7 (0+(257+ao T1 (Tn.long (getD l i mq)))*2+2) (length (flatMap dq (ac L)))) FZ (.lst (take 2 (drop (0+(257+ao T1 (Tn.long (getD l i mq)))*2) (flatMap dq (ac L)))) ([ak (Va (getD (ac L) (257+ao T1 (Tn.long (getD l i mq))) mq)),bl (U0 (getD (ac L) (257+ao T1 (Tn.long (getD l i mq))) mq))]) (aD (k:=2) (i:=257+ao T1 (Tn.long (getD l i mq))) (λ _=>rfl) kW om) (.s 18 (.op (↑(U0 (getD (ac L) (257+ao T1 (Tn.long (getD l i mq))) mq)):Int) kW (.s 1 (.cl 152 false [] (.fn fH (@b7 (Va (getD (ac L) (257+ao T1 (Tn.long (getD l i mq))) mq)) (U0 (getD (ac L) (257+ao T1 (Tn.long (getD l i mq))) mq)) FX (by(exact(fN _).2)))) (.s 16 (.op (↑(U0 (getD (ac L) (257+ao T1 (Tn.long (getD l i mq))) mq)):Int) kW (.s 4 (.opt (ax .u32 (↑(Tn.long (getD l i mq)-Sy.least (getD T1 (ao T1 (Tn.long (getD l i mq))) mq)):Int)) (ak (Tn.long (getD l i mq)-Sy.least (getD T1 (ao T1 (Tn.long (getD l i mq))) mq))) (aE kW) (.s 18 (.chk (true&&U5 (length (a9 T1 T2 (ac L) (ac F) H l i)*2) (length (flatMap bb (a9 T1 T2 (ac L) (ac F) H l i)))&&true&&true&&true&&true&&U7 ((length (a9 T1 T2 (ac L) (ac F) H l i)+2)*16) 140737488355328) RQ (.s 14 (.cl 143 false [] (.fn wH (@pn (T2) aF om om (Tn.dist (getD l i mq)) kW kW)) (.s 34 (.chk (true&&decide ((↑(ao T2 (Tn.dist (getD l i mq))):Int)<(↑32:Int))) FY (.s 2 (.chk (U7 (0+ao T2 (Tn.dist (getD l i mq))*2+2) (length (flatMap dq (ac F)))) FZ (.lst (take 2 (drop (0+ao T2 (Tn.dist (getD l i mq))*2) (flatMap dq (ac F)))) ([ak (Va (getD (ac F) (ao T2 (Tn.dist (getD l i mq))) mq)),bl (U0 (getD (ac F) (ao T2 (Tn.dist (getD l i mq))) mq))]) (aD (k:=2) (i:=ao T2 (Tn.dist (getD l i mq))) (λ _=>rfl) kW om) (.s 18 (.op (↑(U0 (getD (ac F) (ao T2 (Tn.dist (getD l i mq))) mq)):Int) kW (.s 1 (.cl 152 false [] (.fn fH (@b7 (Va (getD (ac F) (ao T2 (Tn.dist (getD l i mq))) mq)) (U0 (getD (ac F) (ao T2 (Tn.dist (getD l i mq))) mq)) Lk (by(exact(okF _).2)))) (.s 16 (.op (↑(U0 (getD (ac F) (ao T2 (Tn.dist (getD l i mq))) mq)):Int) kW (.s 4 (.opt (ax .u32 (↑(Tn.dist (getD l i mq)-Sy.least (getD T2 (ao T2 (Tn.dist (getD l i mq))) mq)):Int)) (ak (Tn.dist (getD l i mq)-Sy.least (getD T2 (ao T2 (Tn.dist (getD l i mq))) mq))) (aE kW) (.s 18 (.chk (true&&U5 ((length (a9 T1 T2 (ac L) (ac F) H l i)+2)*2) (length (flatMap bb (a9 T1 T2 (ac L) (ac F) H l i)++[ak (fI (Va (getD (ac L) (257+ao T1 (Tn.long (getD l i mq))) mq)) (U0 (getD (ac L) (257+ao T1 (Tn.long (getD l i mq))) mq))),zN (U0 (getD (ac L) (257+ao T1 (Tn.long (getD l i mq))) mq)),ak (Tn.long (getD l i mq)-Sy.least (getD T1 (ao T1 (Tn.long (getD l i mq))) mq)),zN (Sy.bits (getD T1 (ao T1 (Tn.long (getD l i mq))) mq))]))&&true&&true&&true&&true&&U7 ((length (a9 T1 T2 (ac L) (ac F) H l i)+2+2)*16) 140737488355328) RP (.s 9 (.ow (i+1) (.s 1 (.val 12 (zI (i+1)) (zN (i+1)) RR (.blk 16 16 (U1 [U6 (1840+sh d) (1840+sh d) 0 (length (a9 T1 T2 (ac L) (ac F) H l i)+2+2) 2] 123 false) (U1 [U6 (1840+sh d) (1840+sh d) 0 (length (a9 T1 T2 (ac L) (ac F) H l (i+1))) 2] 123 false) (by(rw[gT om om,U2];rfl)) (.blk (1840+sh d) (1840+sh d) (U1 (flatMap bb (a9 T1 T2 (ac L) (ac F) H l i)++[ak (fI (Va (getD (ac L) (257+ao T1 (Tn.long (getD l i mq))) mq)) (U0 (getD (ac L) (257+ao T1 (Tn.long (getD l i mq))) mq))),zN (U0 (getD (ac L) (257+ao T1 (Tn.long (getD l i mq))) mq)),ak (Tn.long (getD l i mq)-Sy.least (getD T1 (ao T1 (Tn.long (getD l i mq))) mq)),zN (Sy.bits (getD T1 (ao T1 (Tn.long (getD l i mq))) mq))]++[ak (fI (Va (getD (ac F) (ao T2 (Tn.dist (getD l i mq))) mq)) (U0 (getD (ac F) (ao T2 (Tn.dist (getD l i mq))) mq))),zN (U0 (getD (ac F) (ao T2 (Tn.dist (getD l i mq))) mq)),ak (Tn.dist (getD l i mq)-Sy.least (getD T2 (ao T2 (Tn.dist (getD l i mq))) mq)),zN (Sy.bits (getD T2 (ao T2 (Tn.dist (getD l i mq))) mq))]) 126 true) (U1 (flatMap bb (a9 T1 T2 (ac L) (ac F) H l (i+1))) 126 true) Pl (Hn.next ZA ⟨(i+1),om,⟨⟩⟩ RS [(16,16),((96+sh d),(96+sh d)),((256+sh d),(256+sh d)),((257+sh d),(257+sh d)),((384+sh d),(384+sh d)),((400+sh d),(400+sh d)),((432+sh d),(432+sh d)),((464+sh d),(464+sh d)),((496+sh d),(496+sh d)),((1840+sh d),(1840+sh d))] IR)))))))))))))))))))))))))))))))))))))))))))))))))) (λ p4 Z3=>(.val 12 (zN i) (zN k) Nc (.blk 16 16 (U1 [U6 (616+sh d) (616+sh d) 0 (length (a9 T1 T2 (ac L) (ac F) H l i)) 2] 123 false) (U1 [U6 (616+sh d) (616+sh d) 0 (length (a9 T1 T2 (ac L) (ac F) H l k)) 2] 123 false) Nc (.blk (616+sh d) (616+sh d) (U1 (flatMap bb (a9 T1 T2 (ac L) (ac F) H l i)) 126 true) (U1 (flatMap bb (a9 T1 T2 (ac L) (ac F) H l k)) 126 true) Nc (Hn.last ZD 0 (():Unit) rfl [(16,16),((96+sh d),(96+sh d)),((256+sh d),(256+sh d)),((257+sh d),(257+sh d)),((384+sh d),(384+sh d)),((400+sh d),(400+sh d)),((432+sh d),(432+sh d)),((464+sh d),(464+sh d)),((496+sh d),(496+sh d)),((616+sh d),(616+sh d))] IR)))))))) (fun|⟨i,hi,_⟩=>by cases d<;>kernel_rfl) ⟨(1),om,⟨⟩⟩ [(16,16),((96+sh d),(96+sh d)),((256+sh d),(256+sh d)),((257+sh d),(257+sh d)),((384+sh d),(384+sh d)),((400+sh d),(400+sh d)),((432+sh d),(432+sh d)),((464+sh d),(464+sh d)),((496+sh d),(496+sh d)),((1784+sh d),(1784+sh d))] IR (ck (fun|()=>(.s 22 (.chk (U7 514 (length (flatMap dq (ac L)))) RO (.lst (take 2 (drop 512 (flatMap dq (ac L)))) ([ak (Va (getD (ac L) 256 mq)),bl (U0 (getD (ac L) 256 mq))]) (aD (k:=2) (i:=256) (λ _=>rfl) om om) (.s 18 (.op (↑(U0 (getD (ac L) 256 mq)):Int) qg (.s 1 (.cl 152 false [] (.fn fH (@b7 (Va (getD (ac L) 256 mq)) (U0 (getD (ac L) 256 mq)) FX (by(exact(fN _).2)))) (.s 16 (.op (↑(U0 (getD (ac L) 256 mq)):Int) qg (.s 23 (.chk (true&&U5 (length (a9 T1 T2 (ac L) (ac F) H l k)*2) (length (flatMap bb (a9 T1 T2 (ac L) (ac F) H l k)))&&true&&true&&true&&true&&U7 ((length (a9 T1 T2 (ac L) (ac F) H l k)+2)*16) 140737488355328) Pm (.s 9 (.out [16,(976+sh d)] [16,(976+sh d)] (Vh 0 0 0) [U1 [U6 1 1 0 (length (a9 T1 T2 (ac L) (ac F) H l k)+2) 2] 123 false,U1 (flatMap bb (a9 T1 T2 (ac L) (ac F) H l k)++[ak (fI (Va (getD (ac L) 256 mq)) (U0 (getD (ac L) 256 mq))),zN (U0 (getD (ac L) 256 mq)),uI 0,zI 0]) 126 true] R (ok _ _ wr (by(rw[U2,de];rfl))))))))))))))))))))))))))))))))))))))))))))))))))))))))))))) (λ p0 Z7=>(.s 22 (.chk (U7 514 (length (flatMap dq (ac L)))) RO (.lst (take 2 (drop 512 (flatMap dq (ac L)))) ([ak (Va (getD (ac L) 256 mq)),bl (U0 (getD (ac L) 256 mq))]) (aD (k:=2) (i:=256) (λ _=>rfl) om om) (.s 18 (.op (↑(U0 (getD (ac L) 256 mq)):Int) qg (.s 1 (.cl 152 false [] (.fn fH (@b7 (Va (getD (ac L) 256 mq)) (U0 (getD (ac L) 256 mq)) FX (by(exact(fN _).2)))) (.s 16 (.op (↑(U0 (getD (ac L) 256 mq)):Int) qg (.s 33 (.out [16,(928+sh d)] [16,(928+sh d)] (Vh 0 0 0) [U1 [U6 1 1 0 4 2] 123 false,U1 [ak e,zI 1,uI 1,zI 2,ak (fI (Va (getD (ac L) 256 mq)) (U0 (getD (ac L) 256 mq))),zN (U0 (getD (ac L) 256 mq)),uI 0,zI 0] 126 true] R (ok _ _ wr (by(rw[show k=0 from by omega,jF,hH];rfl))))))))))))))))) .nil))))))):Hn Tryz.prog)) (λ t h=>SpecH.run T_ok ah Tryz.func65 rfl rfl rfl ⟨rfl,gi (λ _=>rfl) _,trivial⟩ rfl 1000 64 (λ R ok=>.s 43 (t true 1 H hH hHl R ok)) h) (λ t h=>SpecH.run T_ok ah Tryz.func65 rfl rfl rfl ⟨rfl,gi (λ _=>rfl) _,trivial⟩ rfl 1000 64 (λ R ok=>.s 42 (t false 0 H' hH' hHl' R ok)) h) kr kr
theorem Po (l:List Tn)(k:Nat)(hk:k=l.length)(hk2:k<=65535)(hl:∀i,ef (l.getD i mq))(T1 T2:List Sy)(hT1:T1=aw)(hT2:T2=aC)(hl1:T1.length=29)(hl2:T2.length=30)(hz1:b6 T1)(hz2:b6 T2)(L F:Z1)(hL:L=bE)(hF:F=cY)(hLl:L.length=288)(hFl:F.length=32)(hcL:aG L 15=0)(hcF:aG F 15=0)(hmL:(ac L).length=288)(hmF:(ac F).length=32)(fN:pm (ac L))(okF:pm (ac F))(H:List Nm)(hH:H=kx 1 1)(hHl:H.length=2)(a:Nat)(ha:a<=7)(raw:Z1)(r:Nat)(hr:r=raw.length)(hr2:r<=65535):S0 65 [nD a,fP 1,.sl false r 1 (raw.map dB),.sl false k 3 (l.flatMap b5),.v (.bool true)] [] (.ptr 0 0 0) [⟨[.ref 1 1 0 (a9 T1 T2 (ac L) (ac F) H l k++f6 (ac L) 256 0 0).length 2], 123,false⟩,⟨(a9 T1 T2 (ac L) (ac F) H l k++f6 (ac L) 256 0 0).flatMap bb, 126,true⟩]:=(IS l k hk hk2 hl T1 T2 hT1 hT2 hl1 hl2 hz1 hz2 L F hL hF hLl hFl hcL hcF hmL hmF fN okF a ha raw r hr hr2 H hH hHl _ rfl rfl).1
theorem Pp (l:List Tn)(k:Nat)(hk:k=l.length)(hk2:k<=65535)(hl:∀i,ef (l.getD i mq))(T1 T2:List Sy)(hT1:T1=aw)(hT2:T2=aC)(hl1:T1.length=29)(hl2:T2.length=30)(hz1:b6 T1)(hz2:b6 T2)(L F:Z1)(hL:L=bE)(hF:F=cY)(hLl:L.length=288)(hFl:F.length=32)(hcL:aG L 15=0)(hcF:aG F 15=0)(hmL:(ac L).length=288)(hmF:(ac F).length=32)(fN:pm (ac L))(okF:pm (ac F))(H:List Nm)(hH:H=kx 0 1)(hHl:H.length=2)(a:Nat)(ha:a<=7)(raw:Z1)(r:Nat)(hr:r=raw.length)(hr2:r<=65535):S0 65 [nD a,fP 1,.sl false r 1 (raw.map dB),.sl false k 3 (l.flatMap b5),.v (.bool false)] [] (.ptr 0 0 0) [⟨[.ref 1 1 0 (a9 T1 T2 (ac L) (ac F) H l k++f6 (ac L) 256 0 0).length 2], 123,false⟩,⟨(a9 T1 T2 (ac L) (ac F) H l k++f6 (ac L) 256 0 0).flatMap bb, 126,true⟩]:=(IS l k hk hk2 hl T1 T2 hT1 hT2 hl1 hl2 hz1 hz2 L F hL hF hLl hFl hcL hcF hmL hmF fN okF a ha raw r hr hr2 _ rfl rfl H hH hHl).2
theorem SpecH.frz {al:Bool}{P:Program}{f:FuncId}{ds:List D}{n sz:Nat}{cells:List D}{t:TypeId}{rw':Bool}(h:SpecH al P f ds [] (.ref 0 0 0 n sz) [⟨cells,t,rw'⟩])(hn:cells.length=n*sz)(hs:0<sz)(hc:ab cells=true):SpecH al P f ds [] (.sl false n sz cells) []:=by
 refine⟨Vd _,λ O φ w args hO hh hi hl ha=>(h.2 O φ w args hO hh hi hl ha).mono ?_⟩;rintro e w' ⟨u,rfl,hf,ψ,g1,g2,g3,g4,g5⟩;refine⟨u,rfl,hf,φ,λ j hj=>rfl,?_,λ j b hb=>by simp at hb,λ i j x h1=>absurd h1 (Ws i),λ j x h1 h2=>absurd h2 (Ws j)⟩;have hB:=(g3 0 _ rfl).1;have own:∀b,(eT (jm al O w) φ 0).own b->b<w.heap.size:=λ b q=>by
  rcases q with q|⟨j,hj,_⟩
  ·unfold jm at q;split at q
   ·exact hO b q
   ·exact q
  ·exact absurd hj (Ws j)
 have hst:Stp (eT (jm al O w) ψ 1).cl (eT (jm al O w) φ 0).cl w' w':=⟨λ g hg=>hg.elim,λ g hg=>hg.elim,Vd _,λ b _ hb=>⟨λ q=>hb (by
  rcases q with q|⟨j,hj,_⟩
  ·exact .inl q
  ·exact absurd hj (Ws j)),rfl⟩,λ _ _=>rfl⟩
 obtain⟨hnm,hB⟩:=hB
 cases g2 with
 |refn _ _ _ hg hb=>
  have h0:cells=[]:=List.eq_nil_of_length_eq_zero (by rw[hn,WT]);subst h0;exact .sl false 0 sz [] none 0 [] rfl (λ i d u h=>by simp at h) (λ u h=>by cases h) (by simp) hs ⟨Vd _,VI _⟩ (λ _=>⟨rfl,rfl⟩) (.inl rfl)
 |ref _ _ _ _ _ c b off' t' m hg hb hcc ho hsh hm=>
  rw[hb]at hB;obtain⟨_,hlt,cur,fr,hheap,hfr,hle,_,hcell⟩:=hB;have hcell:∀(i:Nat) d,cells[i]? =some d->∃u,cur[i]? =some u∧u.oneCell'=true∧RD (eT (jm al O w) ψ 1) w' d u:=hcell;have hle:cells.length<=cur.size:=hle;have hul:(cur.toList.take cells.length).length=cells.length:=List.length_take_of_le (by rw[Array.length_toList];exact hle);have hget:∀(i:Nat) u,(cur.toList.take cells.length)[i]? =some u->i<cells.length∧cur[i]? =some u:=λ i u hu=>by
   rw[List.getElem?_take]at hu
   split at hu
   ·next q=>exact⟨q,by simpa using hu⟩
   ·cases hu
  refine .sl false n sz cells (some ⟨b,off',none⟩) c (cur.toList.take cells.length) hul (λ i d u h1 h2=>?_) (λ u hu=>?_) hn hs hcc (λ q=>by cases q) ?_
  ·obtain⟨_,h2⟩:=hget i u h2
   obtain⟨u',q1,_,q3⟩:=hcell i d h1;rw[h2]at q1;cases q1;exact(q3.weak (bu hc h1)).step hst
  ·obtain⟨i,hi⟩:=List.getElem?_of_mem hu
   obtain⟨q0,q1⟩:=hget i u hi;obtain⟨u',y1,y2,_⟩:=hcell i _ (U4 q0);rw[q1]at y1;cases y1;exact y2
  ·rcases ho with ho|⟨ho,_⟩
   ·refine .inr ⟨b,off',rfl,hlt,λ q=>?_,λ i u hu=>?_⟩
    ·have:=g5 0 b (VI _) Xt hb
     have:=own b q;omega
    ·rw[ho,VK,cell_of_row w' b i cur t fr hheap];exact(hget i u hu).2
   ·exact .inl ho
theorem sM {p:Prop}(h:p:=by(refine aR ?_;(omega))):p:=h
theorem wW {p:Prop}(h:p:=by(refine decide_eq_true ?_;(omega))):p:=h
theorem CQ {p:Prop}(h:p:=by((refine aI ?_ ?_)<;>(repeat' (first|(refine aI ?_ ?_)|(with_reducible rfl)|(refine decide_eq_true ?_)|(refine U8 ?_)|(refine fw ?_)))<;>(omega))):p:=h
def qa (a b:Nat):Int:=if a<b then -1 else if b<a then 1 else 0
theorem Pq {a b:Nat}(h:(a:Int)<b):qa a b= -1:=ZF om
theorem Pr {a b:Nat}(h:¬(a:Int)<b)(h2:(b:Int)<a):qa a b=1:=(ZE om).trans (ZF om)
theorem Ps {a b:Nat}(h:¬(a:Int)<b)(h2:¬(b:Int)<a):qa a b=0:=(ZE om).trans (ZE om)
theorem CS (a b:Nat):qa a b<0↔a<b:=by
 unfold qa;split
 ·omega
 ·split<;>omega
def swp (X:List Nat)(i j:Nat):List Nat:=lk X ((X.set i (X.getD j mq)).set j (X.getD i mq))
theorem sN (X:List Nat)(i j:Nat):swp X i j=(X.set i (X.getD j mq)).set j (X.getD i mq):=au _ _
theorem iW (X:List Nat)(i j:Nat):(swp X i j).length=X.length:=by rw[sN,Xu,Xu]
theorem Ll {M:List Nat}{o a:Nat}(ho:o<M.length):ai (M.map nD) o [nD a]=(M.set o a).map nD:=by
 apply Wb;intro i;rw[cD (by simp only[Vj,VP];omega),Vu,Vu,WN];simp only[VP]
 by_cases hi:o=i
 ·subst hi
  rw[ZF om,ZF rfl,ZF ho,Wn];rfl
 ·rw[ZE om,ZE hi]
theorem yP {X:List Nat}{i j i' j' i2 j2:Nat}(hi:i<X.length)(hj:j<X.length)(h1:i'=i)(h2:j'=j)(h3:i2=i)(h4:j2=j):ai (ai (X.map nD) i' [D.v (.int .i64 ((X.getD j2 mq:Nat):Int))]) j' [D.v (.int .i64 ((X.getD i2 mq:Nat):Int))]=(swp X i j).map nD:=by
 subst h1 h2 h3 h4;rw[show D.v (.int .i64 ((X.getD j2 mq:Nat):Int))=nD (X.getD j2 mq)from rfl,Ll hi,show D.v (.int .i64 ((X.getD i2 mq:Nat):Int))=nD (X.getD i2 mq)from rfl,Ll (by rw[Xu];exact hj),sN]
theorem F2 {X:List Nat}{o m:Nat}{z:Int}(ho:o<X.length)(hm:m<=X.length):(true&&m.ble (ai (X.map nD) o [D.v (.int .i64 z)]).length)=true:=by
 rw[dV (by rw[Vj,VP];omega),Vj,VM];exact U8 hm
def Pt (X:List Nat)(a b:Nat):Nat->List Nat
 |0=>X
 |k+1=>swp (Pt X a b k) (a+k) (b+k)
theorem yQ (X:List Nat)(a b:Nat):∀k,(Pt X a b k).length=X.length
 |0=>rfl
 |k+1=>by rw[Pt,iW,yQ X a b k]
def fD (X:List Nat)(a b k:Nat):List Nat:=lk X (Pt X a b k)
theorem sO (X:List Nat)(a b k:Nat):fD X a b k=Pt X a b k:=au _ _
theorem eF (X:List Nat)(a b k:Nat):(fD X a b k).length=X.length:=by rw[sO,yQ]
theorem IT (X:List Nat)(a b:Nat):fD X a b 0=X:=sO X a b 0
theorem IU (X:List Nat)(a b k:Nat):swp (fD X a b k) (a+k) (b+k)=fD X a b (k+1):=by rw[sO,sO];rfl
theorem Lm (a b:Nat):S0 176 [nD a,nD b] [] (iD (qa a b)) []:=by
 refine SpecH.run T_ok ah Tryz.func176 rfl rfl rfl trivial rfl 1000 64 (λ R ok=>(.s 22 (.f ((a:Int) !=(a:Int)) (by(simp;done)) (.s 1 (.f ((b:Int) !=(b:Int)) (by(simp;done)) (.s 4 (.bd ((a:Int)<b) (λ p0 Z7=>(.s 1 (.out [] [] (zI (-1)) [] R (ok _ _ (by(rw[Pq om])) wr)))) (λ p0 Z7=>(.s 4 (.bd ((b:Int)<a) (λ p1 Z6=>(.s 1 (.out [] [] (zI 1) [] R (ok _ _ (by(rw[Pr om om])) wr)))) (λ p1 Z6=>(.s 1 (.out [] [] (zI 0) [] R (ok _ _ (by(rw[Ps om om])) wr)))))))))))))) kr
theorem vd (W:List Nat)(L:Nat)(hL:L=W.length)(x y:Nat)(hx:x<L)(hy:y<L):S1 175 [nD x,nD y,.ptr 0 0 0] [⟨[.sl false L 1 (W.map nD)], 152,false⟩] (iD (qa (W.getD x mq) (W.getD y mq))) [⟨[.sl false L 1 (W.map nD)], 152,false⟩]:=by
 refine SpecH.run T_ok ah Tryz.func175 rfl rfl rfl ⟨rfl,trivial⟩ rfl 1000 64 (λ R ok=>(.s 7 (.chk (true&&decide ((x:Int)<L)&&true) CQ (.s 2 (.opt ((map nD W)[x*1]?) (nD (getD W (x*1) mq)) (av _ _ om) (.s 5 (.chk (true&&decide ((y:Int)<L)&&true) CQ (.s 2 (.opt ((map nD W)[y*1]?) (nD (getD W (y*1) mq)) (av _ _ om) (.s 1 (.cl 176 false [] (.fn Sp (@Lm (getD W (x*1) mq) (getD W (y*1) mq))) (.s 1 (.out [0] [0] (zI (qa (getD W (x*1) mq) (getD W (y*1) mq))) [U1 [Vl false L 1 (map nD W)] 152 false] R (ok _ _ (by(rw[VG,VG])) wr)))))))))))))) kr
theorem Pu (X:List Nat)(N:Nat)(hN:N=X.length)(hN2:N<=1000)(W:List Nat)(L:Nat)(hL:L=W.length)(a b n:Nat)(h1:a+n<=N)(h2:b+n<=N):S1 201 [.ref 0 0 0 N 1,nD a,nD b,nD n,.fn (.func 175) [] [.ptr 1 1 0]] [⟨X.map nD, 3,true⟩,⟨[.sl false L 1 (W.map nD)], 152,false⟩] (.tup []) [⟨(fD X a b n).map nD, 3,true⟩,⟨[.sl false L 1 (W.map nD)], 152,false⟩]:=by
 refine SpecH.run T_ok ah Tryz.func201 rfl rfl rfl ⟨eW _,rfl,trivial⟩ rfl 1000 64 (λ R ok=>(.s 1 (.blk 0 0 (U1 (map nD X) 3 true) (U1 (map nD (fD X a b 0)) 3 true) (by(rw[IT];done)) (Hn.inl T_ok ah false 38 2 (aq Tryz.prog 201 0) (λ(x:(i:Nat)×'(hi:i<=n)×'Unit)=>match x with|⟨i,hi,_⟩=>Vn [(0,U6 0 0 0 N 1),(1,zN a),(2,zN b),(3,zN n),(10,nD i)] [⟨0,0,0,0,.b ⟨(fD X a b i).map nD,3,true⟩⟩,⟨1,1,1,1,.b ⟨[Vl false L 1 (map nD W)],152,false⟩⟩] 24) (λ(x:(i:Nat)×'(hi:i<=n)×'Unit)=>match x with|⟨i,hi,_⟩=>n-i) [⟨Unit,.exit 0,λ x=>match x with|()=>Vn [(0,U6 0 0 0 N 1),(1,zN a),(2,zN b),(3,zN n)] [⟨0,0,0,0,.b ⟨(fD X a b n).map nD,3,true⟩⟩,⟨1,1,1,1,.b ⟨[Vl false L 1 (map nD W)],152,false⟩⟩] 24⟩] 1000 64 (fun|⟨i,hi,_⟩,Q,ZA,ZD=>(.s 4 (.bd ((i:Int)<n) (λ p0 Z7=>(.s 6 (.ow (a+i) (.s 5 (.ow (b+i) (.s 5 (.ow (b+i) (.s 1 (.chk (true&&decide ((b:Int)+i<N)) wW (.s 2 (.opt ((map nD (fD X a b i))[0+AB ((b:Int)+i)*1]?) (nD (getD (fD X a b i) (0+AB ((b:Int)+i)*1) mq)) (av _ _ (by(have h9:=eF X a b i;omega))) (.s 5 (.ow (a+i) (.s 1 (.chk (true&&decide ((a:Int)+i<N)) wW (.s 2 (.opt ((map nD (fD X a b i))[0+AB ((a:Int)+i)*1]?) (nD (getD (fD X a b i) (0+AB ((a:Int)+i)*1) mq)) (av _ _ (by(have h9:=eF X a b i;omega))) (.s 1 (.chk (true&&decide ((a:Int)+i<N)) wW (.s 1 (.chk (true&&U7 (0+AB ((a:Int)+i)*1+1) (length (map nD (fD X a b i)))) (by(simp;have h9:=eF X a b i;omega)) (.lst (ai (map nD (fD X a b i)) (0+AB ((a:Int)+i)*1) [zN (getD (fD X a b i) (0+AB ((b:Int)+i)*1) mq)]) (ai (map nD (fD X a b i)) (AB ((a:Int)+i)) [zN (getD (fD X a b i) (AB ((b:Int)+i)) mq)]) (by(simp;done)) (.s 1 (.chk (true&&decide ((b:Int)+i<N)) wW (.s 1 (.chk (true&&U7 (0+AB ((b:Int)+i)*1+1) (length (ai (map nD (fD X a b i)) (AB ((a:Int)+i)) [zN (getD (fD X a b i) (AB ((b:Int)+i)) mq)]))) (by(have h9:=eF X a b i;exact F2 om om)) (.lst (ai (ai (map nD (fD X a b i)) (AB ((a:Int)+i)) [zN (getD (fD X a b i) (AB ((b:Int)+i)) mq)]) (0+AB ((b:Int)+i)*1) [zN (getD (fD X a b i) (0+AB ((a:Int)+i)*1) mq)]) (ai (ai (map nD (fD X a b i)) (AB ((a:Int)+i)) [zN (getD (fD X a b i) (AB ((b:Int)+i)) mq)]) (AB ((b:Int)+i)) [zN (getD (fD X a b i) (AB ((a:Int)+i)) mq)]) (by(simp;done)) (.s 3 (.ow (i+1) (.s 1 (.val 10 (zI (i+1)) (zN (i+1)) sM (.blk 0 0 (U1 (ai (ai (map nD (fD X a b i)) (AB ((a:Int)+i)) [zN (getD (fD X a b i) (AB ((b:Int)+i)) mq)]) (AB ((b:Int)+i)) [zN (getD (fD X a b i) (AB ((a:Int)+i)) mq)]) 3 true) (U1 (map nD (fD X a b (i+1))) 3 true) (by(have h9:=eF X a b i;refine aB (YV (yP (i:=a+i) (j:=b+i) om om om om om om) ?_);rw[IU])) (Hn.next ZA ⟨(i+1),om,⟨⟩⟩ (by show n-(i+1)<n-i;clear ZA ZD;omega) [(0,0),(1,1)] ro))))))))))))))))))))))))))))))))) (λ p0 Z7=>(.blk 0 0 (U1 (map nD (fD X a b i)) 3 true) (U1 (map nD (fD X a b n)) 3 true) (by(rw[show i=n from by(omega)])) (Hn.last ZD 0 (():Unit) rfl [(0,0),(1,1)] ro)))))) (fun|⟨i,hi,_⟩=>by kernel_rfl) ⟨(0),om,⟨⟩⟩ [(0,0),(1,1)] ro (ck (fun|()=>(.out [0,1] [0,1] (V2 []) [U1 (map nD (fD X a b n)) 3 true,U1 [Vl false L 1 (map nD W)] 152 false] R (ok _ _ wr wr)))))))) kr
def je (m:Nat):Nat->Nat->Nat->List Nat->List Nat
 |0,i,_,X=>fD X (m-i) m i
 |f+1,i,j,X=>if i=j then fD X (m-i) m i else if j<i then je m f (i-j) j (fD X (m-i) m j)else je m f i (j-i) (fD X (m-i) (m+j-i) i)
theorem Pv {m f i j:Nat}{X:List Nat}(h:i=j):je m f i j X=fD X (m-i) m i:=by
 cases f with
 |zero=>rfl
 |succ f=>exact ZF h
theorem Pw {m f i j:Nat}{X:List Nat}(h:j<i):je m (f+1) i j X=je m f (i-j) j (fD X (m-i) m j):=(ZE om).trans (ZF h)
theorem Px {m f i j:Nat}{X:List Nat}(h:i<j):je m (f+1) i j X=je m f i (j-i) (fD X (m-i) (m+j-i) i):=(ZE om).trans (ZE om)
def CT (X:List Nat)(a m b:Nat):List Nat:=lk X (je m (b-a) (m-a) (b-m) X)
theorem yR (X:List Nat)(a m b:Nat):CT X a m b=je m (b-a) (m-a) (b-m) X:=au _ _
def inI (W:List Nat)(a:Nat):Nat->List Nat->List Nat
 |0,X=>X
 |j+1,X=>if a<j+1∧W.getD (X.getD (j+1) mq) mq<W.getD (X.getD j mq) mq then inI W a j (swp X (j+1) j)else X
theorem Py {W:List Nat}{a j k:Nat}{X:List Nat}(hk:k+1=j)(h:a<j)(h2:W.getD (X.getD j mq) mq<W.getD (X.getD k mq) mq):inI W a j X=inI W a k (swp X j k):=by
 subst hk;exact ZF ⟨h,h2⟩
theorem IV {W:List Nat}{a j:Nat}{X:List Nat}(h:¬a<j∨¬W.getD (X.getD j mq) mq<W.getD (X.getD (j-1) mq) mq):inI W a j X=X:=by
 cases j with
 |zero=>rfl
 |succ j=>exact ZE (λ q=>by rcases h with h|h;exact h q.1;exact h q.2)
theorem yS {W:List Nat}{a:Nat}:∀(j:Nat) (X:List Nat),(inI W a j X).length=X.length
 |0,_=>rfl
 |j+1,X=>by
  rw[inI];split
  ·rw[yS j,iW]
  ·rfl
def Pz (W X:List Nat)(a:Nat):Nat->List Nat
 |0=>X
 |k+1=>inI W a (a+1+k) (Pz W X a k)
theorem yT (W X:List Nat)(a:Nat):∀k,(Pz W X a k).length=X.length
 |0=>rfl
 |k+1=>by rw[Pz,yS,yT W X a k]
def inQ (W X:List Nat)(a k:Nat):List Nat:=lk X (Pz W X a k)
theorem sQ (W X:List Nat)(a k:Nat):inQ W X a k=Pz W X a k:=au _ _
theorem lI (W X:List Nat)(a k:Nat):(inQ W X a k).length=X.length:=by rw[sQ,yT]
theorem CU (W X:List Nat)(a:Nat):inQ W X a 0=X:=sQ W X a 0
theorem CV (W X:List Nat)(a k:Nat):inI W a (a+1+k) (inQ W X a k)=inQ W X a (k+1):=by rw[sQ,sQ];rfl
theorem IW (X:List Nat)(N:Nat)(hN:N=X.length)(hN2:N<=1000)(W:List Nat)(L:Nat)(hL:L=W.length)(a b n:Int)(a' b' n':Nat)(e1:a=a')(e2:b=b')(e3:n=n')(h1:a'+n'<=N)(h2:b'+n'<=N):S1 201 [.ref 0 0 0 N 1,iD a,iD b,iD n,.fn (.func 175) [] [.ptr 1 1 0]] [⟨X.map nD, 3,true⟩,⟨[.sl false L 1 (W.map nD)], 152,false⟩] (.tup []) [⟨(fD X a' b' n').map nD, 3,true⟩,⟨[.sl false L 1 (W.map nD)], 152,false⟩]:=by
 subst e1 e2 e3;exact Pu X N hN hN2 W L hL a' b' n' h1 h2
theorem IX (X:List Nat)(N:Nat)(hN:N=X.length)(hN2:N<=1000)(W:List Nat)(L:Nat)(hL:L=W.length)(m i j:Nat)(h1:i<=m)(h2:m+j<=N)(h3:j<=i):S1 201 [.ref 0 0 0 N 1,iD ((m:Int)-i),iD ((m:Nat):Int),nD j,.fn (.func 175) [] [.ptr 1 1 0]] [⟨X.map nD, 3,true⟩,⟨[.sl false L 1 (W.map nD)], 152,false⟩] (.tup []) [⟨(fD X (m-i) m j).map nD, 3,true⟩,⟨[.sl false L 1 (W.map nD)], 152,false⟩]:=IW X N hN hN2 W L hL _ _ _ (m-i) m j om rfl rfl om om
theorem PA (X:List Nat)(N:Nat)(hN:N=X.length)(hN2:N<=1000)(W:List Nat)(L:Nat)(hL:L=W.length)(m i j:Nat)(h1:i<=m)(h2:m+j<=N)(h3:i<=j):S1 201 [.ref 0 0 0 N 1,iD ((m:Int)-i),iD ((m:Int)+j-i),nD i,.fn (.func 175) [] [.ptr 1 1 0]] [⟨X.map nD, 3,true⟩,⟨[.sl false L 1 (W.map nD)], 152,false⟩] (.tup []) [⟨(fD X (m-i) (m+j-i) i).map nD, 3,true⟩,⟨[.sl false L 1 (W.map nD)], 152,false⟩]:=IW X N hN hN2 W L hL _ _ _ (m-i) (m+j-i) i om om rfl om om
theorem Ln {m f i j:Nat}{X T:List Nat}(hR:je m f i j X=T)(hf:i+j<=f)(h1:1<=j)(h:j<i):je m (f-1) (i-j) j (fD X (m-i) m j)=T:=by
 obtain⟨g,rfl⟩:∃g,f=g+1:=⟨f-1,by omega⟩
 rw[<-hR,Pw h];rfl
theorem Lo {m f i j:Nat}{X T:List Nat}(hR:je m f i j X=T)(hf:i+j<=f)(h1:1<=i)(h:i<j):je m (f-1) i (j-i) (fD X (m-i) (m+j-i) i)=T:=by
 obtain⟨g,rfl⟩:∃g,f=g+1:=⟨f-1,by omega⟩
 rw[<-hR,Px h];rfl
theorem Lp {m f i j:Nat}{X T:List Nat}(hR:je m f i j X=T)(h:i=j):fD X (m-i) m i=T:=by rw[<-hR,Pv h]
theorem PB (X:List Nat)(N:Nat)(hN:N=X.length)(hN2:N<=1000)(W:List Nat)(L:Nat)(hL:L=W.length)(a m b:Nat)(h1:a<m)(h2:m<b)(h3:b<=N)(T:List Nat)(hT:CT X a m b=T):S1 200 [.ref 0 0 0 N 1,nD a,nD m,nD b,.fn (.func 175) [] [.ptr 1 1 0]] [⟨X.map nD, 3,true⟩,⟨[.sl false L 1 (W.map nD)], 152,false⟩] (.tup []) [⟨(T).map nD, 3,true⟩,⟨[.sl false L 1 (W.map nD)], 152,false⟩]:=by
 refine SpecH.run T_ok ah Tryz.func200 rfl rfl rfl ⟨eW _,rfl,trivial⟩ rfl 1000 64 (λ R ok=>(.s 4 (.ow (m-a) (.s 5 (.ow (b-m) (.s 1 (.val 10 (zI (m-a)) (zN (m-a)) sM (.val 11 (zI (b-m)) (zN (b-m)) sM (Hn.inl T_ok ah false 58 2 (aq Tryz.prog 200 0) (λ(x:(i:Nat)×'(j:Nat)×'(f:Nat)×'(Y:List Nat)×'(hY:Y.length=N)×'(hi:1<=i∧i<=m)×'(hj:1<=j∧m+j<=N)×'(hf:i+j<=f)×'(hR:je m f i j Y=T)×'Unit)=>match x with|⟨i,j,f,Y,hY,hi,hj,hf,hR,_⟩=>Vn [(0,U6 0 0 0 N 1),(2,zN m),(4,WJ (VU 175) [] [Vh 1 1 0]),(10,nD i),(11,nD j)] [⟨0,0,0,0,.b ⟨Y.map nD,3,true⟩⟩,⟨1,1,1,1,.b ⟨[Vl false L 1 (map nD W)],152,false⟩⟩] 24) (λ(x:(i:Nat)×'(j:Nat)×'(f:Nat)×'(Y:List Nat)×'(hY:Y.length=N)×'(hi:1<=i∧i<=m)×'(hj:1<=j∧m+j<=N)×'(hf:i+j<=f)×'(hR:je m f i j Y=T)×'Unit)=>match x with|⟨i,j,f,Y,hY,hi,hj,hf,hR,_⟩=>i+j) [⟨(i2:Nat)×'(Y2:List Nat)×'(hY2:Y2.length=N)×'(hi2:1<=i2∧i2<=m∧m+i2<=N)×'(hR2:fD Y2 (m-i2) m i2=T)×'Unit,.exit 0,λ x=>match x with|⟨i2,Y2,hY2,hi2,hR2,_⟩=>Vn [(0,U6 0 0 0 N 1),(2,zN m),(4,WJ (VU 175) [] [Vh 1 1 0]),(10,nD i2),(11,nD i2)] [⟨0,0,0,0,.b ⟨Y2.map nD,3,true⟩⟩,⟨1,1,1,1,.b ⟨[Vl false L 1 (map nD W)],152,false⟩⟩] 24⟩] 1000 64 (fun|⟨i,j,f,Y,hY,hi,hj,hf,hR,_⟩,Q,ZA,ZD=>(.s 4 (.br ((i:Int) !=(j:Int)) (λ p0=>have Z7:=cS p0;(.s 4 (.bd ((j:Int)<i) (λ p1 Z6=>(.s 5 (.ow (m-i) (.s 4 (.call 201 true [0,1] (true) wr ([U6 0 0 0 N 1,zI (m-i),zN m,zN j,WJ (VU 175) [] [Vh 1 1 0]]) _ (cQ.refl _) (ab (map nD Y)&&true) (by(simp;done)) _ _ _ (VC (az.of Tryz.func201 rfl rfl) (@IX (Y) (N) om om (W) (L) om (m) (i) (j) om om om)) (.s 4 (.ow (i-j) (.s 1 (.val 10 (zI (i-j)) (zN (i-j)) sM (Hn.next ZA ⟨(i-j),(j),(f-1),(fD Y (m-i) m j),(by(rw[eF];(omega))),om,om,om,(by(exact Ln hR om om om)),⟨⟩⟩ (by show i-j+j<i+j;clear ZA ZD;omega) [(0,0),(1,1)] ro)))))))))) (λ p1 Z6=>(.s 5 (.ow (m-i) (.s 4 (.ow (m+j) (.s 3 (.ow (m+j-i) (.s 3 (.call 201 true [0,1] (true) wr ([U6 0 0 0 N 1,zI (m-i),zI (m+j-i),zN i,WJ (VU 175) [] [Vh 1 1 0]]) _ (cQ.refl _) (ab (map nD Y)&&true) (by(simp;done)) _ _ _ (VC (az.of Tryz.func201 rfl rfl) (@PA (Y) (N) om om (W) (L) om (m) (i) (j) om om om)) (.s 4 (.ow (j-i) (.s 1 (.val 11 (zI (j-i)) (zN (j-i)) sM (Hn.next ZA ⟨(i),(j-i),(f-1),(fD Y (m-i) (m+j-i) i),(by(rw[eF];(omega))),om,om,om,(by(exact Lo hR om om om)),⟨⟩⟩ (by show i+(j-i)<i+j;clear ZA ZD;omega) [(0,0),(1,1)] ro))))))))))))))))) (λ p0=>have Z7:=cT p0;(.val 11 (zN j) (zN i) sM (Hn.last ZD 0 (⟨(i),(Y),om,om,(by(rw[Lp hR om])),⟨⟩⟩:(i2:Nat)×'(Y2:List Nat)×'(hY2:Y2.length=N)×'(hi2:1<=i2∧i2<=m∧m+i2<=N)×'(hR2:fD Y2 (m-i2) m i2=T)×'Unit) rfl [(0,0),(1,1)] ro)))))) (fun|⟨i,j,f,Y,hY,hi,hj,hf,hR,_⟩=>by kernel_rfl) ⟨(m-a),(b-m),(b-a),(X),om,om,om,om,(by(exact(yR X a m b).symm.trans hT)),⟨⟩⟩ [(0,0),(1,1)] ro (ck (fun|⟨i2,Y2,hY2,hi2,hR2,_⟩=>(.s 5 (.ow (m-i2) (.s 4 (.call 201 true [0,1] (true) wr ([U6 0 0 0 N 1,zI (m-i2),zN m,zN i2,WJ (VU 175) [] [Vh 1 1 0]]) _ (cQ.refl _) (ab (map nD Y2)&&true) (by(simp;done)) _ _ _ (VC (az.of Tryz.func201 rfl rfl) (@IX (Y2) (N) om om (W) (L) om (m) (i2) (i2) om om om)) (.out [0,1] [0,1] (V2 []) [U1 (map nD (fD Y2 (m-i2) m i2)) 3 true,U1 [Vl false L 1 (map nD W)] 152 false] R (ok _ _ wr (by(simp_all;done))))))))))))))))))) kr
def bL (L:Nat)(X:List Nat):Prop:=∀x∈X,x<L
theorem bL.at {L:Nat}{X:List Nat}(h:bL L X){t:Nat}(ht:t<X.length):X.getD t mq<L:=by
 rw[UZ,U4 ht];exact h _ (V3 ht)
theorem bL.swp {L:Nat}{X:List Nat}(h:bL L X){i j:Nat}(hi:i<X.length)(hj:j<X.length):bL L (swp X i j):=by
 intro x hx;rw[sN]at hx;rcases YX hx with q|q
 ·rcases YX q with q|q
  ·exact h x q
  ·rw[q];exact h.at hj
 ·rw[q];exact h.at hi
theorem bL.inI {L:Nat}{W:List Nat}{a:Nat}:∀(j:Nat) {X:List Nat},bL L X->j<X.length->bL L (inI W a j X)
 |0,_,h,_=>h
 |j+1,X,h,hj=>by
  rw[Vp.inI];split
  ·exact bL.inI j (h.swp hj om) (by rw[iW];omega)
  ·exact h
theorem bL.inQ {L:Nat}{W X:List Nat}{a:Nat}(h:bL L X):∀(k:Nat),a+k<X.length->bL L (inQ W X a k)
 |0,_=>by rw[CU];exact h
 |k+1,hk=>by
  rw[<-CV];exact bL.inI _ (bL.inQ h k om) (by rw[lI];omega)
theorem Lq {W Y T:List Nat}{a j u v:Nat}(hR:inI W a j Y=T)(h:a<j)(hu:u=j)(hv:v=j-1)(h2:qa (W.getD (Y.getD u mq) mq) (W.getD (Y.getD v mq) mq)<0):inI W a (j-1) (swp Y j (j-1))=T:=by
 subst hu hv;rw[<-hR];exact(Py om h ((CS _ _).1 h2)).symm
theorem Lr {W Y T:List Nat}{a j:Nat}(hR:inI W a j Y=T)(h:¬a<j):Y=T:=by rw[<-hR,IV (.inl h)]
theorem Lt {W Y T:List Nat}{a j u v:Nat}(hR:inI W a j Y=T)(hu:u=j)(hv:v=j-1)(h2:¬qa (W.getD (Y.getD u mq) mq) (W.getD (Y.getD v mq) mq)<0):Y=T:=by
 subst hu hv;rw[<-hR,IV (.inr λ q=>h2 ((CS _ _).2 q))]
theorem PC (X:List Nat)(N:Nat)(hN:N=X.length)(hN2:N<=1000)(W:List Nat)(L:Nat)(hL:L=W.length)(hA:bL L X)(a b:Nat)(h1:a<=b)(h3:b<=N)(T:List Nat)(hT:inQ W X a (b-(a+1))=T):S1 196 [.ref 0 0 0 N 1,nD a,nD b,.fn (.func 175) [] [.ptr 1 1 0]] [⟨X.map nD, 3,true⟩,⟨[.sl false L 1 (W.map nD)], 152,false⟩] (.tup []) [⟨(T).map nD, 3,true⟩,⟨[.sl false L 1 (W.map nD)], 152,false⟩]:=by
 refine SpecH.run T_ok ah Tryz.func196 rfl rfl rfl ⟨eW _,rfl,trivial⟩ rfl 1000 64 (λ R ok=>(.s 3 (.ow (a+1) (.s 1 (.val 8 (zI (a+1)) (zN (a+1+0)) sM (.blk 0 0 (U1 (map nD X) 3 true) (U1 (map nD (inQ W X a 0)) 3 true) (by(rw[CU];done)) (Hn.inl T_ok ah false 53 2 (aq Tryz.prog 196 0) (λ(x:(k:Nat)×'(hk:k<=b-(a+1))×'Unit)=>match x with|⟨k,hk,_⟩=>Vn [(0,U6 0 0 0 N 1),(1,zN a),(2,zN b),(3,WJ (VU 175) [] [Vh 1 1 0]),(8,nD (a+1+k))] [⟨0,0,0,0,.b ⟨(inQ W X a k).map nD,3,true⟩⟩,⟨1,1,1,1,.b ⟨[Vl false L 1 (map nD W)],152,false⟩⟩] 24) (λ(x:(k:Nat)×'(hk:k<=b-(a+1))×'Unit)=>match x with|⟨k,hk,_⟩=>b-(a+1)-k) [⟨Unit,.exit 0,λ x=>match x with|()=>Vn [(0,U6 0 0 0 N 1),(1,zN a),(2,zN b),(3,WJ (VU 175) [] [Vh 1 1 0])] [⟨0,0,0,0,.b ⟨T.map nD,3,true⟩⟩,⟨1,1,1,1,.b ⟨[Vl false L 1 (map nD W)],152,false⟩⟩] 24⟩] 1000 64 (fun|⟨k,hk,_⟩,Q,ZA,ZD=>(.s 4 (.bd ((↑(a+1+k):Int)<(b:Int)) (λ p0 Z7=>(.s 2 (Hn.inl T_ok ah false 53 2 (aq Tryz.prog 196 1) (λ(x:(j:Nat)×'(Y:List Nat)×'(hY:Y.length=N)×'(hj:a<=j∧j<=a+1+k)×'(hB:bL L Y)×'(hR:inI W a j Y=inQ W X a (k+1))×'Unit)=>match x with|⟨j,Y,hY,hj,hB,hR,_⟩=>Vn [(0,U6 0 0 0 N 1),(1,zN a),(2,zN b),(3,WJ (VU 175) [] [Vh 1 1 0]),(8,zN (a+1+k)),(9,nD j)] [⟨0,0,0,0,.b ⟨Y.map nD,3,true⟩⟩,⟨1,1,1,1,.b ⟨[Vl false L 1 (map nD W)],152,false⟩⟩] 24) (λ(x:(j:Nat)×'(Y:List Nat)×'(hY:Y.length=N)×'(hj:a<=j∧j<=a+1+k)×'(hB:bL L Y)×'(hR:inI W a j Y=inQ W X a (k+1))×'Unit)=>match x with|⟨j,Y,hY,hj,hB,hR,_⟩=>j) [⟨Unit,.exit 2,λ x=>match x with|()=>Vn [(0,U6 0 0 0 N 1),(1,zN a),(2,zN b),(3,WJ (VU 175) [] [Vh 1 1 0]),(8,zN (a+1+k))] [⟨0,0,0,0,.b ⟨(inQ W X a (k+1)).map nD,3,true⟩⟩,⟨1,1,1,1,.b ⟨[Vl false L 1 (map nD W)],152,false⟩⟩] 24⟩] 1000 64 (fun|⟨j,Y,hY,hj,hB,hR,_⟩,Q,Z9,ZC=>(.s 7 (.bd ((a:Int)<j) (λ p1 Z6=>(.s 6 (.chk (true&&decide ((j:Int)<N)) wW (.s 3 (.opt ((map nD Y)[0+j*1]?) (nD (getD Y (0+j*1) mq)) (av _ _ om) (.s 7 (.ow (j-1) (.s 2 (.chk (decide (0<=(j:Int)-1)&&decide ((j:Int)-1<N)) CQ (.s 3 (.opt ((map nD Y)[0+AB ((j:Int)-1)*1]?) (nD (getD Y (0+AB ((j:Int)-1)*1) mq)) (av _ _ om) (.s 2 (.cl 175 true [1] (.fn Cb (@vd (W) (L) om (getD Y (0+j*1) mq) (getD Y (0+AB ((j:Int)-1)*1) mq) (by(exact hB.at om)) (by(exact hB.at om)))) (.s 4 (.bd (qa (getD W (getD Y (0+j*1) mq) mq) (getD W (getD Y (0+AB ((j:Int)-1)*1) mq) mq)<0) (λ p2 Z5=>(.s 7 (.ow (j-1) (.s 4 (.ow (j-1) (.s 1 (.chk (decide (0<=(j:Int)-1)&&decide ((j:Int)-1<N)) CQ (.s 2 (.opt ((map nD Y)[0+AB ((j:Int)-1)*1]?) (nD (getD Y (0+AB ((j:Int)-1)*1) mq)) (av _ _ om) (.s 3 (.chk (true&&decide ((j:Int)<N)) wW (.s 2 (.opt ((map nD Y)[0+j*1]?) (nD (getD Y (0+j*1) mq)) (av _ _ om) (.s 1 (.chk (true&&decide ((j:Int)<N)) wW (.s 1 (.chk (true&&U7 (0+j*1+1) (length (map nD Y))) (by(simp;have h9:=lI W X a k;omega)) (.lst (ai (map nD Y) (0+j*1) [zN (getD Y (0+AB ((j:Int)-1)*1) mq)]) (ai (map nD Y) j [zN (getD Y (AB ((j:Int)-1)) mq)]) (by(simp;done)) (.s 1 (.chk (decide (0<=(j:Int)-1)&&decide ((j:Int)-1<N)) CQ (.s 1 (.chk (true&&U7 (0+AB ((j:Int)-1)*1+1) (length (ai (map nD Y) j [zN (getD Y (AB ((j:Int)-1)) mq)]))) (by(exact F2 om om)) (.lst (ai (ai (map nD Y) j [zN (getD Y (AB ((j:Int)-1)) mq)]) (0+AB ((j:Int)-1)*1) [zN (getD Y (0+j*1) mq)]) (ai (ai (map nD Y) j [zN (getD Y (AB ((j:Int)-1)) mq)]) (AB ((j:Int)-1)) [zN (getD Y j mq)]) (by(simp;done)) (.s 3 (.ow (j-1) (.s 1 (.val 9 (zI (j-1)) (zN (j-1)) sM (.blk 0 0 (U1 (ai (ai (map nD Y) j [zN (getD Y (AB ((j:Int)-1)) mq)]) (AB ((j:Int)-1)) [zN (getD Y j mq)]) 3 true) (U1 (map nD (swp Y j (j-1))) 3 true) (by(exact aB (yP om om om om om om))) (Hn.next Z9 ⟨(j-1),(swp Y j (j-1)),(by(rw[iW];(omega))),om,(by(exact hB.swp om om)),(by(exact Lq (u:=0+j*1) (v:=0+((j:Int)-1).toNat*1) hR om om om aF)),⟨⟩⟩ (by show j-1<j;clear Z9 ZC ZA ZD;omega) [(0,0),(1,1)] ro))))))))))))))))))))))))))))) (λ p2 Z5=>(.blk 0 0 (U1 (map nD Y) 3 true) (U1 (map nD (inQ W X a (k+1))) 3 true) (by(rw[Lt (u:=0+j*1) (v:=0+((j:Int)-1).toNat*1) hR om om aF])) (Hn.last ZC 0 (():Unit) rfl [(0,0),(1,1)] ro)))))))))))))))))) (λ p1 Z6=>(.s 24 (.blk 0 0 (U1 (map nD Y) 3 true) (U1 (map nD (inQ W X a (k+1))) 3 true) (by(rw[Lr hR om])) (Hn.last ZC 0 (():Unit) rfl [(0,0),(1,1)] ro))))))) (fun|⟨j,Y,hY,hj,hB,hR,_⟩=>by kernel_rfl) ⟨(a+1+k),(inQ W X a k),(by(have h9:=lI W X a k;omega)),om,(by(have h9:=lI W X a k;exact bL.inQ hA k om)),(by(exact CV W X a k)),⟨⟩⟩ [(0,0),(1,1)] ro (ck (fun|()=>(.s 3 (.ow ((↑(a+1+k):Int)+1) (.s 1 (.val 8 (zI ((↑(a+1+k):Int)+1)) (zN (a+1+(k+1))) sM (Hn.next ZA ⟨(k+1),om,⟨⟩⟩ (by show b-(a+1)-(k+1)<b-(a+1)-k;clear ZA ZD;omega) [(0,0),(1,1)] ro)))))))))) (λ p0 Z7=>(.blk 0 0 (U1 (map nD (inQ W X a k)) 3 true) (U1 (map nD T) 3 true) (by(rw[<-hT,show b-(a+1)=k from by omega])) (Hn.last ZD 0 (():Unit) rfl [(0,0),(1,1)] ro)))))) (fun|⟨k,hk,_⟩=>by kernel_rfl) ⟨(0),om,⟨⟩⟩ [(0,0),(1,1)] ro (ck (fun|()=>(.out [0,1] [0,1] (V2 []) [U1 (map nD T) 3 true,U1 [Vl false L 1 (map nD W)] 152 false] R (ok _ _ wr wr))))))))))) kr
theorem fh {p:Prop}(h:p:=by(refine decide_eq_true ?_;(omega))):p:=h
theorem sR {p:Prop}(h:p:=by(refine decide_eq_false ?_;(omega))):p:=h
theorem ve {p:Prop}(h:p:=by(refine aR ?_;(omega))):p:=h
theorem F3 {p:Prop}(h:p:=by show y-((x+y)/2+1)<y-x;clear ZA ZD;omega):p:=h
theorem F4 {p:Prop}(h:p:=by show(x+y)/2-x<y-x;clear ZA ZD;omega):p:=h
theorem F5 {p:Prop}(h:p:=by(have z:=CW hR om;refine aR ?_;omega)):p:=h
theorem F6 {p:Prop}(h:p:=by((refine aI ?_ ?_)<;>(repeat' (first|(refine aI ?_ ?_)|(with_reducible rfl)|(refine decide_eq_true ?_)|(refine U8 ?_)|(refine fw ?_)))<;>(omega))):p:=h
theorem F7 {p:Prop}(h:p:=by(have z:=hE.e3 om;refine aR ?_;omega)):p:=h
theorem F8 {p:Prop}(h:p:=by(have z:=hE.e4 om;refine aR ?_;omega)):p:=h
theorem PD {p:Prop}(h:p:=by show(!decide _)=true;rw[decide_eq_false (show¬PE W X _ _<0 from hp)];rfl):p:=h
theorem IY {p:Prop}(h:p:=by show¬(!decide _)=true;rw[decide_eq_true (show PE W X _ _<0 from hp)];decide):p:=h
theorem IZ {p:Prop}(h:p:=by(exact SZ (u:=0+(((x:Int)+(y:Int))/2).toNat*1) (v:=0+(((a:Int)+(b:Int))/2+(m:Int)-1-((x:Int)+(y:Int))/2).toNat*1) hR om om om om aF)):p:=h
theorem I0 {p:Prop}(h:p:=by(exact S4 (u:=0+(((x:Int)+(y:Int))/2).toNat*1) (v:=0+(((a:Int)+(b:Int))/2+(m:Int)-1-((x:Int)+(y:Int))/2).toNat*1) hR om om om om aF)):p:=h
def ji (p:Nat->Bool):Nat->Nat->Nat->Nat
 |0,i,_=>i
 |f+1,i,j=>if i<j then(if p ((i+j)/2)=true then ji p f ((i+j)/2+1) j else ji p f i ((i+j)/2))else i
theorem CW {p:Nat->Bool}{f i j T:Nat}(hR:ji p f i j=T)(h:¬i<j):i=T:=by
 rw[<-hR];cases f with
 |zero=>rfl
 |succ f=>exact(ZE h).symm
theorem Lu {p:Nat->Bool}{f i j T:Nat}(hR:ji p f i j=T)(hf:j-i<=f)(h:i<j)(hp:p ((i+j)/2)=true):ji p (f-1) ((i+j)/2+1) j=T:=by
 obtain⟨g,rfl⟩:∃g,f=g+1:=⟨f-1,by omega⟩
 rw[<-hR];exact((ZF h).trans (ZF hp)).symm
theorem Lv {p:Nat->Bool}{f i j T:Nat}(hR:ji p f i j=T)(hf:j-i<=f)(h:i<j)(hp:¬p ((i+j)/2)=true):ji p (f-1) i ((i+j)/2)=T:=by
 obtain⟨g,rfl⟩:∃g,f=g+1:=⟨f-1,by omega⟩
 rw[<-hR];exact((ZF h).trans (ZE hp)).symm
theorem po {p:Nat->Bool}:∀(f i j:Nat),i<=j->i<=ji p f i j∧ji p f i j<=j
 |0,i,j,h=>⟨Vd _,h⟩
 |f+1,i,j,h=>by
  rw[ji];split
  ·split
   ·have:=po (p:=p) f ((i+j)/2+1) j om;omega
   ·have:=po (p:=p) f i ((i+j)/2) om;omega
  ·exact⟨Vd _,h⟩
def PE (W X:List Nat)(u v:Nat):Int:=qa (W.getD (X.getD u mq) mq) (W.getD (X.getD v mq) mq)
def qA (W X:List Nat)(a h:Nat):Bool:=decide (PE W X h a<0)
def qB (W X:List Nat)(m h:Nat):Bool:=!decide (PE W X m h<0)
def qC (W X:List Nat)(q c:Nat):Bool:=!decide (PE W X (q-c) c<0)
section
variable {W X:List Nat} {f x y T a u v:Nat}
theorem SV (hR:ji (qA W X a) f x y=T)(hf:y-x<=f)(h:x<y)(hu:u=(x+y)/2)(hv:v=a)(hp:qa (W.getD (X.getD u mq) mq) (W.getD (X.getD v mq) mq)<0):ji (qA W X a) (f-1) ((x+y)/2+1) y=T:=by
 subst hu hv;exact Lu hR hf h (decide_eq_true hp)
theorem SW (hR:ji (qA W X a) f x y=T)(hf:y-x<=f)(h:x<y)(hu:u=(x+y)/2)(hv:v=a)(hp:¬qa (W.getD (X.getD u mq) mq) (W.getD (X.getD v mq) mq)<0):ji (qA W X a) (f-1) x ((x+y)/2)=T:=by
 subst hu hv;exact Lv hR hf h (λ q=>hp (of_decide_eq_true q))
theorem SX (hR:ji (qB W X a) f x y=T)(hf:y-x<=f)(h:x<y)(hu:u=(x+y)/2)(hv:v=a)(hp:¬qa (W.getD (X.getD v mq) mq) (W.getD (X.getD u mq) mq)<0):ji (qB W X a) (f-1) ((x+y)/2+1) y=T:=by
 subst hu hv;exact Lu hR hf h PD
theorem SY (hR:ji (qB W X a) f x y=T)(hf:y-x<=f)(h:x<y)(hu:u=(x+y)/2)(hv:v=a)(hp:qa (W.getD (X.getD v mq) mq) (W.getD (X.getD u mq) mq)<0):ji (qB W X a) (f-1) x ((x+y)/2)=T:=by
 subst hu hv;exact Lv hR hf h IY
theorem SZ (hR:ji (qC W X a) f x y=T)(hf:y-x<=f)(h:x<y)(hu:u=(x+y)/2)(hv:v=a-(x+y)/2)(hp:¬qa (W.getD (X.getD v mq) mq) (W.getD (X.getD u mq) mq)<0):ji (qC W X a) (f-1) ((x+y)/2+1) y=T:=by
 subst hu hv;exact Lu hR hf h PD
theorem S4 (hR:ji (qC W X a) f x y=T)(hf:y-x<=f)(h:x<y)(hu:u=(x+y)/2)(hv:v=a-(x+y)/2)(hp:qa (W.getD (X.getD v mq) mq) (W.getD (X.getD u mq) mq)<0):ji (qC W X a) (f-1) x ((x+y)/2)=T:=by
 subst hu hv;exact Lv hR hf h IY
end
def PF (X:List Nat)(a:Nat):Nat->List Nat
 |0=>X
 |k+1=>swp (PF X a k) (a+k) (a+k+1)
def PG (X:List Nat)(m:Nat):Nat->List Nat
 |0=>X
 |k+1=>swp (PG X m k) (m-k) (m-k-1)
theorem yU (X:List Nat)(a:Nat):∀k,(PF X a k).length=X.length
 |0=>rfl
 |k+1=>by rw[PF,iW,yU X a k]
theorem yV (X:List Nat)(a:Nat):∀k,(PG X a k).length=X.length
 |0=>rfl
 |k+1=>by rw[PG,iW,yV X a k]
def jG (X:List Nat)(a k:Nat):List Nat:=lk X (PF X a k)
def jH (X:List Nat)(m k:Nat):List Nat:=lk X (PG X m k)
theorem sS (X:List Nat)(a k:Nat):jG X a k=PF X a k:=au _ _
theorem sT (X:List Nat)(a k:Nat):jH X a k=PG X a k:=au _ _
theorem I1 (X:List Nat)(a:Nat):jG X a 0=X:=sS X a 0
theorem I2 (X:List Nat)(a:Nat):jH X a 0=X:=sT X a 0
theorem iX (X:List Nat)(a k:Nat):(jG X a k).length=X.length:=by rw[sS,yU]
theorem iY (X:List Nat)(a k:Nat):(jH X a k).length=X.length:=by rw[sT,yV]
theorem I3 (X:List Nat)(a k:Nat):swp (jG X a k) (a+k) (a+k+1)=jG X a (k+1):=by rw[sS,sS];rfl
theorem I4 (X:List Nat)(a k:Nat):swp (jH X a k) (a-k) (a-k-1)=jH X a (k+1):=by rw[sT,sT];rfl
theorem S5 (X:List Nat)(N:Nat)(hN:N=X.length)(hN2:N<=1000)(W:List Nat)(L:Nat)(hL:L=W.length)(hA:bL L X)(a m b:Nat)(h1:a<m)(h2:m<b)(h3:b<=N)(hm:m=a+1)(i:Nat)(hi:ji (qA W X a) (b-m) m b=i)(hi2:m<=i∧i<=b):S1 197 [.ref 0 0 0 N 1,nD a,nD m,nD b,.fn (.func 175) [] [.ptr 1 1 0]] [⟨X.map nD, 3,true⟩,⟨[.sl false L 1 (W.map nD)], 152,false⟩] (.tup []) [⟨(jG X a (i-1-a)).map nD, 3,true⟩,⟨[.sl false L 1 (W.map nD)], 152,false⟩]:=by
 refine SpecH.run T_ok ah Tryz.func197 rfl rfl rfl ⟨eW _,rfl,trivial⟩ rfl 1000 64 (λ R ok=>(.s 4 (.ow (m-a) (.s 2 (.t ((m:Int)-a==1) fh (.s 4 (Hn.inl T_ok ah false 220 2 (aq Tryz.prog 197 0) (λ(x:(x:Nat)×'(y:Nat)×'(f:Nat)×'(hx:m<=x∧x<=y∧y<=b)×'(hf:y-x<=f)×'(hR:ji (qA W X a) f x y=i)×'Unit)=>match x with|⟨x,y,f,hx,hf,hR,_⟩=>Vn [(0,U6 0 0 0 N 1),(1,zN a),(4,WJ (VU 175) [] [Vh 1 1 0]),(10,nD x),(11,nD y)] [⟨0,0,0,0,.b ⟨map nD X,3,true⟩⟩,⟨1,1,1,1,.b ⟨[Vl false L 1 (map nD W)],152,false⟩⟩] 24) (λ(x:(x:Nat)×'(y:Nat)×'(f:Nat)×'(hx:m<=x∧x<=y∧y<=b)×'(hf:y-x<=f)×'(hR:ji (qA W X a) f x y=i)×'Unit)=>match x with|⟨x,y,f,hx,hf,hR,_⟩=>y-x) [⟨Unit,.exit 0,λ x=>match x with|()=>Vn [(0,U6 0 0 0 N 1),(1,zN a),(4,WJ (VU 175) [] [Vh 1 1 0]),(10,nD i),(11,nD i)] [⟨0,0,0,0,.b ⟨map nD X,3,true⟩⟩,⟨1,1,1,1,.b ⟨[Vl false L 1 (map nD W)],152,false⟩⟩] 24⟩] 1000 64 (fun|⟨x,y,f,hx,hf,hR,_⟩,Q,ZA,ZD=>(.s 4 (.bd ((x:Int)<y) (λ p0 Z7=>(.s 4 (.ow (x+y) (.s 1 (.opt (ax .u64 ((x:Int)+y)) (D.v (Wj .u64 ((x:Int)+y))) (bG om) (.s 2 (.opt (bY W5 (V1 ((x:Int)+y) 2)) (D.v (Wj .u64 (((x:Int)+y)/2))) (aQ (@iO  ((x:Int)+y) (2) om)) (.s 1 (.ow (((x:Int)+y)/2) (.s 6 (.chk (true&&decide (((x:Int)+y)/2<N)) fh (.s 2 (.opt ((map nD X)[0+AB (((x:Int)+y)/2)*1]?) (nD (getD X (0+AB (((x:Int)+y)/2)*1) mq)) (av _ _ om) (.s 3 (.chk (true&&decide ((a:Int)<N)) fh (.s 2 (.opt ((map nD X)[0+a*1]?) (nD (getD X (0+a*1) mq)) (av _ _ om) (.s 1 (.cl 175 true [1] (.fn Cb (@vd (W) (L) om (getD X (0+AB (((x:Int)+y)/2)*1) mq) (getD X (0+a*1) mq) (by(exact hA.at om)) (by(exact hA.at om)))) (.s 2 (.bd (qa (getD W (getD X (0+AB (((x:Int)+y)/2)*1) mq) mq) (getD W (getD X (0+a*1) mq) mq)<0) (λ p1 Z6=>(.s 3 (.ow (((x:Int)+y)/2+1) (.s 1 (.val 10 (zI (((x:Int)+y)/2+1)) (zN ((x+y)/2+1)) ve (Hn.next ZA ⟨((x+y)/2+1),(y),(f-1),om,om,(by(exact SV (u:=0+(((x:Int)+y)/2).toNat*1) (v:=0+a*1) hR om om om om aF)),⟨⟩⟩ F3 [(0,0),(1,1)] ro)))))) (λ p1 Z6=>(.s 2 (.val 11 (zI (((x:Int)+y)/2)) (zN ((x+y)/2)) ve (Hn.next ZA ⟨(x),((x+y)/2),(f-1),om,om,(by(exact SW (u:=0+(((x:Int)+y)/2).toNat*1) (v:=0+a*1) hR om om om om aF)),⟨⟩⟩ F4 [(0,0),(1,1)] ro))))))))))))))))))))))))) (λ p0 Z7=>(.val 10 (zN x) (zN i) (by(rw[CW hR om])) (.val 11 (zN y) (zN i) F5 (Hn.last ZD 0 (():Unit) rfl [(0,0),(1,1)] ro))))))) (fun|⟨x,y,f,hx,hf,hR,_⟩=>by kernel_rfl) ⟨(m),(b),(b-m),om,om,om,⟨⟩⟩ [(0,0),(1,1)] ro (ck (fun|()=>(.s 2 (.val 13 (zN a) (zN (a+0)) ve (.blk 0 0 (U1 (map nD X) 3 true) (U1 (map nD (jG X a 0)) 3 true) (by(rw[I1];done)) (Hn.inl T_ok ah false 220 2 (aq Tryz.prog 197 1) (λ(x:(k:Nat)×'(hk:a+k<=i-1)×'Unit)=>match x with|⟨k,hk,_⟩=>Vn [(0,U6 0 0 0 N 1),(10,zN i),(13,nD (a+k))] [⟨0,0,0,0,.b ⟨(jG X a k).map nD,3,true⟩⟩,⟨1,1,1,1,.b ⟨[Vl false L 1 (map nD W)],152,false⟩⟩] 24) (λ(x:(k:Nat)×'(hk:a+k<=i-1)×'Unit)=>match x with|⟨k,hk,_⟩=>i-1-a-k) [⟨Unit,.exit 2,λ x=>match x with|()=>Vn [(0,U6 0 0 0 N 1),(10,zN i)] [⟨0,0,0,0,.b ⟨(jG X a (i-1-a)).map nD,3,true⟩⟩,⟨1,1,1,1,.b ⟨[Vl false L 1 (map nD W)],152,false⟩⟩] 24⟩] 1000 64 (fun|⟨k,hk,_⟩,Q,ZA,ZD=>(.s 4 (.ow (i-1) (.s 2 (.bd ((↑(a+k):Int)<(i:Int)-1) (λ p2 Z5=>(.s 7 (.ow ((↑(a+k):Int)+1) (.s 4 (.ow ((↑(a+k):Int)+1) (.s 1 (.chk (true&&decide ((↑(a+k):Int)+1<(N:Int))) fh (.s 2 (.opt ((map nD (jG X a k))[0+AB ((↑(a+k):Int)+1)*1]?) (nD (getD (jG X a k) (0+AB ((↑(a+k):Int)+1)*1) mq)) (av _ _ (by(have h9:=iX X a k;omega))) (.s 3 (.chk (true&&decide ((↑(a+k):Int)<(N:Int))) fh (.s 2 (.opt ((map nD (jG X a k))[0+(a+k)*1]?) (nD (getD (jG X a k) (0+(a+k)*1) mq)) (av _ _ (by(have h9:=iX X a k;omega))) (.s 1 (.chk (true&&decide ((↑(a+k):Int)<(N:Int))) fh (.s 1 (.chk (true&&U7 (0+(a+k)*1+1) (length (map nD (jG X a k)))) (by(simp;have h9:=iX X a k;omega)) (.lst (ai (map nD (jG X a k)) (0+(a+k)*1) [zN (getD (jG X a k) (0+AB ((↑(a+k):Int)+1)*1) mq)]) (ai (map nD (jG X a k)) (a+k) [zN (getD (jG X a k) (AB ((↑(a+k):Int)+1)) mq)]) (by(simp;done)) (.s 1 (.chk (true&&decide ((↑(a+k):Int)+1<(N:Int))) fh (.s 1 (.chk (true&&U7 (0+AB ((↑(a+k):Int)+1)*1+1) (length (ai (map nD (jG X a k)) (a+k) [zN (getD (jG X a k) (AB ((↑(a+k):Int)+1)) mq)]))) (by(have h9:=iX X a k;exact F2 om om)) (.lst (ai (ai (map nD (jG X a k)) (a+k) [zN (getD (jG X a k) (AB ((↑(a+k):Int)+1)) mq)]) (0+AB ((↑(a+k):Int)+1)*1) [zN (getD (jG X a k) (0+(a+k)*1) mq)]) (ai (ai (map nD (jG X a k)) (a+k) [zN (getD (jG X a k) (AB ((↑(a+k):Int)+1)) mq)]) (AB ((↑(a+k):Int)+1)) [zN (getD (jG X a k) (a+k) mq)]) (by(simp;done)) (.s 3 (.ow ((↑(a+k):Int)+1) (.s 1 (.val 13 (zI ((↑(a+k):Int)+1)) (zN (a+(k+1))) ve (.blk 0 0 (U1 (ai (ai (map nD (jG X a k)) (a+k) [zN (getD (jG X a k) (AB ((↑(a+k):Int)+1)) mq)]) (AB ((↑(a+k):Int)+1)) [zN (getD (jG X a k) (a+k) mq)]) 3 true) (U1 (map nD (jG X a (k+1))) 3 true) (by(have h9:=iX X a k;exact aB (YV (yP (i:=a+k) (j:=a+k+1) om om om om om om) (by rw[I3])))) (Hn.next ZA ⟨(k+1),om,⟨⟩⟩ (by show i-1-a-(k+1)<i-1-a-k;clear ZA ZD;omega) [(0,0),(1,1)] ro))))))))))))))))))))))))))))) (λ p2 Z5=>(.blk 0 0 (U1 (map nD (jG X a k)) 3 true) (U1 (map nD (jG X a (i-1-a))) 3 true) (by(rw[show k=i-1-a from by omega])) (Hn.last ZD 0 (():Unit) rfl [(0,0),(1,1)] ro)))))))) (fun|⟨k,hk,_⟩=>by kernel_rfl) ⟨(0),om,⟨⟩⟩ [(0,0),(1,1)] ro (ck (fun|()=>(.out [0,1] [0,1] (V2 []) [U1 (map nD (jG X a (i-1-a))) 3 true,U1 [Vl false L 1 (map nD W)] 152 false] R (ok _ _ wr wr))))))))))))))))) kr
theorem S6 (X:List Nat)(N:Nat)(hN:N=X.length)(hN2:N<=1000)(W:List Nat)(L:Nat)(hL:L=W.length)(hA:bL L X)(a m b:Nat)(h1:a<m)(h2:m<b)(h3:b<=N)(hm:m≠a+1)(hb:b=m+1)(i:Nat)(hi:ji (qB W X m) (m-a) a m=i)(hi2:a<=i∧i<=m):S1 197 [.ref 0 0 0 N 1,nD a,nD m,nD b,.fn (.func 175) [] [.ptr 1 1 0]] [⟨X.map nD, 3,true⟩,⟨[.sl false L 1 (W.map nD)], 152,false⟩] (.tup []) [⟨(jH X m (m-i)).map nD, 3,true⟩,⟨[.sl false L 1 (W.map nD)], 152,false⟩]:=by
 refine SpecH.run T_ok ah Tryz.func197 rfl rfl rfl ⟨eW _,rfl,trivial⟩ rfl 1000 64 (λ R ok=>(.s 4 (.ow (m-a) (.s 2 (.f ((m:Int)-a==1) sR (.s 4 (.ow (b-m) (.s 2 (.t ((b:Int)-m==1) fh (.s 4 (Hn.inl T_ok ah false 220 2 (aq Tryz.prog 197 2) (λ(x:(x:Nat)×'(y:Nat)×'(f:Nat)×'(hx:a<=x∧x<=y∧y<=m)×'(hf:y-x<=f)×'(hR:ji (qB W X m) f x y=i)×'Unit)=>match x with|⟨x,y,f,hx,hf,hR,_⟩=>Vn [(0,U6 0 0 0 N 1),(2,zN m),(4,WJ (VU 175) [] [Vh 1 1 0]),(14,nD x),(15,nD y)] [⟨0,0,0,0,.b ⟨map nD X,3,true⟩⟩,⟨1,1,1,1,.b ⟨[Vl false L 1 (map nD W)],152,false⟩⟩] 24) (λ(x:(x:Nat)×'(y:Nat)×'(f:Nat)×'(hx:a<=x∧x<=y∧y<=m)×'(hf:y-x<=f)×'(hR:ji (qB W X m) f x y=i)×'Unit)=>match x with|⟨x,y,f,hx,hf,hR,_⟩=>y-x) [⟨Unit,.exit 4,λ x=>match x with|()=>Vn [(0,U6 0 0 0 N 1),(2,zN m),(4,WJ (VU 175) [] [Vh 1 1 0]),(14,nD i),(15,nD i)] [⟨0,0,0,0,.b ⟨map nD X,3,true⟩⟩,⟨1,1,1,1,.b ⟨[Vl false L 1 (map nD W)],152,false⟩⟩] 24⟩] 1000 64 (fun|⟨x,y,f,hx,hf,hR,_⟩,Q,ZA,ZD=>(.s 4 (.bd ((x:Int)<y) (λ p0 Z7=>(.s 4 (.ow (x+y) (.s 1 (.opt (ax .u64 ((x:Int)+y)) (D.v (Wj .u64 ((x:Int)+y))) (bG om) (.s 2 (.opt (bY W5 (V1 ((x:Int)+y) 2)) (D.v (Wj .u64 (((x:Int)+y)/2))) (aQ (@iO  ((x:Int)+y) (2) om)) (.s 1 (.ow (((x:Int)+y)/2) (.s 6 (.chk (true&&decide ((m:Int)<N)) fh (.s 2 (.opt ((map nD X)[0+m*1]?) (nD (getD X (0+m*1) mq)) (av _ _ om) (.s 3 (.chk (true&&decide (((x:Int)+y)/2<N)) fh (.s 2 (.opt ((map nD X)[0+AB (((x:Int)+y)/2)*1]?) (nD (getD X (0+AB (((x:Int)+y)/2)*1) mq)) (av _ _ om) (.s 1 (.cl 175 true [1] (.fn Cb (@vd (W) (L) om (getD X (0+m*1) mq) (getD X (0+AB (((x:Int)+y)/2)*1) mq) (by(exact hA.at om)) (by(exact hA.at om)))) (.s 3 (.br (!decide (qa (getD W (getD X (0+m*1) mq) mq) (getD W (getD X (0+AB (((x:Int)+y)/2)*1) mq) mq)<0)) (λ p1=>have Z6:=B7 (gE p1);(.s 3 (.ow (((x:Int)+y)/2+1) (.s 1 (.val 14 (zI (((x:Int)+y)/2+1)) (zN ((x+y)/2+1)) ve (Hn.next ZA ⟨((x+y)/2+1),(y),(f-1),om,om,(by(exact SX (u:=0+(((x:Int)+y)/2).toNat*1) (v:=0+m*1) hR om om om om aF)),⟨⟩⟩ F3 [(0,0),(1,1)] ro)))))) (λ p1=>have Z6:=B6 (gF p1);(.s 2 (.val 15 (zI (((x:Int)+y)/2)) (zN ((x+y)/2)) ve (Hn.next ZA ⟨(x),((x+y)/2),(f-1),om,om,(by(exact SY (u:=0+(((x:Int)+y)/2).toNat*1) (v:=0+m*1) hR om om om om aF)),⟨⟩⟩ F4 [(0,0),(1,1)] ro))))))))))))))))))))))))) (λ p0 Z7=>(.val 14 (zN x) (zN i) (by(rw[CW hR om])) (.val 15 (zN y) (zN i) F5 (Hn.last ZD 0 (():Unit) rfl [(0,0),(1,1)] ro))))))) (fun|⟨x,y,f,hx,hf,hR,_⟩=>by kernel_rfl) ⟨(a),(m),(m-a),om,om,om,⟨⟩⟩ [(0,0),(1,1)] ro (ck (fun|()=>(.s 2 (.val 17 (zN m) (zN (m-0)) ve (.blk 0 0 (U1 (map nD X) 3 true) (U1 (map nD (jH X m 0)) 3 true) (by(rw[I2];done)) (Hn.inl T_ok ah false 220 2 (aq Tryz.prog 197 3) (λ(x:(k:Nat)×'(hk:k<=m-i)×'Unit)=>match x with|⟨k,hk,_⟩=>Vn [(0,U6 0 0 0 N 1),(14,zN i),(17,nD (m-k))] [⟨0,0,0,0,.b ⟨(jH X m k).map nD,3,true⟩⟩,⟨1,1,1,1,.b ⟨[Vl false L 1 (map nD W)],152,false⟩⟩] 24) (λ(x:(k:Nat)×'(hk:k<=m-i)×'Unit)=>match x with|⟨k,hk,_⟩=>m-i-k) [⟨Unit,.exit 6,λ x=>match x with|()=>Vn [(0,U6 0 0 0 N 1),(14,zN i)] [⟨0,0,0,0,.b ⟨(jH X m (m-i)).map nD,3,true⟩⟩,⟨1,1,1,1,.b ⟨[Vl false L 1 (map nD W)],152,false⟩⟩] 24⟩] 1000 64 (fun|⟨k,hk,_⟩,Q,ZA,ZD=>(.s 4 (.bd ((i:Int)<(↑(m-k):Int)) (λ p2 Z5=>(.s 7 (.ow ((↑(m-k):Int)-1) (.s 4 (.ow ((↑(m-k):Int)-1) (.s 1 (.chk (decide (0<=(↑(m-k):Int)-1)&&decide ((↑(m-k):Int)-1<(N:Int))) F6 (.s 2 (.opt ((map nD (jH X m k))[0+AB ((↑(m-k):Int)-1)*1]?) (nD (getD (jH X m k) (0+AB ((↑(m-k):Int)-1)*1) mq)) (av _ _ (by(have h9:=iY X m k;omega))) (.s 3 (.chk (true&&decide ((↑(m-k):Int)<(N:Int))) fh (.s 2 (.opt ((map nD (jH X m k))[0+(m-k)*1]?) (nD (getD (jH X m k) (0+(m-k)*1) mq)) (av _ _ (by(have h9:=iY X m k;omega))) (.s 1 (.chk (true&&decide ((↑(m-k):Int)<(N:Int))) fh (.s 1 (.chk (true&&U7 (0+(m-k)*1+1) (length (map nD (jH X m k)))) (by(simp;have h9:=iY X m k;omega)) (.lst (ai (map nD (jH X m k)) (0+(m-k)*1) [zN (getD (jH X m k) (0+AB ((↑(m-k):Int)-1)*1) mq)]) (ai (map nD (jH X m k)) (m-k) [zN (getD (jH X m k) (AB ((↑(m-k):Int)-1)) mq)]) (by(simp;done)) (.s 1 (.chk (decide (0<=(↑(m-k):Int)-1)&&decide ((↑(m-k):Int)-1<(N:Int))) F6 (.s 1 (.chk (true&&U7 (0+AB ((↑(m-k):Int)-1)*1+1) (length (ai (map nD (jH X m k)) (m-k) [zN (getD (jH X m k) (AB ((↑(m-k):Int)-1)) mq)]))) (by(have h9:=iY X m k;exact F2 om om)) (.lst (ai (ai (map nD (jH X m k)) (m-k) [zN (getD (jH X m k) (AB ((↑(m-k):Int)-1)) mq)]) (0+AB ((↑(m-k):Int)-1)*1) [zN (getD (jH X m k) (0+(m-k)*1) mq)]) (ai (ai (map nD (jH X m k)) (m-k) [zN (getD (jH X m k) (AB ((↑(m-k):Int)-1)) mq)]) (AB ((↑(m-k):Int)-1)) [zN (getD (jH X m k) (m-k) mq)]) (by(simp;done)) (.s 3 (.ow ((↑(m-k):Int)-1) (.s 1 (.val 17 (zI ((↑(m-k):Int)-1)) (zN (m-(k+1))) ve (.blk 0 0 (U1 (ai (ai (map nD (jH X m k)) (m-k) [zN (getD (jH X m k) (AB ((↑(m-k):Int)-1)) mq)]) (AB ((↑(m-k):Int)-1)) [zN (getD (jH X m k) (m-k) mq)]) 3 true) (U1 (map nD (jH X m (k+1))) 3 true) (by(have h9:=iY X m k;exact aB (YV (yP (i:=m-k) (j:=m-k-1) om om om om om om) (by rw[I4])))) (Hn.next ZA ⟨(k+1),om,⟨⟩⟩ (by show m-i-(k+1)<m-i-k;clear ZA ZD;omega) [(0,0),(1,1)] ro))))))))))))))))))))))))))))) (λ p2 Z5=>(.blk 0 0 (U1 (map nD (jH X m k)) 3 true) (U1 (map nD (jH X m (m-i))) 3 true) (by(rw[show k=m-i from by omega])) (Hn.last ZD 0 (():Unit) rfl [(0,0),(1,1)] ro)))))) (fun|⟨k,hk,_⟩=>by kernel_rfl) ⟨(0),om,⟨⟩⟩ [(0,0),(1,1)] ro (ck (fun|()=>(.out [0,1] [0,1] (V2 []) [U1 (map nD (jH X m (m-i))) 3 true,U1 [Vl false L 1 (map nD W)] 152 false] R (ok _ _ wr wr))))))))))))))))))))) kr
structure RtH (W:List Nat)(L N:Nat)(X:List Nat)(a m b:Nat)(X1:List Nat):Prop where
 h:∀(Y:List Nat) (x y z:Int),Y=X->x=a->y=m->z=b->S1 200 [.ref 0 0 0 N 1,iD x,iD y,iD z,.fn (.func 175) [] [.ptr 1 1 0]] [⟨Y.map nD, 3,true⟩,⟨[.sl false L 1 (W.map nD)], 152,false⟩] (.tup []) [⟨X1.map nD, 3,true⟩,⟨[.sl false L 1 (W.map nD)], 152,false⟩]
structure SaH (W:List Nat)(L N:Nat)(X:List Nat)(a m b:Nat)(X1:List Nat):Prop where
 h:∀(Y:List Nat) (x y z:Int),Y=X->x=a->y=m->z=b->S1 197 [.ref 0 0 0 N 1,iD x,iD y,iD z,.fn (.func 175) [] [.ptr 1 1 0]] [⟨Y.map nD, 3,true⟩,⟨[.sl false L 1 (W.map nD)], 152,false⟩] (.tup []) [⟨X1.map nD, 3,true⟩,⟨[.sl false L 1 (W.map nD)], 152,false⟩]
structure SbH (W:List Nat)(L N:Nat)(X:List Nat)(a m b:Nat)(X1:List Nat):Prop where
 h:∀(Y:List Nat) (x y z:Int),Y=X->x=a->y=m->z=b->S1 197 [.ref 0 0 0 N 1,iD x,iD y,iD z,.fn (.func 175) [] [.ptr 1 1 0]] [⟨Y.map nD, 3,true⟩,⟨[.sl false L 1 (W.map nD)], 152,false⟩] (.tup []) [⟨X1.map nD, 3,true⟩,⟨[.sl false L 1 (W.map nD)], 152,false⟩]
structure SmE (W:List Nat)(L N:Nat)(X X1 X2 T:List Nat)(a m b mid q st en s0 r0:Nat):Prop where
 r:st<m->m<en->RtH W L N X st m en X1
 r0':(st<m->m<en->False)->X=X1
 s:a<st->st<mid->SaH W L N X1 a st mid X2
 s0':(a<st->st<mid->False)->X1=X2
 t:mid<en->en<b->SbH W L N X2 mid en b T
 t0':(mid<en->en<b->False)->X2=T
 e3:mid<m->s0=q-b∧r0=mid
 e4:m<=mid->s0=a∧r0=m
section
variable {W:List Nat} {L N:Nat} {X X1 X2 T:List Nat} {a m b mid q st en s0 r0:Nat} (h:SmE W L N X X1 X2 T a m b mid q st en s0 r0)
include h
theorem SmE.rp (c1:st<m)(c2:m<en)(Y:List Nat)(x y z:Int)(hY:Y=X)(hx:x=st)(hy:y=m)(hz:z=en):S1 200 [.ref 0 0 0 N 1,iD x,iD y,iD z,.fn (.func 175) [] [.ptr 1 1 0]] [⟨Y.map nD, 3,true⟩,⟨[.sl false L 1 (W.map nD)], 152,false⟩] (.tup []) [⟨X1.map nD, 3,true⟩,⟨[.sl false L 1 (W.map nD)], 152,false⟩]:=(h.r c1 c2).h Y x y z hY hx hy hz
theorem SmE.sp (c1:a<st)(c2:st<mid)(Y:List Nat)(x y z:Int)(hY:Y=X1)(hx:x=a)(hy:y=st)(hz:z=mid):S1 197 [.ref 0 0 0 N 1,iD x,iD y,iD z,.fn (.func 175) [] [.ptr 1 1 0]] [⟨Y.map nD, 3,true⟩,⟨[.sl false L 1 (W.map nD)], 152,false⟩] (.tup []) [⟨X2.map nD, 3,true⟩,⟨[.sl false L 1 (W.map nD)], 152,false⟩]:=(h.s c1 c2).h Y x y z hY hx hy hz
theorem SmE.tp (c1:mid<en)(c2:en<b)(Y:List Nat)(x y z:Int)(hY:Y=X2)(hx:x=mid)(hy:y=en)(hz:z=b):S1 197 [.ref 0 0 0 N 1,iD x,iD y,iD z,.fn (.func 175) [] [.ptr 1 1 0]] [⟨Y.map nD, 3,true⟩,⟨[.sl false L 1 (W.map nD)], 152,false⟩] (.tup []) [⟨T.map nD, 3,true⟩,⟨[.sl false L 1 (W.map nD)], 152,false⟩]:=(h.t c1 c2).h Y x y z hY hx hy hz
end
theorem S7 (X:List Nat)(N:Nat)(hN:N=X.length)(hN2:N<=1000)(W:List Nat)(L:Nat)(hL:L=W.length)(hA:bL L X)(a m b:Nat)(h1:a<m)(h2:m<b)(h3:b<=N)(hm:m≠a+1)(hb:b≠m+1)(X1 X2 T:List Nat)(mid q st en:Nat)(e1:mid=(a+b)/2)(e2:q=mid+m)(s0 r0:Nat)(hs0:s0<=r0∧r0<=m∧a<=s0∧q<=s0+b)(hi:ji (qC W X (q-1)) (r0-s0) s0 r0=st)(hi2:s0<=st∧st<=r0)(e5:en=q-st)(hE:SmE W L N X X1 X2 T a m b mid q st en s0 r0):S1 197 [.ref 0 0 0 N 1,nD a,nD m,nD b,.fn (.func 175) [] [.ptr 1 1 0]] [⟨X.map nD, 3,true⟩,⟨[.sl false L 1 (W.map nD)], 152,false⟩] (.tup []) [⟨(T).map nD, 3,true⟩,⟨[.sl false L 1 (W.map nD)], 152,false⟩]:=by
 refine SpecH.run T_ok ah Tryz.func197 rfl rfl rfl ⟨eW _,rfl,trivial⟩ rfl 1000 64 (λ R ok=>(.s 4 (.ow (m-a) (.s 2 (.f ((m:Int)-a==1) sR (.s 4 (.ow (b-m) (.s 2 (.f ((b:Int)-m==1) sR (.s 4 (.ow (a+b) (.s 1 (.opt (ax .u64 ((a:Int)+b)) (D.v (Wj .u64 ((a:Int)+b))) (bG om) (.s 2 (.opt (bY W5 (V1 ((a:Int)+b) 2)) (D.v (Wj .u64 (((a:Int)+b)/2))) (aQ (@iO  ((a:Int)+b) (2) om)) (.s 1 (.ow (((a:Int)+b)/2) (.s 5 (.ow (((a:Int)+b)/2+m) (.s 7 (.bd (((a:Int)+b)/2<m) (λ p0 Z7=>(.s 4 (.ow (((a:Int)+b)/2+m-b) (.s 6 (.ow (((a:Int)+b)/2+m-1) (.s 1 (.val 20 (zI (((a:Int)+b)/2+m-b)) (zN s0) F7 (.val 21 (zI (((a:Int)+b)/2)) (zN r0) F7 (Hn.inl T_ok ah false 220 2 (aq Tryz.prog 197 4) (λ(x:(x:Nat)×'(y:Nat)×'(f:Nat)×'(hx:s0<=x∧x<=y∧y<=r0)×'(hf:y-x<=f)×'(hR:ji (qC W X (q-1)) f x y=st)×'Unit)=>match x with|⟨x,y,f,hx,hf,hR,_⟩=>Vn [(0,U6 0 0 0 N 1),(1,zN a),(2,zN m),(3,zN b),(4,WJ (VU 175) [] [Vh 1 1 0]),(18,zI (((a:Int)+b)/2)),(19,zI (((a:Int)+b)/2+m)),(20,nD x),(21,nD y),(22,zI (((a:Int)+b)/2+m-1))] [⟨0,0,0,0,.b ⟨map nD X,3,true⟩⟩,⟨1,1,1,1,.b ⟨[Vl false L 1 (map nD W)],152,false⟩⟩] 24) (λ(x:(x:Nat)×'(y:Nat)×'(f:Nat)×'(hx:s0<=x∧x<=y∧y<=r0)×'(hf:y-x<=f)×'(hR:ji (qC W X (q-1)) f x y=st)×'Unit)=>match x with|⟨x,y,f,hx,hf,hR,_⟩=>y-x) [⟨Unit,.exit 8,λ x=>match x with|()=>Vn [(0,U6 0 0 0 N 1),(1,zN a),(2,zN m),(3,zN b),(4,WJ (VU 175) [] [Vh 1 1 0]),(18,zI (((a:Int)+b)/2)),(19,zI (((a:Int)+b)/2+m)),(20,nD st),(21,nD st),(22,zI (((a:Int)+b)/2+m-1))] [⟨0,0,0,0,.b ⟨map nD X,3,true⟩⟩,⟨1,1,1,1,.b ⟨[Vl false L 1 (map nD W)],152,false⟩⟩] 24⟩] 1000 64 (fun|⟨x,y,f,hx,hf,hR,_⟩,Q,ZA,ZD=>(.s 4 (.bd ((x:Int)<y) (λ p1 Z6=>(.s 4 (.ow (x+y) (.s 1 (.opt (ax .u64 ((x:Int)+y)) (D.v (Wj .u64 ((x:Int)+y))) (bG om) (.s 2 (.opt (bY W5 (V1 ((x:Int)+y) 2)) (D.v (Wj .u64 (((x:Int)+y)/2))) (aQ (@iO  ((x:Int)+y) (2) om)) (.s 1 (.ow (((x:Int)+y)/2) (.s 8 (.ow (((a:Int)+b)/2+m-1-(x+y)/2) (.s 1 (.chk (decide (0<=((a:Int)+b)/2+m-1-(x+y)/2)&&decide (((a:Int)+b)/2+m-1-(x+y)/2<N)) F6 (.s 2 (.opt ((map nD X)[0+AB (((a:Int)+b)/2+m-1-(x+y)/2)*1]?) (nD (getD X (0+AB (((a:Int)+b)/2+m-1-(x+y)/2)*1) mq)) (av _ _ om) (.s 3 (.chk (true&&decide (((x:Int)+y)/2<N)) fh (.s 2 (.opt ((map nD X)[0+AB (((x:Int)+y)/2)*1]?) (nD (getD X (0+AB (((x:Int)+y)/2)*1) mq)) (av _ _ om) (.s 1 (.cl 175 true [1] (.fn Cb (@vd (W) (L) om (getD X (0+AB (((a:Int)+b)/2+m-1-(x+y)/2)*1) mq) (getD X (0+AB (((x:Int)+y)/2)*1) mq) (by(exact hA.at om)) (by(exact hA.at om)))) (.s 3 (.br (!decide (qa (getD W (getD X (0+AB (((a:Int)+b)/2+m-1-(x+y)/2)*1) mq) mq) (getD W (getD X (0+AB (((x:Int)+y)/2)*1) mq) mq)<0)) (λ p2=>have Z5:=B7 (gE p2);(.s 3 (.ow (((x:Int)+y)/2+1) (.s 1 (.val 20 (zI (((x:Int)+y)/2+1)) (zN ((x+y)/2+1)) F7 (Hn.next ZA ⟨((x+y)/2+1),(y),(f-1),om,om,IZ,⟨⟩⟩ F3 [(0,0),(1,1)] ro)))))) (λ p2=>have Z5:=B6 (gF p2);(.s 2 (.val 21 (zI (((x:Int)+y)/2)) (zN ((x+y)/2)) F7 (Hn.next ZA ⟨(x),((x+y)/2),(f-1),om,om,I0,⟨⟩⟩ F4 [(0,0),(1,1)] ro))))))))))))))))))))))))))) (λ p1 Z6=>(.val 20 (zN x) (zN st) (by(rw[CW hR om])) (.val 21 (zN y) (zN st) F5 (Hn.last ZD 0 (():Unit) rfl [(0,0),(1,1)] ro))))))) (fun|⟨x,y,f,hx,hf,hR,_⟩=>by kernel_rfl) ⟨(s0),(r0),(r0-s0),om,om,om,⟨⟩⟩ [(0,0),(1,1)] ro (ck (fun|()=>(.s 4 (.ow (((a:Int)+b)/2+m-st) (.s 7 (.bd ((st:Int)<m) (λ p3 Z4=>(.s 6 (.bd ((m:Int)<(a+b)/2+m-st) (λ p4 Z3=>(.s 6 (.call 200 true [0,1] (true) wr ([U6 0 0 0 N 1,zN st,zN m,zI (((a:Int)+b)/2+m-st),WJ (VU 175) [] [Vh 1 1 0]]) _ (cQ.refl _) (ab (map nD X)&&true) (by(simp;done)) _ _ _ (VC (az.of Tryz.func200 rfl rfl) (@SmE.rp (W) (L) (N) (X) (X1) (X2) (T) (a) (m) (b) (mid) (q) (st) (en) (s0) (r0) aF om om (X) ((st:Int)) ((m:Int)) (((a:Int)+b)/2+m-st) wr om om om)) (.s 6 (.bd ((a:Int)<st) (λ p5 p5f=>(.s 6 (.t (decide ((st:Int)<(a+b)/2)) fh (.s 6 (.call 197 true [0,1] (true) wr ([U6 0 0 0 N 1,zN a,zN st,zI (((a:Int)+b)/2),WJ (VU 175) [] [Vh 1 1 0]]) _ (cQ.refl _) (ab (map nD X1)&&true) (by(simp;done)) _ _ _ (VC (az.of Tryz.func197 rfl rfl) (@SmE.sp (W) (L) (N) (X) (X1) (X2) (T) (a) (m) (b) (mid) (q) (st) (en) (s0) (r0) aF om om (X1) ((a:Int)) ((st:Int)) (((a:Int)+b)/2) wr om om om)) (.s 6 (.t (decide (((a:Int)+b)/2<(a+b)/2+m-st)) fh (.s 6 (.bd (((a:Int)+b)/2+m-st<b) (λ p6 p6f=>(.s 6 (.call 197 true [0,1] (true) wr ([U6 0 0 0 N 1,zI (((a:Int)+b)/2),zI (((a:Int)+b)/2+m-st),zN b,WJ (VU 175) [] [Vh 1 1 0]]) _ (cQ.refl _) (ab (map nD X2)&&true) (by(simp;done)) _ _ _ (VC (az.of Tryz.func197 rfl rfl) (@SmE.tp (W) (L) (N) (X) (X1) (X2) (T) (a) (m) (b) (mid) (q) (st) (en) (s0) (r0) aF om om (X2) (((a:Int)+b)/2) (((a:Int)+b)/2+m-st) ((b:Int)) wr om om om)) (.out [0,1] [0,1] (V2 []) [U1 (map nD T) 3 true,U1 [Vl false L 1 (map nD W)] 152 false] R (ok _ _ wr wr))))) (λ p6 p6f=>(.out [0,1] [0,1] (V2 []) [U1 (map nD X2) 3 true,U1 [Vl false L 1 (map nD W)] 152 false] R (ok _ _ wr (by(rw[hE.t0' om])))))))))))))) (λ p5 p5f=>(.s 12 (.t (decide (((a:Int)+b)/2<(a+b)/2+m-st)) fh (.s 6 (.f (decide (((a:Int)+b)/2+m-st<b)) sR (.out [0,1] [0,1] (V2 []) [U1 (map nD X1) 3 true,U1 [Vl false L 1 (map nD W)] 152 false] R (ok _ _ wr (by(rw[hE.s0' om,hE.t0' om])))))))))))))) (λ p4 Z3=>(.s 6 (.t (decide ((a:Int)<st)) fh (.s 6 (.f (decide ((st:Int)<(a+b)/2)) sR (.s 6 (.t (decide (((a:Int)+b)/2<(a+b)/2+m-st)) fh (.s 6 (.t (decide (((a:Int)+b)/2+m-st<b)) fh (.s 6 (.call 197 true [0,1] (true) wr ([U6 0 0 0 N 1,zI (((a:Int)+b)/2),zI (((a:Int)+b)/2+m-st),zN b,WJ (VU 175) [] [Vh 1 1 0]]) _ (cQ.refl _) (ab (map nD X)&&true) (by(simp;done)) _ _ _ (VC (az.of Tryz.func197 rfl rfl) (@SmE.tp (W) (L) (N) (X) (X1) (X2) (T) (a) (m) (b) (mid) (q) (st) (en) (s0) (r0) aF om om (X) (((a:Int)+b)/2) (((a:Int)+b)/2+m-st) ((b:Int)) (by(exact(hE.r0' om).trans (hE.s0' om))) om om om)) (.out [0,1] [0,1] (V2 []) [U1 (map nD T) 3 true,U1 [Vl false L 1 (map nD W)] 152 false] R (ok _ _ wr wr)))))))))))))))) (λ p3 Z4=>(.s 12 (.t (decide ((a:Int)<st)) fh (.s 6 (.f (decide ((st:Int)<(a+b)/2)) sR (.s 6 (.f (decide (((a:Int)+b)/2<(a+b)/2+m-st)) sR (.s 6 (.out [0,1] [0,1] (V2 []) [U1 (map nD X) 3 true,U1 [Vl false L 1 (map nD W)] 152 false] R (ok _ _ wr (by(rw[hE.r0' om,hE.s0' om,hE.t0' om]))))))))))))))))))))))))))) (λ p0 Z7=>(.s 7 (.ow (((a:Int)+b)/2+m-1) (.s 1 (.val 20 (zN a) (zN s0) F8 (.val 21 (zN m) (zN r0) F8 (Hn.inl T_ok ah false 220 2 (aq Tryz.prog 197 4) (λ(x:(x:Nat)×'(y:Nat)×'(f:Nat)×'(hx:s0<=x∧x<=y∧y<=r0)×'(hf:y-x<=f)×'(hR:ji (qC W X (q-1)) f x y=st)×'Unit)=>match x with|⟨x,y,f,hx,hf,hR,_⟩=>Vn [(0,U6 0 0 0 N 1),(1,zN a),(2,zN m),(3,zN b),(4,WJ (VU 175) [] [Vh 1 1 0]),(18,zI (((a:Int)+b)/2)),(19,zI (((a:Int)+b)/2+m)),(20,nD x),(21,nD y),(22,zI (((a:Int)+b)/2+m-1))] [⟨0,0,0,0,.b ⟨map nD X,3,true⟩⟩,⟨1,1,1,1,.b ⟨[Vl false L 1 (map nD W)],152,false⟩⟩] 24) (λ(x:(x:Nat)×'(y:Nat)×'(f:Nat)×'(hx:s0<=x∧x<=y∧y<=r0)×'(hf:y-x<=f)×'(hR:ji (qC W X (q-1)) f x y=st)×'Unit)=>match x with|⟨x,y,f,hx,hf,hR,_⟩=>y-x) [⟨Unit,.exit 8,λ x=>match x with|()=>Vn [(0,U6 0 0 0 N 1),(1,zN a),(2,zN m),(3,zN b),(4,WJ (VU 175) [] [Vh 1 1 0]),(18,zI (((a:Int)+b)/2)),(19,zI (((a:Int)+b)/2+m)),(20,nD st),(21,nD st),(22,zI (((a:Int)+b)/2+m-1))] [⟨0,0,0,0,.b ⟨map nD X,3,true⟩⟩,⟨1,1,1,1,.b ⟨[Vl false L 1 (map nD W)],152,false⟩⟩] 24⟩] 1000 64 (fun|⟨x,y,f,hx,hf,hR,_⟩,Q,ZA,ZD=>(.s 4 (.bd ((x:Int)<y) (λ p7 p7f=>(.s 4 (.ow (x+y) (.s 1 (.opt (ax .u64 ((x:Int)+y)) (D.v (Wj .u64 ((x:Int)+y))) (bG om) (.s 2 (.opt (bY W5 (V1 ((x:Int)+y) 2)) (D.v (Wj .u64 (((x:Int)+y)/2))) (aQ (@iO  ((x:Int)+y) (2) om)) (.s 1 (.ow (((x:Int)+y)/2) (.s 8 (.ow (((a:Int)+b)/2+m-1-(x+y)/2) (.s 1 (.chk (decide (0<=((a:Int)+b)/2+m-1-(x+y)/2)&&decide (((a:Int)+b)/2+m-1-(x+y)/2<N)) F6 (.s 2 (.opt ((map nD X)[0+AB (((a:Int)+b)/2+m-1-(x+y)/2)*1]?) (nD (getD X (0+AB (((a:Int)+b)/2+m-1-(x+y)/2)*1) mq)) (av _ _ om) (.s 3 (.chk (true&&decide (((x:Int)+y)/2<N)) fh (.s 2 (.opt ((map nD X)[0+AB (((x:Int)+y)/2)*1]?) (nD (getD X (0+AB (((x:Int)+y)/2)*1) mq)) (av _ _ om) (.s 1 (.cl 175 true [1] (.fn Cb (@vd (W) (L) om (getD X (0+AB (((a:Int)+b)/2+m-1-(x+y)/2)*1) mq) (getD X (0+AB (((x:Int)+y)/2)*1) mq) (by(exact hA.at om)) (by(exact hA.at om)))) (.s 3 (.br (!decide (qa (getD W (getD X (0+AB (((a:Int)+b)/2+m-1-(x+y)/2)*1) mq) mq) (getD W (getD X (0+AB (((x:Int)+y)/2)*1) mq) mq)<0)) (λ p8=>have p8f:=B7 (gE p8);(.s 3 (.ow (((x:Int)+y)/2+1) (.s 1 (.val 20 (zI (((x:Int)+y)/2+1)) (zN ((x+y)/2+1)) F8 (Hn.next ZA ⟨((x+y)/2+1),(y),(f-1),om,om,IZ,⟨⟩⟩ F3 [(0,0),(1,1)] ro)))))) (λ p8=>have p8f:=B6 (gF p8);(.s 2 (.val 21 (zI (((x:Int)+y)/2)) (zN ((x+y)/2)) F8 (Hn.next ZA ⟨(x),((x+y)/2),(f-1),om,om,I0,⟨⟩⟩ F4 [(0,0),(1,1)] ro))))))))))))))))))))))))))) (λ p7 p7f=>(.val 20 (zN x) (zN st) (by(rw[CW hR om])) (.val 21 (zN y) (zN st) F5 (Hn.last ZD 0 (():Unit) rfl [(0,0),(1,1)] ro))))))) (fun|⟨x,y,f,hx,hf,hR,_⟩=>by kernel_rfl) ⟨(s0),(r0),(r0-s0),om,om,om,⟨⟩⟩ [(0,0),(1,1)] ro (ck (fun|()=>(.s 4 (.ow (((a:Int)+b)/2+m-st) (.s 7 (.bd ((st:Int)<m) (λ p9 p9f=>(.s 6 (.t (decide ((m:Int)<(a+b)/2+m-st)) fh (.s 6 (.call 200 true [0,1] (true) wr ([U6 0 0 0 N 1,zN st,zN m,zI (((a:Int)+b)/2+m-st),WJ (VU 175) [] [Vh 1 1 0]]) _ (cQ.refl _) (ab (map nD X)&&true) (by(simp;done)) _ _ _ (VC (az.of Tryz.func200 rfl rfl) (@SmE.rp (W) (L) (N) (X) (X1) (X2) (T) (a) (m) (b) (mid) (q) (st) (en) (s0) (r0) aF om om (X) ((st:Int)) ((m:Int)) (((a:Int)+b)/2+m-st) wr om om om)) (.s 6 (.bd ((a:Int)<st) (λ p10 p10f=>(.s 6 (.t (decide ((st:Int)<(a+b)/2)) fh (.s 6 (.call 197 true [0,1] (true) wr ([U6 0 0 0 N 1,zN a,zN st,zI (((a:Int)+b)/2),WJ (VU 175) [] [Vh 1 1 0]]) _ (cQ.refl _) (ab (map nD X1)&&true) (by(simp;done)) _ _ _ (VC (az.of Tryz.func197 rfl rfl) (@SmE.sp (W) (L) (N) (X) (X1) (X2) (T) (a) (m) (b) (mid) (q) (st) (en) (s0) (r0) aF om om (X1) ((a:Int)) ((st:Int)) (((a:Int)+b)/2) wr om om om)) (.s 6 (.t (decide (((a:Int)+b)/2<(a+b)/2+m-st)) fh (.s 6 (.t (decide (((a:Int)+b)/2+m-st<b)) fh (.s 6 (.call 197 true [0,1] (true) wr ([U6 0 0 0 N 1,zI (((a:Int)+b)/2),zI (((a:Int)+b)/2+m-st),zN b,WJ (VU 175) [] [Vh 1 1 0]]) _ (cQ.refl _) (ab (map nD X2)&&true) (by(simp;done)) _ _ _ (VC (az.of Tryz.func197 rfl rfl) (@SmE.tp (W) (L) (N) (X) (X1) (X2) (T) (a) (m) (b) (mid) (q) (st) (en) (s0) (r0) aF om om (X2) (((a:Int)+b)/2) (((a:Int)+b)/2+m-st) ((b:Int)) wr om om om)) (.out [0,1] [0,1] (V2 []) [U1 (map nD T) 3 true,U1 [Vl false L 1 (map nD W)] 152 false] R (ok _ _ wr wr))))))))))))) (λ p10 p10f=>(.s 12 (.t (decide (((a:Int)+b)/2<(a+b)/2+m-st)) fh (.s 6 (.bd (((a:Int)+b)/2+m-st<b) (λ p11 p11f=>(.s 6 (.call 197 true [0,1] (true) wr ([U6 0 0 0 N 1,zI (((a:Int)+b)/2),zI (((a:Int)+b)/2+m-st),zN b,WJ (VU 175) [] [Vh 1 1 0]]) _ (cQ.refl _) (ab (map nD X1)&&true) (by(simp;done)) _ _ _ (VC (az.of Tryz.func197 rfl rfl) (@SmE.tp (W) (L) (N) (X) (X1) (X2) (T) (a) (m) (b) (mid) (q) (st) (en) (s0) (r0) aF om om (X1) (((a:Int)+b)/2) (((a:Int)+b)/2+m-st) ((b:Int)) (by(exact hE.s0' om)) om om om)) (.out [0,1] [0,1] (V2 []) [U1 (map nD T) 3 true,U1 [Vl false L 1 (map nD W)] 152 false] R (ok _ _ wr wr))))) (λ p11 p11f=>(.out [0,1] [0,1] (V2 []) [U1 (map nD X1) 3 true,U1 [Vl false L 1 (map nD W)] 152 false] R (ok _ _ wr (by(rw[hE.s0' om,hE.t0' om]))))))))))))))))) (λ p9 p9f=>(.s 12 (.t (decide ((a:Int)<st)) fh (.s 6 (.bd ((st:Int)<(a+b)/2) (λ p12 p12f=>(.s 6 (.call 197 true [0,1] (true) wr ([U6 0 0 0 N 1,zN a,zN st,zI (((a:Int)+b)/2),WJ (VU 175) [] [Vh 1 1 0]]) _ (cQ.refl _) (ab (map nD X)&&true) (by(simp;done)) _ _ _ (VC (az.of Tryz.func197 rfl rfl) (@SmE.sp (W) (L) (N) (X) (X1) (X2) (T) (a) (m) (b) (mid) (q) (st) (en) (s0) (r0) aF om om (X) ((a:Int)) ((st:Int)) (((a:Int)+b)/2) (by(exact hE.r0' om)) om om om)) (.s 6 (.f (decide (((a:Int)+b)/2<(a+b)/2+m-st)) sR (.s 6 (.out [0,1] [0,1] (V2 []) [U1 (map nD X2) 3 true,U1 [Vl false L 1 (map nD W)] 152 false] R (ok _ _ wr (by(rw[hE.t0' om])))))))))) (λ p12 p12f=>(.s 6 (.f (decide (((a:Int)+b)/2<(a+b)/2+m-st)) sR (.s 6 (.out [0,1] [0,1] (V2 []) [U1 (map nD X) 3 true,U1 [Vl false L 1 (map nD W)] 152 false] R (ok _ _ wr (by(rw[hE.r0' om,hE.s0' om,hE.t0' om]))))))))))))))))))))))))))))))))))))))))))))))) kr
theorem lJ {X:List Nat}{i j:Nat}(hi:i<X.length)(hj:j<X.length):(swp X i j).Perm X:=by
 rw[List.perm_iff_count];intro c;have e1:X.getD i mq=X[i]:=by rw[UZ,U4 hi];rfl
 have e2:X.getD j mq=X[j]:=by rw[UZ,U4 hj];rfl
 rw[sN,e1,e2,List.count_set (by rw[Xu];exact hj),List.count_set hi,List.getElem_set];have h1:(X[i]==c)=true->1<=X.count c:=λ q=>by
  rw[List.one_le_count_iff,<-eq_of_beq q];exact V3 hi
 have h3:(if i=j then X[j]else X[j])=X[j]:=by split<;>rfl
 rw[h3]
 cases q1:(X[i]==c)<;>cases q2:(X[j]==c)<;>simp <;>(try have:=h1 q1)<;>omega
theorem lK {X:List Nat}{a b:Nat}:∀k,a+k<=X.length->b+k<=X.length->(fD X a b k).Perm X
 |0,_,_=>by rw[IT]
 |k+1,h1,h2=>by
  rw[<-IU];exact(lJ (by rw[eF];omega) (by rw[eF];omega)).trans (lK k om om)
theorem mH {m:Nat}:∀(f i j:Nat) (X:List Nat),1<=i->1<=j->i<=m->m+j<=X.length->i+j<=f->(je m f i j X).Perm X
 |0,i,j,X,h1,h2,h3,h4,h5=>by omega
 |f+1,i,j,X,h1,h2,h3,h4,h5=>by
  rw[je];split
  ·exact lK i om om
  ·split
   ·exact(mH f (i-j) j _ om h2 om (by rw[eF];omega) om).trans (lK j om om)
   ·exact(mH f i (j-i) _ h1 om h3 (by rw[eF];omega) om).trans (lK i om om)
theorem AV {X:List Nat}{a m b:Nat}(h1:a<m)(h2:m<b)(h3:b<=X.length):(CT X a m b).Perm X:=by
 rw[yR];exact mH _ _ _ _ om om om om om
theorem vf {W:List Nat}{a:Nat}:∀(j:Nat) (X:List Nat),j<X.length->(inI W a j X).Perm X
 |0,_,_=>XH _
 |j+1,X,h=>by
  rw[inI];split
  ·exact(vf j _ (by rw[iW];omega)).trans (lJ h om)
  ·exact XH _
theorem jI {W X:List Nat}{a:Nat}:∀(k:Nat),a+k<X.length∨k=0->(inQ W X a k).Perm X
 |0,_=>by rw[CU]
 |k+1,h=>by
  rw[<-CV];exact(vf _ _ (by rw[lI];omega)).trans (jI k om)
theorem vg {X:List Nat}{a:Nat}:∀(k:Nat),a+k<X.length∨k=0->(jG X a k).Perm X
 |0,_=>by rw[I1]
 |k+1,h=>by
  rw[<-I3];exact(lJ (by rw[iX];omega) (by rw[iX];omega)).trans (vg k om)
theorem vh {X:List Nat}{m:Nat}(hm:m<X.length):∀(k:Nat),(jH X m k).Perm X
 |0=>by rw[I2]
 |k+1=>by
  rw[<-I4];exact(lJ (by rw[iY];omega) (by rw[iY];omega)).trans (vh hm k)
theorem bL.perm {L:Nat}{X Y:List Nat}(h:bL L X)(hp:Y.Perm X):bL L Y:=λ x hx=>h x (hp.mem_iff.1 hx)
def lM (a m b:Nat):Nat:=if(a+b)/2<m then(a+b)/2+m-b else a
def mI (a m b:Nat):Nat:=if(a+b)/2<m then(a+b)/2 else m
def fA (W X:List Nat)(a m b:Nat):Nat:=ji (qC W X ((a+b)/2+m-1)) (mI a m b-lM a m b) (lM a m b) (mI a m b)
def ig (X:List Nat)(m st en:Nat):List Nat:=if st<m∧m<en then CT X st m en else X
def ny (W:List Nat):Nat->List Nat->Nat->Nat->Nat->List Nat
 |0,X,_,_,_=>X
 |f+1,X,a,m,b=>
  if m=a+1 then jG X a (ji (qA W X a) (b-m) m b-1-a)
  else if b=m+1 then jH X m (m-ji (qB W X m) (m-a) a m)
  else
   (λ st=>(λ en=>(λ X1=>(λ X2=>if(a+b)/2<en∧en<b then ny W f X2 ((a+b)/2) en b else X2)
    (if a<st∧st<(a+b)/2 then ny W f X1 a st ((a+b)/2)else X1)) (ig X m st en)) ((a+b)/2+m-st)) (fA W X a m b)
theorem CX {a m b:Nat}(h1:a<m)(h2:m<b):lM a m b<=mI a m b∧mI a m b<=m∧a<=lM a m b∧(a+b)/2+m<=lM a m b+b:=by
 unfold lM mI;split<;>omega
theorem rh {X:List Nat}{m st en:Nat}(h:en<=X.length):(ig X m st en).Perm X:=by
 unfold ig;split
 ·next q=>exact AV q.1 q.2 h
 ·exact XH _
theorem gl {W:List Nat}:∀(f:Nat) (X:List Nat) (a m b:Nat),a<m->m<b->b<=X.length->(ny W f X a m b).Perm X
 |0,_,_,_,_,_,_,_=>XH _
 |f+1,X,a,m,b,h1,h2,h3=>by
  rw[ny]
  split
  ·have:=po (p:=qA W X a) (b-m) m b om
   exact vg _ om
  ·split
   ·exact vh om _
   ·have hs:=CX h1 h2
    have hi:=po (p:=qC W X ((a+b)/2+m-1)) (mI a m b-lM a m b) (lM a m b) (mI a m b) hs.1;show List.Perm (if(a+b)/2<(a+b)/2+m-fA W X a m b∧_ then _ else _) X;generalize hst:fA W X a m b=st at *;have hst2:lM a m b<=st∧st<=mI a m b:=by rw[<-hst];exact hi
    have q1:(ig X m st ((a+b)/2+m-st)).Perm X:=rh om;have l1:=q1.length_eq;have q2:(if a<st∧st<(a+b)/2 then ny W f (ig X m st ((a+b)/2+m-st)) a st ((a+b)/2)else ig X m st ((a+b)/2+m-st)).Perm X:=by
     split
     ·next q=>exact(gl f _ _ _ _ q.1 q.2 om).trans q1
     ·exact q1
    have l2:=q2.length_eq;generalize(if a<st∧st<(a+b)/2 then ny W f (ig X m st ((a+b)/2+m-st)) a st ((a+b)/2)else ig X m st ((a+b)/2+m-st))=X2 at *
    split
    ·next q=>exact(gl f _ _ _ _ q.1 q.2 om).trans q2
    ·exact q2
theorem Lw (X:List Nat)(N:Nat)(hN:N=X.length)(hN2:N<=1000)(W:List Nat)(L:Nat)(hL:L=W.length){a m b:Nat}(h1:a<m)(h2:m<b)(h3:b<=N):RtH W L N X a m b (CT X a m b):=⟨λ Y x y z hY hx hy hz=>by
 subst hY hx hy hz;exact PB Y N hN hN2 W L hL a m b h1 h2 h3 _ rfl⟩
theorem yW (W:List Nat)(L:Nat)(hL:L=W.length)(N:Nat)(hN2:N<=1000):∀(f:Nat) (X:List Nat),N=X.length->bL L X->∀(a m b:Nat),a<m->m<b->b<=N->b-a<=f->S1 197 [.ref 0 0 0 N 1,nD a,nD m,nD b,.fn (.func 175) [] [.ptr 1 1 0]] [⟨X.map nD, 3,true⟩,⟨[.sl false L 1 (W.map nD)], 152,false⟩] (.tup []) [⟨(ny W f X a m b).map nD, 3,true⟩,⟨[.sl false L 1 (W.map nD)], 152,false⟩]
 |0,X,hN,hA,a,m,b,h1,h2,h3,hf=>by omega
 |f+1,X,hN,hA,a,m,b,h1,h2,h3,hf=>by
  rw[ny]
  by_cases c1:m=a+1
  ·rw[ZF c1]
   exact S5 X N hN hN2 W L hL hA a m b h1 h2 h3 c1 _ rfl (po _ _ _ om)
  ·rw[ZE c1]
   by_cases c2:b=m+1
   ·rw[ZF c2]
    exact S6 X N hN hN2 W L hL hA a m b h1 h2 h3 c1 c2 _ rfl (po _ _ _ om)
   ·rw[ZE c2]
    have hs:=CX h1 h2;have hi:lM a m b<=fA W X a m b∧fA W X a m b<=mI a m b:=po _ _ _ hs.1;have q1:(ig X m (fA W X a m b) ((a+b)/2+m-fA W X a m b)).Perm X:=rh om;refine S7 X N hN hN2 W L hL hA a m b h1 h2 h3 c1 c2 (ig X m (fA W X a m b) ((a+b)/2+m-fA W X a m b)) (if a<fA W X a m b∧fA W X a m b<(a+b)/2 then ny W f (ig X m (fA W X a m b) ((a+b)/2+m-fA W X a m b)) a (fA W X a m b) ((a+b)/2)else ig X m (fA W X a m b) ((a+b)/2+m-fA W X a m b)) _ ((a+b)/2) ((a+b)/2+m) (fA W X a m b) ((a+b)/2+m-fA W X a m b) rfl rfl (lM a m b) (mI a m b) ⟨hs.1,hs.2.1,hs.2.2.1,hs.2.2.2⟩ rfl hi rfl ?_;have q2:(if a<fA W X a m b∧fA W X a m b<(a+b)/2 then ny W f (ig X m (fA W X a m b) ((a+b)/2+m-fA W X a m b)) a (fA W X a m b) ((a+b)/2)else ig X m (fA W X a m b) ((a+b)/2+m-fA W X a m b)).Perm X:=by
     split
     ·next q=>exact(gl f _ _ _ _ q.1 q.2 (by rw[q1.length_eq];omega)).trans q1
     ·exact q1
    have e3:(a+b)/2<m->lM a m b=(a+b)/2+m-b∧mI a m b=(a+b)/2:=λ q=>⟨ZF q,ZF q⟩
    have e4:m<=(a+b)/2->lM a m b=a∧mI a m b=m:=λ q=>⟨ZE om,ZE om⟩
    generalize fA W X a m b=st at *;generalize lM a m b=s0 at *;generalize mI a m b=r0 at *;refine⟨λ a1 a2=>?_,λ a1=>?_,λ a1 a2=>?_,λ a1=>?_,λ a1 a2=>?_,λ a1=>?_,e3,e4⟩
    ·unfold ig;rw[ZF ⟨a1,a2⟩];exact Lw X N hN hN2 W L hL a1 a2 om
    ·unfold ig;rw[ZE (λ q=>a1 q.1 q.2)]
    ·rw[ZF ⟨a1,a2⟩]
     refine⟨λ Y x y z hY hx hy hz=>?_⟩;subst hY hx hy hz;exact yW W L hL N hN2 f _ (by rw[q1.length_eq];exact hN) (hA.perm q1) _ _ _ a1 a2 om om
    ·rw[ZE (λ q=>a1 q.1 q.2)]
    ·dsimp only
     generalize(if a<st∧st<(a+b)/2 then ny W f (ig X m st ((a+b)/2+m-st)) a st ((a+b)/2)else ig X m st ((a+b)/2+m-st))=X2 at *;rw[ZF ⟨a1,a2⟩];refine⟨λ Y x y z hY hx hy hz=>?_⟩;subst hY hx hy hz;exact yW W L hL N hN2 f _ (by rw[q2.length_eq];exact hN) (hA.perm q2) _ _ _ a1 a2 om om
    ·dsimp only
     generalize(if a<st∧st<(a+b)/2 then ny W f (ig X m st ((a+b)/2+m-st)) a st ((a+b)/2)else ig X m st ((a+b)/2+m-st))=X2 at *;rw[ZE (λ q=>a1 q.1 q.2)]
end Vp
end Go.Proofs.YtefjnofhgkjpmaaGreat

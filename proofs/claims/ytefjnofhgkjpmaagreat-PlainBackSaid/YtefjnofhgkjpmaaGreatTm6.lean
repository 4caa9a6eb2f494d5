/- Part 6. -/
import Derived.Test.YtefjnofhgkjpmaaGreatTm5
import Derived.Test.YtefjnofhgkjpmaaGreatTm4
import Derived.Test.YtefjnofhgkjpmaaGreatTm1
import Derived.Lib.SmallJoins
import Derived.Test.YtefjnofhgkjpmaaGreatTm2
import Derived.SizedLaws
set_option linter.unusedVariables false
set_option linter.unusedSimpArgs false
set_option maxRecDepth 100000
set_option maxHeartbeats 4000000
open And renaming intro → VR
open Bool renaming and_eq_true → U9, and_true → VV, or_eq_true → Xf, true_and → VM
open Go.DataW renaming trod → aaT, trod_array → aay, trod_int → ZH, trod_slice → Y6
open Go.IntKind renaming i64 → VN, wrap → Vo
open Go.Lit renaming int → Ze
open Go.Vx.Blk renaming mk → U1
open Go.Vx.CallOk renaming fn → VC
open Go.Vx.D renaming agg → Wp, ptr → Vh, ref → U6, sl → Vl, tup → V2
open Inhabited renaming default → mq
open Int renaming eq_ofNat_of_zero_le → V5, tdiv → Yr, tmod → XK, toNat → AB
open List renaming append_assoc → Ve, append_nil → VS, drop → VW, drop_drop → Zz, drop_eq_getElem_cons → Wi, drop_eq_nil_of_le → Wv, drop_zero → Wm, flatMap_append → WL, flatMap_cons → Wf, flatMap_singleton → Xx, flatten_cons → X0, getD_eq_getElem?_getD → UZ, getElem?_append_left → Vz, getElem?_append_right → Vs, getElem?_eq_getElem → U4, getElem?_eq_none → VF, getElem?_map → Vu, getElem?_of_mem → Wc, getElem?_take → V0, getElem_mem → V3, length → Ym, length_append → U2, length_cons → VE, length_drop → VH, length_map → Vj, length_nil → WZ, length_range → WH, length_take → Vg, map → WY, map_append → V4, map_cons → WM, mem_append_left → WG, mem_cons_of_mem → Vy, mem_cons_self → Vr, mem_map → Yo, mem_map_of_mem → YQ, nil_append → XI, range → Wa, singleton_append → Yu, take → VX, take_add_one → Y0, take_append_drop → WK, take_left → Zv, take_length → Wd, take_of_length_le → VB, take_succ_eq_append_getElem → VT, toArray → Xy
open Nat renaming add_assoc → Wh, add_comm → YS, beq → U5, beq_eq → Xk, beq_refl → Wo, ble → U7, ble_eq → W8, ble_eq_true_of_le → U8, eq_of_beq_eq_true → Vc, eq_zero_or_pos → Xh, le_add_right → XF, le_refl → Vd, le_trans → Vq, lt_irrefl → XA, lt_of_lt_of_le → VZ, lt_or_ge → VL, mod_eq_of_lt → Wq, mod_lt → Yw, mul_add → XD, mul_comm → WR, mul_one → VG, pow_le_pow_right → VD, succ_le_succ → Xa, zero_add → VK, zero_le → VI, zero_lt_one → Xt
open Option renaming bind_eq_some_iff → Yn, map_eq_some_iff → Wk
open UInt8 renaming ofNat → V6
namespace Go.Proofs.YtefjnofhgkjpmaaGreat
open Go.RowKit Go.Bw Go.Vx
open List (length getD map take drop flatMap replicate)
namespace Vp
theorem jR {l:Z1}{i:Nat}(h:(l.getD i mq).toNat≠0):i<l.length:=by
 rcases VL i l.length with q|q
 ·exact q
 ·rw[ki q]at h;exact absurd rfl h
theorem pV {k:Nat}{S:List Nat}{i:Nat}(hi:i<k)(h:i∈S):0<(bB k S).getD i mq:=by
 rw[tu,ZF hi];exact List.count_pos_iff.2 h
theorem xv {l:List Tn}(hk:l.length<=65535){s:Nat}(hs:s<286)(h:s∈dI aw l l.length++[256]):CdO (dk l) s:=by
 have G:=DQ l hk;have F:=G.f;have p:=jM (bB 286 (dI aw l l.length++[256])) (by rw[F.lW1];decide) 15 (by decide) (by rw[F.lW1];exact F.iW1) (pV hs h);have e:(dk l).getD s mq=(b9 (bB 286 (dI aw l l.length++[256])) 15).getD s mq:=by rw[tB];exact py _ _ _
 rw[<-e]at p;exact vS G.cL G.oL (jR p) om
theorem MC {l:List Tn}(hk:l.length<=65535){s:Nat}(hs:s<30)(h:s∈f7 aC l l.length):CdO (eQ l) s:=by
 have G:=DQ l hk;have F:=G.f;have p:=jM (bB 30 (f7 aC l l.length)) (by rw[F.lW2];decide) 15 (by decide) (by rw[F.lW2];exact F.iW2) (pV hs h);have e:(eQ l).getD s mq=(b9 (bB 30 (f7 aC l l.length)) 15).getD s mq:=by rw[tC];exact py _ _ _
 rw[<-e]at p;exact vS G.cB G.oB (jR p) om
theorem MD {l:List Tn}(hk:l.length<=65535){t:Tn}(ht:t∈l)(hm:ef t):MA (dk l) (eQ l) t:=by
 have m1:EU aw t∈dI aw l l.length++[256]:=WG _ (by rw[rj,Wd];exact YQ ht);unfold MA;unfold EU at m1
 by_cases h0:t.long=0
 ·rw[ZF h0]at m1 ⊢;exact xv hk (by have:=t.lit.toNat_lt;omega) m1
 ·rw[ZE h0]at m1 ⊢
  have te:=bK rfl rfl hm h0;refine⟨xv hk om m1,MC hk te.2 ?_⟩;rw[vp,Wd];exact List.mem_flatMap.2 ⟨t,ht,by unfold Jj;rw[ZE h0];exact List.mem_singleton.2 rfl⟩
theorem xw {l:List Tn}(hk:l.length<=65535):CdO (dk l) 256:=xv hk (by decide) (List.mem_append_right _ (List.mem_singleton.2 rfl))
theorem ME:∀i,i<286->0<(bE.getD i mq).toNat:=by decide+kernel
theorem MF:∀i,i<30->0<(cY.getD i mq).toNat:=by decide+kernel
theorem Ep {s:Nat}(hs:s<286):CdO bE s:=vS dj (fj dj) (by rw[mV];omega) (ME s hs)
theorem Q1 {s:Nat}(hs:s<30):CdO cY s:=vS fC (fj fC) (by rw[pP];omega) (MF s hs)
theorem MG {t:Tn}(hm:ef t):MA bE cY t:=by
 unfold MA
 by_cases h0:t.long=0
 ·rw[ZF h0];exact Ep (by have:=t.lit.toNat_lt;omega)
 ·rw[ZE h0]
  have te:=bK rfl rfl hm h0;exact⟨Ep om,Q1 te.2⟩
section
variable {b:Z1} {p:Nat}
theorem Q2:∀{V:Z1} {p:Nat} {Y:List Bool},(∀i,(V.getD i mq).toNat<=7)->St b p (bs (V.flatMap jL)++Y)->∀i,i<=V.length->cV b ⟨p,0⟩ i=⟨p+3*i,0⟩∧(i<V.length->aY b 3 (cV b ⟨p,0⟩ i)=(V.getD i mq).toNat)∧St b (p+3*i) (bs ((V.drop i).flatMap jL)++Y):=fun{V p Y} hV h i=>by
 have val:∀j,j<V.length->St b (p+3*j) (bs ((V.drop j).flatMap jL)++Y)->aY b 3 ⟨p+3*j,0⟩=(V.getD j mq).toNat∧bA b 3 ⟨p+3*j,0⟩=⟨p+3*(j+1),0⟩∧St b (p+3*(j+1)) (bs ((V.drop (j+1)).flatMap jL)++Y):=λ j hj hS=>by
  have e:V.drop j=V.getD j mq::V.drop (j+1):=by
   rw[Wi hj,UZ,U4 hj];rfl
  have e2:bs ((V.drop j).flatMap jL)=nb (V.getD j mq).toNat 3++bs ((V.drop (j+1)).flatMap jL):=by
   rw[e,Wf,jL,Yu,bC]
  rw[e2,Ve]at hS;obtain⟨s1,s2⟩:=hS.app;rw[bf]at s2;have q:=jQ (show(V.getD j mq).toNat<2^3 from Nat.lt_succ_of_le (hV j)) s1;exact⟨q.1,q.2,s2⟩
 induction i with
 |zero=>
  intro _;refine⟨rfl,λ h0=>?_,by rw[Wm];exact h⟩;exact(val 0 h0 (by rw[Wm];exact h)).1
 |succ i ih=>
  intro hi;obtain⟨h1,h2,h3⟩:=ih om;obtain⟨v1,v2,v3⟩:=val i om h3;have e:cV b ⟨p,0⟩ (i+1)=⟨p+3*(i+1),0⟩:=by rw[cV,h1];exact v2
  exact⟨e,λ q=>by rw[e];exact(val (i+1) q v3).1,v3⟩
theorem Hk:∀i,i<19->∀j,j<19->cK i=cK j->i=j:=by decide
theorem Hl:∀i,i<19->cK i<19:=by decide
theorem MH:∀j,j<19->∃i,i<19∧cK i=j:=by decide
theorem MI:∀i,i<19->pz.getD i mq=cK i:=by decide
theorem Es {s:Rs}:∀k,k<=19->∀i,i<19->(im b s k).getD (cK i) mq=if i<k then V6 (aY b 3 (cV b s i))else 0
 |0,_,i,hi=>by
  rw[im,ZE (Nat.not_lt_zero _),UZ,List.getElem?_replicate];split<;>rfl
 |k+1,hk,i,hi=>by
  have ih:=Es (s:=s) k om i hi;rw[im,UZ,List.getElem?_set,eH]
  by_cases e:i=k
  ·subst e;rw[ZF rfl,ZF (Hl i hi),ZF om];rfl
  ·rw[ZE (λ q=>e (Hk k om i hi q).symm),<-UZ,ih]
   by_cases q:i<k
   ·rw[ZF q,ZF om]
   ·rw[ZE q,ZE om]
theorem MJ (C:Z1){i:Nat}(h:i<19):(kX C 19).getD i mq=C.getD (cK i) mq:=by
 rw[<-MI i h,mL,UZ,Vu,V0,ZF h,U4 (show i<pz.length from h),UZ (l:=pz),U4 (show i<pz.length from h)];rfl
theorem TX {C V:Z1}{Y:List Bool}(hC:C.length=19)(hV:V=vq (kX C 19) 4)(h7:∀i,(V.getD i mq).toNat<=7)(hn:V.length<=19)(h:St b p (bs (V.flatMap jL)++Y)):im b ⟨p,0⟩ V.length=C∧cV b ⟨p,0⟩ V.length=⟨p+3*V.length,0⟩:=by
 have R:=Q2 h7 h;refine⟨?_,(R V.length (Vd _)).1⟩;apply List.ext_getElem?;intro j;rcases VL j 19 with hj|hj
 ·obtain⟨i,hi,rfl⟩:=MH j hj
  have a:=Es (b:=b) (s:=⟨p,0⟩) V.length hn i hi;have e:V.getD i mq=C.getD (cK i) mq:=by rw[hV,py,MJ C hi]
  have z:(im b ⟨p,0⟩ V.length).getD (cK i) mq=C.getD (cK i) mq:=by
   rw[a]
   by_cases q:i<V.length
   ·rw[ZF q,(R i om).2.1 q,l6,e]
   ·rw[ZE q,<-e,ki om]
  rw[UZ,UZ,U4 (by rw[eH];exact hj),U4 om]at z;rw[U4 (by rw[eH];exact hj),U4 om];exact congrArg some z
 ·rw[VF (by rw[eH];exact hj),VF om]
theorem JP {t X:Z1}{N:Nat}{Y:List Bool}:∀{R:List Rn} {o:Z1} {k p:Nat} {r:List Rn},cq N R o=(X,0)->(∀x∈R,DR x∧CdO t x.s)->(0<o.length->0<r.length)->N-o.length<=k->St b p (bs (R.flatMap (lX (ac t)))++Y)->lnZF b t N k ⟨p,0⟩ o.length r=(⟨p+(bs (R.flatMap (lX (ac t)))).length,0⟩,r++R)
 |[],o,k,p,r,hs,_,_,_,_=>by
  have e:o.length=N:=by
   rw[cq]at hs
   split at hs
   ·assumption
   ·cases hs
  rw[n9 (.inl om),VS];rfl
 |x::R,o,k,p,r,hs,hR,hr,hk,h=>by
  obtain⟨⟨x1,x2⟩,xc⟩:=hR x Vr;have dZ:¬(x.s=16∧o.length=0):=λ q=>by
   rw[cq,ZE om,ZF q]at hs;cases hs
  have cN:¬N<o.length+bh x:=λ q=>by
   rw[cq,ZE om,ZE dZ,ZF q]at hs;cases hs
  rw[cq,ZE om,ZE dZ,ZE cN]at hs;have hp:=tF x;obtain⟨j,rfl⟩:∃j,k=j+1:=⟨k-1,by omega⟩
  rw[Wf,cg,Ve]at h;obtain⟨q1,q2,q3⟩:=vT xc h;obtain⟨n1,n2⟩:=q3.app;rw[bf]at n2;have v:=jQ x2 n1;have eX:gr b t ⟨p,0⟩=x:=by
   unfold gr;rw[q1,q2];have:=v.1;rw[this]
  have eC:nC b t N ⟨p,0⟩ o.length r.length=⟨p+(t.getD x.s mq).toNat+rb x.s,0⟩:=by
   unfold nC;rw[eX,q1,q2];have e:D6 N o.length r.length x=true:=by
    unfold D6;rw[U9];refine⟨decide_eq_true om,?_⟩
    by_cases z:x.s=16
    ·have:=hr (by have:o.length≠0:=λ e=>dZ ⟨z,e⟩;omega)
     rw[Xf];exact .inr (decide_eq_true om)
    ·rw[Xf];exact .inl (decide_eq_true z)
   rw[e,fM];exact v.2
  have ol:(o++List.replicate (bh x) (aS x o)).length=o.length+bh x:=by rw[U2,List.length_replicate]
  have ih:=JP (p:=p+(t.getD x.s mq).toNat+rb x.s) (k:=j) (r:=r++[x]) hs (λ y hy=>hR y (Vy _ hy)) (λ _=>by rw[U2];simp) (by rw[ol];omega) n2;rw[ol]at ih;rw[lnZF,ZE (by show¬(N<=o.length∨(0:Nat)≠0);omega),eX,eC,ih,Wf,cg,U2];have cl:(bs (lX (ac t) x)).length=(t.getD x.s mq).toNat+rb x.s:=pU xc;rw[cl,Ve];refine congrArg (λ z=>(Rs.mk z 0,_)) ?_;omega
end
theorem rD {N:Nat}{X:Z1}{s0:Nat}{v:UInt8}(h16:s0≠16)(hv:v=if s0<16 then V6 s0 else 0):∀{R:List Rn} {o:Z1},cq N R o=(X,0)->(∀x∈R,x.s=s0)->(∀y∈o,y=v)->∀y∈X,y=v
 |[],o,h,_,ho=>by
  rw[cq]at h
  split at h
  ·cases h;exact ho
  ·cases h
 |x::R,o,h,hR,ho=>by
  rw[cq]at h
  split at h
  ·cases h
  ·split at h
   ·cases h
   ·split at h
    ·cases h
    ·refine rD h16 hv h (λ y hy=>hR y (Vy _ hy)) λ y hy=>?_
     rcases List.mem_append.1 hy with q|q
     ·exact ho y q
     ·have e:=List.eq_of_mem_replicate q
      have xs:=hR x Vr;rw[e,hv];unfold aS;rw[xs,ZE h16]
theorem vU {v:UInt8}(hv:v.toNat≠0):∀{l:Z1},(∀y∈l,y=v)->aW l=l.length*2^(15-v.toNat)∧bg l=l.length
 |[],_=>⟨by rw[WZ,Nat.zero_mul];rfl,rfl⟩
 |x::l,h=>by
  have ih:=vU hv (l:=l) λ y hy=>h y (Vy _ hy)
  have e:=h x Vr;subst e;rw[aW,bg,ZE hv,ZE hv,ih.1,ih.2,VE,Nat.succ_mul];exact⟨YS _ _,YS _ _⟩
theorem Hm {l:Z1}{i j:Nat}(hij:i≠j)(ho:dn l 15=false)(hi:(l.getD i mq).toNat≠0)(hj:(l.getD j mq).toNat≠0):2<=(af l).length:=by
 have li:=jR hi;have lj:=jR hj;rw[dE,kR];have m:∀k,k<l.length->(l.getD k mq).toNat≠0->k∈(Wa l.length).filter λ i=>decide (0<(l.getD i mq).toNat∧(l.getD i mq).toNat<16):=λ k hk h0=>
  List.mem_filter.2 ⟨List.mem_range.2 hk,decide_eq_true ⟨by omega,by have:=dN ho hk;omega⟩⟩
 have m1:=m i li hi;have m2:=m j lj hj;generalize(Wa l.length).filter (λ i=>decide (0<(l.getD i mq).toNat∧(l.getD i mq).toNat<16))=L at m1 m2
 match L,m1,m2 with
 |[a],m1,m2=>exact absurd ((List.mem_singleton.1 m1).trans (List.mem_singleton.1 m2).symm) hij
 |_::_::_,_,_=>exact Xa (Xa (VI _))
theorem MK {l:Z1}(h:aG l 15=0):aW l=32768∨bg l=0∨bg l=1∧aW l=16384:=by
 rw[iR]at h;unfold sn at h
 split at h
 ·cases h
 ·split at h
  ·cases h
  ·split at h
   ·cases h
   ·split at h
    ·assumption
    ·cases h
structure DyX (l:List Tn):Prop where
 n1:257<=(dk l).length∧(dk l).length<=286
 n2:1<=(eQ l).length∧(eQ l).length<=30
 n3:4<=(nl l).length∧(nl l).length<=19
 x:∀i,i<(dk l++eQ l).length->((dk l++eQ l).getD i mq).toNat<=15
 st:cq (dk l++eQ l).length (mP l) []=(dk l++eQ l,0)
 rn:∀r∈mP l,DR r
 cC:aG (jf l) 7=0
 lC:(jf l).length=19
 cd:∀r∈mP l,CdO (jf l) r.s
 o7:∀i,((nl l).getD i mq).toNat<=7
theorem TY {l:List Tn}(hk:l.length<=65535):DyX l:=by
 have G:=DQ l hk;have F:=G.f;have hx:∀i,i<(dk l++eQ l).length->((dk l++eQ l).getD i mq).toNat<=15:=λ i _=>by
  rw[UZ];rcases VL i (dk l).length with q|q
  ·rw[Vz q,<-UZ];exact rz G.cL i
  ·rw[Vs q,<-UZ];exact rz G.cB _
 have so:=Mb rfl hx;rw[<-DM,iS]at so;have c15:aG (jf l) 15=0:=(iV (by decide) F.cC).1;refine⟨by rw[G.lL];exact F.k1,by rw[G.lB];exact F.k2,by rw[G.lO];exact F.k3,hx,so.1,so.2,F.cC,F.lC,λ r hr=>?_,λ i=>?_⟩
 ·have m:r.s∈(mP l).map Rn.s:=YQ hr
  have p:=jM (bB 19 ((mP l).map Rn.s)) (by rw[F.lW3];decide) 7 (by decide) (by rw[F.lW3];exact F.iW3) (pV (by have:=(so.2 r hr).1;omega) m);rw[<-DN]at p;exact vS c15 F.oC (jR p) om
 ·rw[pJ,py];exact F.bO i
theorem ML {n v:Nat}(h:n*2^(15-v)=32768)(hv:v<=15):n=2^v:=by
 have e:(32768:Nat)=2^v*2^(15-v):=by rw[<-Nat.pow_add,show v+(15-v)=15 from by omega]
 rw[e]at h;exact Nat.eq_of_mul_eq_mul_right (Nat.two_pow_pos _) h
theorem MM {l:List Tn}(hk:l.length<=65535):2<=(af (jf l)).length:=by
 have D:=TY hk;have G:=DQ l hk;have E:=xw hk;rcases VL (af (jf l)).length 2 with hlt|hge
 ·exfalso
  have same:∀x∈mP l,∀y∈mP l,x.s=y.s:=λ x hx y hy=>by
   by_cases q:x.s=y.s
   ·exact q
   ·exfalso
    have cx:=D.cd x hx;have cy:=D.cd y hy;have:=Hm q cx.o (by have:=cx.p;omega) (by have:=cy.p;omega);omega
  have st:=D.st;have rn:=D.rn;have n1:=D.n1;have xl:(dk l++eQ l).length=(dk l).length+(eQ l).length:=U2
  cases hR:mP l with
  |nil=>
   rw[hR,cq]at st
   split at st
   ·next q=>simp only[WZ]at q;omega
   ·exact absurd (congrArg Prod.snd st) (by decide:¬(100:Nat)=0)
  |cons x0 R=>
   rw[hR]at st same rn;have h16:x0.s≠16:=λ q=>by
    have r0:=rn x0 Vr;obtain⟨r1,r2⟩:=r0;rw[cq,ZE om,ZF ⟨q,rfl⟩]at st;exact absurd (congrArg Prod.snd st) (by decide:¬(100:Nat)=0)
   have hc:=rD (s0:=x0.s) h16 rfl st (λ x hx=>same x hx x0 Vr) (λ y hy=>by cases hy);generalize(if x0.s<16 then V6 x0.s else 0)=v at hc;have e256:(dk l).getD 256 mq=v:=by
    refine hc _ (WG _ ?_);rw[UZ,U4 E.i];exact V3 E.i
   have hv:v.toNat≠0:=by have:=E.p;rw[e256]at this;omega
   have kc:=vU hv (l:=dk l) λ y hy=>hc y (WG _ hy)
   have v15:v.toNat<=15:=by rw[<-e256];exact rz G.cL 256
   rcases MK G.cL with h|h|h
   ·rw[kc.1]at h
    have:=ML h v15;rcases VL v.toNat 9 with z|z
    ·have:2^v.toNat<=2^8:=VD (by decide) om
     omega
    ·have:2^9<=2^v.toNat:=VD (by decide) z
     omega
   ·rw[kc.2]at h;omega
   ·rw[kc.2]at h;omega
 ·exact hge
section
variable {b:Z1} {p:Nat}
theorem Q3:(((0:Nat):Int)==0)=true:=rfl
def MN (l:List Tn):List Nm:=[⟨(dk l).length-257,5⟩,⟨(eQ l).length-1,5⟩,⟨(nl l).length-4,4⟩]++(nl l).flatMap jL++(mP l).flatMap (lX (ac (jf l)))
theorem JQ (e:Nat)(l:List Tn):zz e l=kx e 2++MN l:=by
 rw[mQ,jK,jK,VB (Vd _),VB (Vd _),MN,Ve,Ve,Ve]
theorem zT (V:Z1):(bs (V.flatMap jL)).length=3*V.length:=by
 induction V with
 |nil=>rfl
 |cons x V ih=>rw[Wf,jL,Yu,bC,U2,bf,ih,VE];show 3+3*V.length=_;omega
theorem MO {l:List Tn}(hk:l.length<=65535){Y:List Bool}(h:St b p (bs (MN l)++Y)):Bj b ⟨p,0⟩=(⟨p+(bs (MN l)).length,0⟩,dk l,eQ l):=by
 have D:=TY hk;have G:=DQ l hk;have E:=xw hk;have T:=MM hk;have n1:=D.n1;have n2:=D.n2;have n3:=D.n3;have eP:bs (MN l)=nb ((dk l).length-257) 5++(nb ((eQ l).length-1) 5++(nb ((nl l).length-4) 4++(bs ((nl l).flatMap jL)++bs ((mP l).flatMap (lX (ac (jf l))))))):=by
  rw[MN,cg,cg,bC,bC,bC,gX,VS,Ve,Ve,Ve]
 have lP:(bs (MN l)).length=14+3*(nl l).length+(bs ((mP l).flatMap (lX (ac (jf l))))).length:=by
  rw[eP,U2,U2,U2,U2,bf,bf,bf,zT];omega
 rw[lP];rw[eP,Ve,Ve,Ve,Ve]at h;obtain⟨a1,a2⟩:=h.app;rw[bf]at a2;obtain⟨b1,b2⟩:=a2.app;rw[bf]at b2;obtain⟨c1,c2⟩:=b2.app;rw[bf]at c2;have g1:=jQ (show(dk l).length-257<2^5 by omega) a1;have g2:=jQ (show(eQ l).length-1<2^5 by omega) b1;have g3:=jQ (show(nl l).length-4<2^4 by omega) c1;have w:=TX D.lC (pJ l) D.o7 n3.2 c2;have c3:=c2.app.2;rw[zT]at c3;have xl:(dk l++eQ l).length=(dk l).length+(eQ l).length:=U2;have ln:=JP (t:=jf l) (X:=dk l++eQ l) (N:=(dk l++eQ l).length) (o:=[]) (k:=(dk l++eQ l).length) (r:=[]) D.st (λ x hx=>⟨D.rn x hx,D.cd x hx⟩) (λ q=>absurd q (XA 0)) (Nat.sub_le _ _) c3;have so:cv (dk l++eQ l).length (mP l)=(dk l++eQ l,0):=by rw[iS];exact D.st
 have eN:(dk l).length-257+257+((eQ l).length-1+1)=(dk l++eQ l).length:=by omega
 have eO:GV b (jf l) (dk l++eQ l).length ⟨p+5+5+4+3*(nl l).length,0⟩=dk l++eQ l:=by
  unfold GV;rw[pO,show lnZF b (jf l) (dk l++eQ l).length (dk l++eQ l).length ⟨p+5+5+4+3*(nl l).length,0⟩ 0 []=_ from ln,XI,so]
 have eS:xu b (jf l) (dk l++eQ l).length ⟨p+5+5+4+3*(nl l).length,0⟩=⟨p+5+5+4+3*(nl l).length+(bs ((mP l).flatMap (lX (ac (jf l))))).length,0⟩:=by
  unfold xu;rw[pO,show lnZF b (jf l) (dk l++eQ l).length (dk l++eQ l).length ⟨p+5+5+4+3*(nl l).length,0⟩ 0 []=_ from ln,XI,so];exact fM
 have t1:(decide ((dk l).length-257+257<=286)&&decide ((eQ l).length-1+1<=30))=true:=by
  rw[U9];exact⟨decide_eq_true om,decide_eq_true om⟩
 have t2:decide ((1:Int)<(((af (jf l)).length:Nat):Int))=true:=decide_eq_true om;have t3:decide ((0:Int)<((((dk l++eQ l).getD 256 mq).toNat:Nat):Int))=true:=by
  have e:(dk l++eQ l).getD 256 mq=(dk l).getD 256 mq:=by
   rw[UZ,Vz E.i,<-UZ]
  rw[e];have:=E.p;exact decide_eq_true om
 have l1:((dk l++eQ l).drop 0).take ((dk l).length-257+257)=dk l:=by
  rw[Wm,show(dk l).length-257+257=(dk l).length from by omega,Zv]
 have l2:((dk l++eQ l).drop ((dk l).length-257+257)).take ((dk l++eQ l).length-((dk l).length-257+257))=eQ l:=by
  rw[show(dk l).length-257+257=(dk l).length from by omega,List.drop_left,xl,Nat.add_sub_cancel_left,Wd]
 have e4:(nl l).length-4+4=(nl l).length:=by omega
 unfold Bj;dsimp only;rw[g1.1,g1.2,g2.1,g2.2,g3.1,g3.2,t1,fM,e4,w.1,w.2,D.cC,Q3,fM,l8 D.cC,t2,fM,eN,eO,eS,t3,fM,l1,l2,G.cL,G.cB,Q3,fM,fM,fM,l8 G.cL,l8 G.cB,ZE (by exact λ q=>q rfl)];refine congrArg (λ z=>(Rs.mk z 0,_)) ?_;omega
theorem Et {e k:Nat}(he:e<=1)(hk:k<=2){Y:List Bool}(h:St b p (bs (kx e k)++Y)):aY b 1 ⟨p,0⟩=e∧bA b 1 ⟨p,0⟩=⟨p+1,0⟩∧aY b 2 ⟨p+1,0⟩=k∧bA b 2 ⟨p+1,0⟩=⟨p+3,0⟩∧St b (p+3) Y:=by
 rw[kx,bC,bC,gX,VS,Ve]at h;obtain⟨a1,a2⟩:=h.app;rw[bf]at a2;obtain⟨b1,b2⟩:=a2.app;rw[bf]at b2;have g1:=jQ (show e<2^1 by omega) a1;have g2:=jQ (show k<2^2 by omega) b1;exact⟨g1.1,g1.2,g2.1,g2.2,b2⟩
theorem Q4 {e:Nat}(he:e<=1){l:List Tn}(hk:l.length<=65535){Y:List Bool}(h:St b p (bs (zz e l)++Y)):io b ⟨p,0⟩=⟨⟨p+(bs (zz e l)).length,0⟩,2,((e:Nat):Int)==1,0,dk l,eQ l⟩:=by
 rw[JQ,cg,Ve]at h;obtain⟨h1,h2,h3,h4,h5⟩:=Et he (by decide) h;have d:=MO hk h5;have t:decide (((2:Nat):Int)<=2)=true:=rfl;rw[jP];unfold EX;dsimp only;rw[h1,h2,h3,h4,t,fM,d,ZE (by exact λ q=>q rfl),ZE (by decide),ZE (by decide),JQ,cg,U2];have hl:(bs (kx e 2)).length=3:=by rw[kx,bC,bC,gX,VS,U2,bf,bf];rfl
 rw[hl,Wh]
theorem Q5 {e:Nat}(he:e<=1){Y:List Bool}(h:St b p (bs (kx e 1)++Y)):io b ⟨p,0⟩=⟨⟨p+3,0⟩,1,((e:Nat):Int)==1,0,bE,cY⟩:=by
 obtain⟨h1,h2,h3,h4,h5⟩:=Et he (by decide) h;have t:decide (((1:Nat):Int)<=2)=true:=rfl;rw[jP];unfold EX;dsimp only;rw[h1,h2,h3,h4,t,fM,ZE (by exact λ q=>q rfl),ZE (by decide),ZF rfl]
theorem Q6 {e:Nat}(he:e<=1){raw:Z1}(hr:raw.length<=65535){Y:List Bool}(h:St b p (bs (nj e (p%8) raw)++Y)):io b ⟨p,0⟩=⟨⟨p+35+gv (p%8),0⟩,0,((e:Nat):Int)==1,raw.length,[],[]⟩∧St b (p+35+gv (p%8)) (bs (raw.map vb)++Y):=by
 have eS:nj e (p%8) raw=kx e 0++([⟨0,gv (p%8)⟩,⟨raw.length,16⟩,⟨65535-raw.length,16⟩]++raw.map vb):=by
  unfold nj;rw[fK,VB (Vd _)];rfl
 rw[eS,cg,Ve]at h;obtain⟨h1,h2,h3,h4,h5⟩:=Et he (by decide) h;rw[cg,bC,bC,bC,gX,VS,Ve,Ve,Ve]at h5;have h6:St b (p+3+gv (p%8)) (nb raw.length 16++(nb (65535-raw.length) 16++(bs (raw.map vb)++Y))):=by have q:=h5.app.2;rw[bf]at q;exact q
 obtain⟨a1,a2⟩:=h6.app;rw[bf]at a2;obtain⟨b1,b2⟩:=a2.app;rw[bf]at b2;have g1:=jQ (show raw.length<2^16 by omega) a1;have g2:=jQ (show 65535-raw.length<2^16 by omega) b1;have pe:=lE (p%8);have e8:(p+3+7)/8*8=p+3+gv (p%8):=by omega
 have t:decide (((0:Nat):Int)<=2)=true:=rfl;have t2:((raw.length:Int)+((65535-raw.length:Nat):Int)==65535)=true:=by
  rw[beq_iff_eq];omega
 constructor
 ·rw[jP]
  unfold EX;dsimp only;rw[h1,h2,h3,h4,t,fM,ZE (by exact λ q=>q rfl),ZF rfl];show Hd.mk _ _ _ _ _ _=_;dsimp only;rw[e8,g1.1,g1.2,g2.1,g2.2,t2,fM];refine congrArg (λ z=>Hd.mk (Rs.mk z 0) _ _ _ _ _) ?_;omega
 ·rw[show p+35+gv (p%8)=p+3+gv (p%8)+16+16 from by omega];exact b2
end
section
variable {b:Z1} {p:Nat}
structure RdB (b:Z1)(kd le:Nat)(l1 l2:Z1)(T:List Tn)(pos:Nat->Nat)(fin:Nat):Prop where
 st:∀j,j<T.length->aA b kd (le-j) l1 l2 ⟨pos j,0⟩=(⟨pos (j+1),0⟩,(T.getD j mq).lit.toNat,(T.getD j mq).dist,(T.getD j mq).long,false)
 en:aA b kd (le-T.length) l1 l2 ⟨pos T.length,0⟩=(⟨fin,0⟩,0,0,0,true)
 ps:∀j,j<=T.length->pos j<=8*b.length
theorem Eu {A B:Z1}{kd:Nat}(hk:kd≠0){l:List Tn}(hl:∀t∈l,nA t)(hO:∀t∈l,MA A B t)(hE:CdO A 256){Y:List Bool}(h:St b p (bs (l.flatMap (mG aw aC (ac A) (ac B)))++(bs (f6 (ac A) 256 0 0)++Y))):RdB b kd 0 A B l (λ j=>p+(bs ((l.take j).flatMap (mG aw aC (ac A) (ac B)))).length) (p+(bs (l.flatMap (mG aw aC (ac A) (ac B)))).length+(bs (f6 (ac A) 256 0 0)).length):=by
 have cut:∀j,j<=l.length->St b (p+(bs ((l.take j).flatMap (mG aw aC (ac A) (ac B)))).length) (bs ((l.drop j).flatMap (mG aw aC (ac A) (ac B)))++(bs (f6 (ac A) 256 0 0)++Y)):=λ j _=>by
  have e:l.flatMap (mG aw aC (ac A) (ac B))=(l.take j).flatMap (mG aw aC (ac A) (ac B))++(l.drop j).flatMap (mG aw aC (ac A) (ac B)):=by rw[<-WL,WK]
  rw[e,cg,Ve]at h;exact h.app.2
 refine⟨λ j hj=>?_,?_,λ j hj=>?_⟩
 ·have c:=cut j om
  have e:l.drop j=l.getD j mq::l.drop (j+1):=by
   rw[Wi hj,UZ,U4 hj];rfl
  have e2:l.take (j+1)=l.take j++[l.getD j mq]:=by
   rw[VT hj,UZ,U4 hj];rfl
  have m:l.getD j mq∈l:=by
   rw[UZ,U4 hj];exact V3 hj
  rw[e,Wf,cg,Ve]at c;have ok:=hl _ m;have q:=QZ (le:=0-j) hk ok.may (hO _ m) c;refine q.trans ?_;rw[e2,WL,Xx,cg,U2,Wh];rcases ok with ok|ok
  ·rw[ZF ok.1,ok.1,ok.2]
  ·rw[ZE om,ok.1];rfl
 ·have c:=cut l.length (Vd _)
  rw[List.drop_length,List.flatMap_nil,gX,XI]at c;have q:=MB (B:=B) (le:=0-l.length) hk hE c;refine q.trans ?_;rw[Wd]
 ·exact Vq (XF _ _) (cut j hj).n
theorem Ew (X:Z1):(bs (X.map vb)).length=8*X.length:=by
 induction X with
 |nil=>rfl
 |cons x X ih=>rw[WM,bC,U2,ih,vb,bf,VE];show 8+8*X.length=_;omega
theorem MP {raw:Z1}{Y:List Bool}(h:St b p (bs (raw.map vb)++Y)):RdB b 0 raw.length [] [] (raw.map λ x=>⟨x,0,0⟩) (λ j=>p+8*j) (p+8*raw.length):=by
 have cut:∀j,j<=raw.length->St b (p+8*j) (bs ((raw.drop j).map vb)++Y):=λ j hj=>by
  have e:raw.map vb=(raw.take j).map vb++(raw.drop j).map vb:=by rw[<-V4,WK]
  rw[e,cg,Ve]at h;have q:=h.app.2
  rwa [Ew,Vg,Nat.min_eq_left hj]at q
 refine⟨λ j hj=>?_,?_,λ j hj=>?_⟩
 ·rw[Vj]at hj
  have c:=cut j om;have e:raw.drop j=raw.getD j mq::raw.drop (j+1):=by
   rw[Wi hj,UZ,U4 hj];rfl
  have g:(raw.map λ x=>(⟨x,0,0⟩:Tn)).getD j mq=⟨raw.getD j mq,0,0⟩:=by
   rw[UZ,Vu,UZ,U4 hj];rfl
  rw[e,WM,bC,Ve]at c;rw[g];exact(Q0 (A:=[]) (B:=[]) (le:=raw.length-j) om c).trans (by rw[show p+8*j+8=p+8*(j+1)from by omega])
 ·rw[Vj,Nat.sub_self,Mh rfl (XA 0)]
 ·rw[Vj]at hj
  exact Vq (XF _ _) (cut j hj).n
def Ex (kd:Nat)(raw:Z1)(l:List Tn):List Tn:=if kd=0 then raw.map (λ x=>⟨x,0,0⟩)else l
theorem MQ {kd:Nat}(hkd:kd<=2){e:Nat}(he:e<=1){raw:Z1}(hr:raw.length<=65535){l:List Tn}(hk:l.length<=65535)(hl:∀t∈l,nA t){Y:List Bool}(h:St b p (bs (nB (p%8) kd raw l e)++Y)):∃(le p0:Nat) (l1 l2:Z1) (pos:Nat->Nat),io b ⟨p,0⟩=⟨⟨p0,0⟩,kd,((e:Nat):Int)==1,le,l1,l2⟩∧l1.length<=320∧l2.length<=320∧aG l1 15=0∧aG l2 15=0∧pos 0=p0∧(kd=0->le<=65535∧l1=[]∧l2=[])∧(kd≠0->le=0)∧RdB b kd le l1 l2 (Ex kd raw l) pos (p+(bs (nB (p%8) kd raw l e)).length):=by
 unfold Ex;rw[gW]at h ⊢
 by_cases h0:kd=0
 ·rw[ZF h0]at h ⊢
  rw[ZF h0];subst h0;obtain⟨q1,q2⟩:=Q6 he hr h;have len:(bs (nj e (p%8) raw)).length=35+gv (p%8)+8*raw.length:=by
   have eS:nj e (p%8) raw=kx e 0++([⟨0,gv (p%8)⟩,⟨raw.length,16⟩,⟨65535-raw.length,16⟩]++raw.map vb):=by
    unfold nj;rw[fK,VB (Vd _)];rfl
   rw[eS,cg,cg,U2,U2,Ew,kx,bC,bC,gX,bC,bC,bC,gX,VS,VS,U2,U2,U2,bf,bf,bf,bf,bf];show 1+2+(gv (p%8)+(16+16)+8*raw.length)=_;omega
  have R:=MP q2;rw[len,show p+(35+gv (p%8)+8*raw.length)=p+35+gv (p%8)+8*raw.length from by omega];exact⟨_,_,_,_,_,q1,VI _,VI _,by decide,by decide,rfl,λ _=>⟨hr,rfl,rfl⟩,λ q=>absurd rfl q,R⟩
 ·rw[ZE h0]at h ⊢
  rw[ZE h0]
  by_cases h1:kd=1
  ·rw[ZF h1]at h ⊢
   subst h1;rw[i4,fg,Wd,cg,cg,Ve,Ve]at h;rw[i4,fg,Wd,cg,cg,U2,U2];have q1:=Q5 he h;have h2:=h.app.2;have hl3:(bs (kx e 1)).length=3:=by rw[kx,bC,bC,gX,VS,U2,bf,bf];rfl
   rw[hl3]at h2 ⊢;have R:=Eu (A:=bE) (B:=cY) (kd:=1) (by decide) hl (λ t ht=>MG (hl t ht).may) (Ep (by decide)) h2;rw[show p+(3+(bs (l.flatMap (mG aw aC (ac bE) (ac cY)))).length+(bs (f6 (ac bE) 256 0 0)).length)=p+3+(bs (l.flatMap (mG aw aC (ac bE) (ac cY)))).length+(bs (f6 (ac bE) 256 0 0)).length from by omega];exact⟨_,_,_,_,_,q1,by rw[mV];decide,by rw[pP];decide,dj,fC,rfl,λ q=>absurd q (by decide),λ _=>rfl,R⟩
  ·rw[ZE h1]at h ⊢
   have h2:kd=2:=by omega
   subst h2;have G:=DQ l hk;have D:=TY hk;rw[i5,fg,Wd,cg,cg,Ve,Ve]at h;rw[i5,fg,Wd,cg,cg,U2,U2];have q1:=Q4 he hk h;have h2:=h.app.2;have R:=Eu (A:=dk l) (B:=eQ l) (kd:=2) (by decide) hl (λ t ht=>MD hk ht (hl t ht).may) (xw hk) h2;rw[show p+((bs (zz e l)).length+(bs (l.flatMap (mG aw aC (ac (dk l)) (ac (eQ l))))).length+(bs (f6 (ac (dk l)) 256 0 0)).length)=p+(bs (zz e l)).length+(bs (l.flatMap (mG aw aC (ac (dk l)) (ac (eQ l))))).length+(bs (f6 (ac (dk l)) 256 0 0)).length from by omega];have n1:=D.n1;have n2:=D.n2;exact⟨_,_,_,_,_,q1,by omega,by omega,G.cL,G.cB,rfl,λ q=>absurd q (by decide),λ _=>rfl,R⟩
end
theorem tH (b:Z1)(most:Int):∀(k:Nat) (m:Option Kb) (s:Rs) (o:Z1),o.length<=(g7 b most k m s o).2.length
 |0,_,_,_=>Vd _
 |k+1,none,s,o=>by rw[g7];exact tH b most k _ _ _
 |k+1,some K,s,o=>by
  rw[g7]
  split
  ·split
   ·exact Vd _
   ·exact tH b most k _ _ _
  ·split
   ·exact Vd _
   ·refine Vq ?_ (tH b most k _ _ _)
    rw[oe];omega
theorem og (b:Z1)(most:Int):∀(k:Nat) (m:Option Kb) (s:Rs) (o:Z1),(o.length:Int)<=most->((g7 b most k m s o).2.length:Int)<=most
 |0,_,_,_,h=>h
 |k+1,none,s,o,h=>by rw[g7];exact og b most k _ _ _ h
 |k+1,some K,s,o,h=>by
  rw[g7]
  split
  ·split
   ·exact h
   ·exact og b most k _ _ _ h
  ·split
   ·exact h
   ·next q=>
    have h2:=fQ (most:=most) (d:=(bM b K s).2.2.1) (long:=(bM b K s).2.2.2.1) (s:=(bM b K s).1) (o:=o) om;refine og b most k _ _ _ ?_;rw[oe];have:=h2.2.2.1;omega
theorem oh {most:Int}{d long:Nat}{s:Rs}{o:Z1}(hs:s.e=0)(h:(ip most d long s o).e≠0):(o.length<d∧(ip most d long s o).e=60)∨(d<=o.length∧most<((o.length:Nat):Int)+max 1 ((long:Nat):Int)∧(ip most d long s o).e=140):=by
 by_cases h1:(d:Int)<=((o.length:Nat):Int)
 ·right
  have e1:ip most d long s o=fl s (decide (((o.length:Nat):Int)+max 1 ((long:Nat):Int)<=most)) 140:=by
   unfold ip;rw[show decide ((d:Int)<=((o.length:Nat):Int))=true from decide_eq_true h1,fM]
  by_cases h2:((o.length:Nat):Int)+max 1 ((long:Nat):Int)<=most
  ·rw[e1,show decide (((o.length:Nat):Int)+max 1 ((long:Nat):Int)<=most)=true from decide_eq_true h2,fM]at h
   exact absurd hs h
  ·refine⟨by omega,by omega,?_⟩
   rw[e1,show decide (((o.length:Nat):Int)+max 1 ((long:Nat):Int)<=most)=false from decide_eq_false h2,DT hs]
 ·left
  refine⟨by omega,?_⟩;unfold ip;rw[show decide ((d:Int)<=((o.length:Nat):Int))=false from decide_eq_false h1,DT hs,GQ (show(60:Nat)≠0 by decide)]
theorem tI (b:Z1)(most more:Int):∀(k:Nat) (m:Option Kb) (s:Rs) (o:Z1),
  ((g7 b most k m s o).1.e=0->((g7 b most k m s o).2.length:Int)<=more->g7 b more k m s o=g7 b most k m s o)∧
  ((g7 b most k m s o).1.e=140->more<=most->(g7 b more k m s o).1.e=140)
 |0,_,_,_=>⟨λ _ _=>rfl,λ h _=>h⟩
 |k+1,none,s,o=>by rw[g7,g7];exact tI b most more k _ _ _
 |k+1,some K,s,o=>by
  rw[g7,g7]
  by_cases q:(bM b K s).1.e≠0∨(bM b K s).2.2.2.2=true
  ·rw[ZF q,ZF q]
   split
   ·exact⟨λ _ _=>rfl,λ h _=>h⟩
   ·exact tI b most more k _ _ _
  ·rw[ZE q,ZE q]
   have q1:(bM b K s).1.e=0:=by
    rcases Classical.em ((bM b K s).1.e=0)with y|y
    ·exact y
    ·exact absurd (.inl y) q
   by_cases a1:(ip most (bM b K s).2.2.1 (bM b K s).2.2.2.1 (bM b K s).1 o).e≠0
   ·rw[ZF a1]
    refine⟨λ h=>absurd h a1,λ h hm=>?_⟩;have h:(ip most (bM b K s).2.2.1 (bM b K s).2.2.2.1 (bM b K s).1 o).e=140:=h;rcases oh q1 a1 with⟨c1,c2⟩|⟨c1,c2,_⟩
    ·omega
    ·have a2:(ip more (bM b K s).2.2.1 (bM b K s).2.2.2.1 (bM b K s).1 o).e≠0:=λ y=>by
      have:=(fQ y).2.2.1;omega
     rw[ZF a2];rcases oh q1 a2 with⟨c3,_⟩|⟨_,_,c3⟩
     ·omega
     ·exact c3
   ·rw[ZE a1]
    have t1:=fQ (most:=most) (d:=(bM b K s).2.2.1) (long:=(bM b K s).2.2.2.1) (s:=(bM b K s).1) (o:=o) om
    by_cases a2:(ip more (bM b K s).2.2.1 (bM b K s).2.2.2.1 (bM b K s).1 o).e≠0
    ·rw[ZF a2]
     rcases oh q1 a2 with⟨c3,_⟩|⟨_,c4,c3⟩
     ·omega
     ·refine⟨λ _ h=>?_,λ _ _=>c3⟩
      exfalso;have:=tH b most k (some {K with le:=K.le-1}) (ip most (bM b K s).2.2.1 (bM b K s).2.2.2.1 (bM b K s).1 o) (od (bM b K s).2.1 (bM b K s).2.2.1 (bM b K s).2.2.2.1 o);rw[oe]at this;omega
    ·rw[ZE a2]
     have t2:=fQ (most:=more) (d:=(bM b K s).2.2.1) (long:=(bM b K s).2.2.2.1) (s:=(bM b K s).1) (o:=o) om;rw[t1.2.2.2,t2.2.2.2];exact tI b most more k _ _ _

set_option maxRecDepth 100000 in
theorem Q7:qi [75,4,0] 0 9=([97],18,0):=by decide+kernel
set_option maxRecDepth 100000 in
theorem Q8:qi [1,3,0,252,255,97,98,99] 0 3=([97,98,99],64,0):=by decide+kernel

theorem MR:S0 30 [.sl false 3 1 (([75,4,0]:Z1).map dB),iD 0,iD 9] [] (.tup [.ref 0 0 0 1 1,nD 18,nD 0]) [⟨([97]:Z1).map dB, 5,true⟩]:=vR [75,4,0] 3 rfl (by decide) 0 9 ([97],18,0) Q7
theorem MS:S0 30 [.sl false 8 1 (([1,3,0,252,255,97,98,99]:Z1).map dB),iD 0,iD 3] [] (.tup [.ref 0 0 0 3 1,nD 64,nD 0]) [⟨([97,98,99]:Z1).map dB, 5,true⟩]:=vR [1,3,0,252,255,97,98,99] 8 rfl (by decide) 0 3 ([97,98,99],64,0) Q8
theorem vV:S0 28 [] [] (.v (.bool true)) []:=by
 refine SpecH.run T_ok ah Tryz.func28 rfl rfl rfl trivial rfl 1000 64 (λ R ok=>(.s 9 (.call 30 false [] (true) wr ([Vl true 3 1 [bI 75,bI 4,bI 0],zI 0,zI 9]) _ (by exact(VR (D.sim.slw rfl rfl) (qr (qr trivial)))) (true) wr _ _ _ (VC (az.of Tryz.func30 rfl rfl) (@MR)) (.s 45 (.call 30 false [] (true) wr ([Vl true 8 1 [bI 1,bI 3,bI 0,bI 252,bI 255,bI 97,bI 98,bI 99],zI 0,zI 3]) _ (by exact(VR (D.sim.slw rfl rfl) (qr (qr trivial)))) (true) wr _ _ _ (VC (az.of Tryz.func30 rfl rfl) (@MS)) (.s 37 (.out [] [] (D.v (.bool true)) [] R (ok _ _ wr wr)))))))) kr
end Vp
end Go.Proofs.YtefjnofhgkjpmaaGreat
namespace Go.Proofs.YtefjnofhgkjpmaaGreat
open Go.RowKit Go.Bw Go.Vx
open List (length getD map take drop flatMap replicate)
namespace Vp
theorem Nk {p:Prop}(h:p:=by(simp[aU,du,bi];have y1:=hX 0;have y2:=eI (X:=X) (i:=0) (n:=X.length) om;have y5:=eK P;have y6:=am (bV (pT P) (X.getD 0 mq).v (X.getD 0 mq).n);rw[bZ]at y6;have y7:=jg (t:=pT P) (v:=(X.getD 0 mq).v) (n:=(X.getD 0 mq).n) (w:=(((pT P).length+(X.getD 0 mq).n)/8)) rfl;have y8:=eJ (A:=pA P) (t:=pT P) (v:=(X.getD 0 mq).v) (n:=(X.getD 0 mq).n) (w:=(((pT P).length+(X.getD 0 mq).n)/8)) (qj P) rfl;have y9:=gq P;have y4:=am (pA P);omega)):p:=h
theorem TZ {p:Prop}(h:p:=by(rw[dc];refine U8 ?_;(omega))):p:=h
theorem UF {p:Prop}(h:p:=by(have y1:=hX 0;have y2:=eI (X:=X) (i:=0) (n:=X.length) om;have y5:=eK P;have y6:=am (bV (pT P) (X.getD 0 mq).v (X.getD 0 mq).n);rw[bZ]at y6;have y7:=jg (t:=pT P) (v:=(X.getD 0 mq).v) (n:=(X.getD 0 mq).n) (w:=(((pT P).length+(X.getD 0 mq).n)/8)) rfl;have y8:=eJ (A:=pA P) (t:=pT P) (v:=(X.getD 0 mq).v) (n:=(X.getD 0 mq).n) (w:=(((pT P).length+(X.getD 0 mq).n)/8)) (qj P) rfl;have y9:=gq P;have y4:=am (pA P);simp only[Vj,Vg,VM,VV,U9,Xk,W8];omega)):p:=h
theorem UG {p:Prop}(h:p:=by(have y1:=hX 0;have y2:=eI (X:=X) (i:=0) (n:=X.length) om;have y5:=eK P;have y6:=am (bV (pT P) (X.getD 0 mq).v (X.getD 0 mq).n);rw[bZ]at y6;have y7:=jg (t:=pT P) (v:=(X.getD 0 mq).v) (n:=(X.getD 0 mq).n) (w:=(((pT P).length+(X.getD 0 mq).n)/8)) rfl;have y8:=eJ (A:=pA P) (t:=pT P) (v:=(X.getD 0 mq).v) (n:=(X.getD 0 mq).n) (w:=(((pT P).length+(X.getD 0 mq).n)/8)) (qj P) rfl;have y9:=gq P;have y4:=am (pA P);omega)):p:=h
theorem UH {p:Prop}(h:p:=by(have q:=rE P (k:=((P.length:Int)/8).toNat) om;first|(simp;done)|simpa using q)):p:=h
theorem UI {p:Prop}(h:p:=by(have y1:=hX i;have y2:=eI (X:=X) (i:=i) (n:=X.length) om;have y3:=dt (P:=P) (X:=X) i om;have y4:=congrArg length hB;rw[U2]at y4;have y5:=am A;have y6:=am (bV t (X.getD i mq).v (X.getD i mq).n);rw[bZ]at y6;have y7:=jg (t:=t) (v:=(X.getD i mq).v) (n:=(X.getD i mq).n) (w:=((t.length+(X.getD i mq).n)/8)) rfl;have y8:=eJ (A:=A) (t:=t) (v:=(X.getD i mq).v) (n:=(X.getD i mq).n) (w:=((t.length+(X.getD i mq).n)/8)) hA rfl;omega)):p:=h
theorem UJ {p:Prop}(h:p:=by(have y4:=congrArg length hB2;rw[U2,dt X.length (Vd _)]at y4;have y5:=am A2;have y6:=congrArg length hZ2.h;rw[Vg,VH,am]at y6;have y3:=dt (P:=P) (X:=X) X.length (Vd _);have y7:=am (tT P X X.length);omega)):p:=h
structure OfV (a kd:Nat)(raw:Z1)(r:Nat)(l:List Tn)(k:Nat)(last:Bool)(X:List Nm):Prop where
 s:S0 65 [nD a,fP kd,.sl false r 1 (raw.map dB),.sl false k 3 (l.flatMap b5),bD last] [] (.ptr 0 0 0) [⟨[.ref 1 1 0 X.length 2], 123,false⟩,⟨X.flatMap bb, 126,true⟩]
 ok:∀i,(X.getD i mq).v<2^(X.getD i mq).n∧(X.getD i mq).n<=32
 len:X.length<=1000000
theorem T0 (a kd:Nat)(raw:Z1)(r:Nat)(l:List Tn)(k:Nat)(last:Bool)(X:List Nm)(hO:OfV a kd raw r l k last X):S0 65 [nD a,fP kd,.sl false r 1 (raw.map dB),.sl false k 3 (l.flatMap b5),bD last] [] (.ptr 0 0 0) [⟨[.ref 1 1 0 X.length 2], 123,false⟩,⟨X.flatMap bb, 126,true⟩]:=hO.s
theorem T3 (P:List Bool)(kd:Nat)(raw:Z1)(r:Nat)(l:List Tn)(k:Nat)(last:Bool)(X:List Nm)(hO:OfV (P.length%8) kd raw r l k last X):S0 65 [iD ((P.length:Int)%8),fP kd,.sl false r 1 (raw.map dB),.sl false k 3 (l.flatMap b5),bD last] [] (.ptr 0 0 0) [⟨[.ref 1 1 0 X.length 2], 123,false⟩,⟨X.flatMap bb, 126,true⟩]:=by
 have h:=hO.s
 rwa [show nD (P.length%8)=iD ((P.length:Int)%8)from congrArg (λ z=>D.v (.int .i64 z)) om]at h
def tT (P:List Bool)(X:List Nm)(i:Nat):List Bool:=lk X (P++(X.take i).flatMap λ x=>nb x.v x.n)
theorem tJ (P:List Bool)(X:List Nm)(i:Nat):tT P X i=P++(X.take i).flatMap λ x=>nb x.v x.n:=au _ _
theorem JR (P:List Bool)(X:List Nm):tT P X 0=P:=by rw[tJ];exact VS _
theorem JS {P:List Bool}{X:List Nm}{i:Nat}(h:i<X.length):tT P X (i+1)=tT P X i++nb (X.getD i mq).v (X.getD i mq).n:=by
 have e1:X.take (i+1)=X.take i++[X.getD i mq]:=by
  rw[VT h,UZ,U4 h];rfl
 rw[tJ,tJ,e1,WL,Xx,Ve]
theorem dt {P:List Bool}{X:List Nm}:∀i,i<=X.length->(tT P X i).length=P.length+rg X i
 |0,_=>by rw[JR];rfl
 |i+1,h=>by rw[JS om,U2,bf,dt i om,rg,Wh]
theorem vW (X:List Nm)(i:Nat):∀k,rg X i<=rg X (i+k)
 |0=>Vd _
 |k+1=>Vq (vW X i k) (by show _<=rg X (i+k)+_;omega)
theorem eI {X:List Nm}{i n:Nat}(h:i<n):rg X i+(X.getD i mq).n<=rg X n:=by
 have:=vW X (i+1) (n-(i+1));rw[show i+1+(n-(i+1))=n from by omega]at this;exact this
structure PkE (Y:Z1)(l:List Bool):Prop where
 h:Y=pk l
theorem JT (l:List Bool)(Y:Z1)(hY:PkE Y l)(m:Nat)(hm:m=Y.length)(v n:Nat)(hn:n<=32)(hv:v<2^n)(hl:l.length+n<=8388608):S0 74 [.agg [.sl false m 1 (Y.map dB),nD l.length],.v (.int .u32 (v:Int)),nD n] [] (.tup [.agg [.ref 0 0 0 (pk (bV l v n)).length 1,nD (l.length+n)],iD 0]) [⟨(pk (bV l v n)).map dB, 5,true⟩]:=by
 obtain⟨hY⟩:=hY;subst hY;exact OJ l m hm v n hn hv hl
theorem Q9 (P l:List Bool)(Y:Z1)(hY:PkE Y l)(hl8:l.length=P.length%8)(m:Nat)(hm:m=Y.length)(v n:Nat)(hn:n<=32)(hv:v<2^n)(hl:l.length+n<=8388608):S0 74 [.agg [.sl false m 1 (Y.map dB),iD ((P.length:Int)%8)],.v (.int .u32 (v:Int)),nD n] [] (.tup [.agg [.ref 0 0 0 (pk (bV l v n)).length 1,nD (l.length+n)],iD 0]) [⟨(pk (bV l v n)).map dB, 5,true⟩]:=by
 have h:=JT l Y hY m hm v n hn hv hl
 rwa [show iD ((P.length:Int)%8)=nD l.length from congrArg (λ z=>D.v (.int .i64 z)) om]
theorem zU {k g o o' n n':Nat}{x:Int}{y:Nat}{t:TypeId}(h1:o=o')(h2:n=n')(h3:x=((y:Nat):Int)):(⟨[U6 k g o n 1,D.v (.int .i64 x)],t,false⟩:Blk)=⟨[U6 k g o' n' 1,nD y],t,false⟩:=by subst h1 h2 h3;rfl
section
variable {A t:List Bool} {v n w k:Nat}
theorem jg (hw:w=(t.length+n)/8):((bV t v n).take (8*w)).length=8*w∧((bV t v n).drop (8*w)).length=t.length+n-8*w∧t.length+n-8*w<8:=by
 rw[Vg,VH,bZ];omega
theorem Ey (hA:A.length%8=0)(hk:k=w)(hw:w=(t.length+n)/8):(pk A).map dB++WY dB (VX k (pk (bV t v n)))=(pk (A++(bV t v n).take (8*w))).map dB:=by
 subst hk;rw[iT hA,V4,(lv (l:=bV t v n) (n:=k) (by rw[bZ];omega)).2]
theorem eJ (hA:A.length%8=0)(hw:w=(t.length+n)/8):(pk (A++(bV t v n).take (8*w))).length=(pk A).length+w:=by
 rw[am,am,U2,(jg hw).1];omega
theorem Ra (hA:A.length%8=0)(hw:w=(t.length+n)/8):(A++(bV t v n).take (8*w)).length%8=0:=by
 rw[U2,(jg hw).1];omega
theorem Rb (hw:w=(t.length+n)/8):((bV t v n).drop (8*w)).length<8:=by
 rw[(jg (v:=v) hw).2.1];exact(jg (v:=v) hw).2.2
theorem Rc (hw:w=(t.length+n)/8):PkE (VX ((pk (bV t v n)).length-w) (VW w (pk (bV t v n)))) ((bV t v n).drop (8*w)):=⟨by rw[VB (by rw[VH];exact Vd _)];exact(lv (l:=bV t v n) (n:=w) (by rw[bZ];omega)).1.symm⟩
theorem Rd (hw:w=(t.length+n)/8):w<=(pk (bV t v n)).length:=by rw[am,bZ];omega
theorem Re {P:List Bool}{X:List Nm}{i:Nat}(hB:A++t=tT P X i)(hi:i<X.length)(hv:v=(X.getD i mq).v)(hn:n=(X.getD i mq).n):(A++(bV t v n).take (8*w))++(bV t v n).drop (8*w)=tT P X (i+1):=by
 subst hv hn;rw[Ve,WK,pc,<-Ve,hB,JS hi]
theorem MT {B:List Bool}{o:Nat}{Z:Z1}(hA:A.length%8=0)(hB:A++t=B)(hZ:PkE (VX (Z.length-o) (VW o Z)) t):(pk A).map dB++WY dB (VX (Z.length-o) (VW o Z))=(pk B).map dB:=by
 subst hB;rw[hZ.h,iT hA,V4]
theorem zV (B:Z1)(k:Nat):(bif true&&U5 (k*1) (WY dB B).length then WY dB B else VX (k*1) (VW 0 (WY dB B)))=WY dB (VX k B):=(bj B 0 (k*1)).trans (by simp)
theorem Rf (B:Z1)(o k:Nat):(bif U5 o 0&&U5 (k*1) (WY dB B).length then WY dB B else VX (k*1) (VW o (WY dB B)))=WY dB (VX k (VW o B)):=(bj B o (k*1)).trans (by simp)
theorem zW {n N:Nat}{x:Int}(h:x=n)(h2:n<=N):(aU (some x) none none N&&true)=true:=by
 subst h;simp[aU,du,bi];omega
theorem Ho {n n':Nat}{x:Int}{y:Nat}(h1:n=n')(h2:x=((y:Nat):Int)):V2 [Wp [U6 0 0 0 n 1,D.v (.int .i64 x)],D.v (.int .i64 0)]=V2 [Wp [U6 0 0 0 n' 1,nD y],iD 0]:=by subst h1 h2;rfl
end
def pA (P:List Bool):List Bool:=P.take (8*(P.length/8))
def pT (P:List Bool):List Bool:=P.drop (8*(P.length/8))
theorem gq (P:List Bool):(pA P).length=8*(P.length/8):=by unfold pA;rw[Vg];omega
theorem eK (P:List Bool):(pT P).length=P.length%8:=by unfold pT;rw[VH];omega
theorem qj (P:List Bool):(pA P).length%8=0:=by rw[gq];omega
theorem UK (P:List Bool):pA P++pT P=P:=WK _ _
theorem rE (P:List Bool){k:Nat}(hk:k=P.length/8):PkE (VW k (pk P)) (pT P):=by
 subst hk;exact⟨(lv (l:=P) (n:=P.length/8) om).1.symm⟩
theorem JU (P:List Bool){k:Nat}(hk:k=P.length/8):VX k (pk P)=pk (pA P):=by
 subst hk;exact(lv (l:=P) (n:=P.length/8) om).2.symm
theorem zX (l:List Tn)(k:Nat)(hk:k=l.length)(hk2:k<=65535)(hl:∀i,nA (l.getD i mq))(raw:Z1)(r:Nat)(hr:r=raw.length)(hr2:r<=65535)(kd:Nat)(hkd:kd<=2):S0 64 [fP kd,.sl false r 1 (raw.map dB),.sl false k 3 (l.flatMap b5)] [] (iD 0) []:=by
 match kd,hkd with
 |0,_=>exact GH l k hk hk2 hl raw r hr hr2
 |1,_=>exact GI l k hk hk2 hl raw r hr hr2
 |2,_=>exact GJ l k hk hk2 hl raw r hr hr2
theorem Ez (nn:Bool)(X:List Nm)(n:Nat)(hn:n=X.length)(hn2:n<=1000000)(hX:∀i,(X.getD i mq).v<2^(X.getD i mq).n∧(X.getD i mq).n<=32):S0 66 [.ep [.sl nn n 2 (X.flatMap bb)] 0] [] (nD (CM X)) []:=by
 refine SpecH.run T_ok ah Tryz.func66 rfl rfl rfl trivial rfl 1000 64 (λ R ok=>(.s 11 (Hn.inl T_ok ah false 20 0 (aq Tryz.prog 66 0) (λ(x:(i:Nat)×'(hi:i<=n)×'Unit)=>match x with|⟨i,hi,_⟩=>CutS.mk [(2,nD (rg X i)),(8,Vl nn n 2 (flatMap bb X)),(9,zN n),(10,nD i)] [] 0) (λ(x:(i:Nat)×'(hi:i<=n)×'Unit)=>match x with|⟨i,hi,_⟩=>n-i) [⟨Unit,.exit 0,λ x=>match x with|()=>CutS.mk [(2,nD (CM X)),(8,Vl nn n 2 (flatMap bb X)),(9,zN n),(10,nD n)] [] 0⟩] 1000 64 (fun|⟨i,hi,_⟩,Q,ZA,ZD=>(.s 2 (.bd ((i:Int)<n) (λ p0 Z7=>(.s 1 (.chk (true&&decide ((i:Int)<n)&&true) (by((refine aI ?_ ?_)<;>(repeat' (first|(refine aI ?_ ?_)|(with_reducible rfl)|(refine decide_eq_true ?_)|(refine U8 ?_)|(refine fw ?_)))<;>(omega))) (.s 2 (.chk (U7 (i*2+2) (length (flatMap bb X))) TZ (.lst (take 2 (drop (i*2) (flatMap bb X))) ([ak (Nm.v (getD X i mq)),zN (Nm.n (getD X i mq))]) (aD (k:=2) (i:=i) (λ _=>rfl) om om) (.s 14 (.op ((↑(rg X i):Int)+(↑(Nm.n (getD X i mq)):Int)) (by(have h8:=IN (λ i=>(hX i).2) i;have h9:=hX i;omega)) (.s 3 (.ow (i+1) (.s 1 (.val 2 (zI ((↑(rg X i):Int)+(↑(Nm.n (getD X i mq)):Int))) (zN (rg X (i+1))) (by(refine aR ?_;rw[rg];omega)) (.val 10 (zI (i+1)) (zN (i+1)) (by(refine aR ?_;(omega))) (Hn.next ZA ⟨(i+1),om,⟨⟩⟩ (by show n-(i+1)<n-i;clear ZA ZD;omega) [] ro)))))))))))))) (λ p0 Z7=>(.val 2 (zN (rg X i)) (zN (CM X)) (by(rw[wV,<-hn,show i=n from by omega])) (.val 10 (zN i) (zN n) (by(refine aR ?_;(omega))) (Hn.last ZD 0 (():Unit) rfl [] ro))))))) (fun|⟨i,hi,_⟩=>by kernel_rfl) ⟨(0),om,⟨⟩⟩ [] ro (ck (fun|()=>(.s 2 (.out [] [] (zN (CM X)) [] R (ok _ _ wr wr)))))))) kr
attribute [local simp] dc
theorem EA (P:List Bool)(m:Nat)(hm:m=(pk P).length)(kd:Nat)(raw:Z1)(r:Nat)(hr:r=raw.length)(hr2:r<=65535)(l:List Tn)(k:Nat)(hk:k=l.length)(hk2:k<=65535)(hl:∀i,nA (l.getD i mq))(last:Bool)(X:List Nm)(hO:OfV (P.length%8) kd raw r l k last X)(hN0:0<X.length)(hP:P.length+CM X<=8388608)(hkd:kd<=2):S0 57 [Nb m P,fP kd,.sl false r 1 (raw.map dB),.sl false k 3 (l.flatMap b5),bD last] [] (.tup [.agg [.ref 0 0 0 (pk (tT P X X.length)).length 1,nD (tT P X X.length).length],iD 0]) [⟨(pk (tT P X X.length)).map dB, 5,true⟩]:=by
 have hX:=hO.ok;have hXl:=hO.len;have hPl:=am P;have hS:=wV X;have hp0:=rE P (k:=((P.length:Int)/8).toNat) om;have hcl:ab (X.flatMap bb)=true:=fO (λ _=>rfl) X;refine SpecH.run T_ok ah Tryz.func57 rfl rfl rfl ⟨bn _,trivial⟩ rfl 1000 64 (λ R ok=>(.s 10 (.cl 43 false [] (.fn RI (@sC (P) (m) om om)) (.s 9 (.cl 64 false [] (.fn Uo (@zX (l) (k) om om om (raw) (r) om om (kd) om)) (.s 13 (.opt (bY VN (XK (↑(length P):Int) 8)) (zI ((↑(length P):Int)%8)) (aQ (@ee  ((↑(length P):Int)) (8) om)) (.s 5 (.cl 65 false [] (.fn Uq (@T3 (P) (kd) (raw) (r) (l) (k) (last) (X) aF)) (.s 10 (.call 66 false [] (true&&(true&&(true&&U7 (0+length X*2) (length (flatMap bb X))&&true&&ab (bif true&&U5 (length X*2) (length (flatMap bb X))then flatMap bb X else take (length X*2) (drop 0 (flatMap bb X)))&&true))&&true) (by(simp only[dc,VK,Wo,Bool.and_self,cond_true,VM,VV,hcl,W8];omega)) ([D.ep [Vl (U7 1 (length X)) (length X) 2 (bif true&&U5 (length X*2) (length (flatMap bb X))then flatMap bb X else take (length X*2) (drop 0 (flatMap bb X)))] 0]) _ (by exact(VR (D.sim.of_eq (by(rw[dc];simp;done))) trivial)) (true) wr _ _ _ (VC (az.of Tryz.func66 rfl rfl) (@Ez (U7 1 (length X)) (X) (length X) om om om)) (.s 2 (.ow ((↑(length P):Int)+(↑(CM X):Int)) (.s 2 (.f (decide (8388608<(↑(length P):Int)+(↑(CM X):Int))) Nk (.s 8 (.opt (bY VN (Vo VN (Yr (↑(length P):Int) 8))) (zI ((↑(length P):Int)/8)) (aQ (@cF  ((↑(length P):Int)) (8) om om)) (.s 9 (.chk (aU none (some ((↑(length P):Int)/8)) none m&&true) Nk (.s 1 (.call 56 false [] (true) wr ([Vl false (AB ((↑(length P):Int)/8)) 1 (take (AB ((↑(length P):Int)/8)*1) (map dB (pk P)))]) _ (by exact(VR (D.sim.slw rfl (by(have q:=rE P (k:=((P.length:Int)/8).toNat) om;first|(simp;done)|simpa using q))) trivial)) (true) wr _ _ _ (VC (az.of Tryz.func56 rfl rfl) (@ja (take (AB ((↑(length P):Int)/8)) (pk P)) (AB ((↑(length P):Int)/8)) UF om)) (.s 10 (.chk (aU (some ((↑(length P):Int)/8)) none none m&&true) Nk (.s 8 (.opt (bY VN (XK (↑(length P):Int) 8)) (zI ((↑(length P):Int)%8)) (aQ (@ee  ((↑(length P):Int)) (8) om)) (.s 17 (.two (.s 2 (.t (decide (0<(↑(length X):Int))) Nk (.s 1 (.chk (true&&decide (0<(↑(length X):Int))) Nk (.s 2 (.chk (U7 2 (length (flatMap bb X))) TZ (.lst (take 2 (drop 0 (flatMap bb X))) ([ak (Nm.v (getD X 0 mq)),zN (Nm.n (getD X 0 mq))]) (aD (k:=2) (i:=0) (λ _=>rfl) om om) (.s 22 (.call 74 false [] (true) wr ([Wp [Vl false (m-AB ((↑(length P):Int)/8)) 1 (drop (AB ((↑(length P):Int)/8)*1) (map dB (pk P))),zI ((↑(length P):Int)%8)],ak (Nm.v (getD X 0 mq)),zN (Nm.n (getD X 0 mq))]) _ (by exact(VR (D.sim.agg (VR (D.sim.slw rfl (by(have q:=rE P (k:=((P.length:Int)/8).toNat) om;first|(simp;done)|simpa using q))) (qr trivial))) (qr (qr trivial)))) (true) wr _ _ _ (VC (az.of Tryz.func74 rfl rfl) (@Q9 (P) (pT P) (drop (AB ((↑(length P):Int)/8)) (pk P)) aF (by(exact eK P)) (m-AB ((↑(length P):Int)/8)) Nk (Nm.v (getD X 0 mq)) (Nm.n (getD X 0 mq)) (by(exact(hX _).2)) (by(exact(hX _).1)) UG)) (.s 16 (.opt (bY VN (Vo VN (Yr (↑(length (pT P)+Nm.n (getD X 0 mq)):Int) 8))) (zI ((↑(length (pT P)+Nm.n (getD X 0 mq)):Int)/8)) (aQ (@cF  ((↑(length (pT P)+Nm.n (getD X 0 mq)):Int)) (8) UG om)) (.s 10 (.chk (aU none (some ((↑(length (pT P)+Nm.n (getD X 0 mq)):Int)/8)) none (length (pk (bV (pT P) (Nm.v (getD X 0 mq)) (Nm.n (getD X 0 mq)))))&&true) (by(have y1:=hX 0;have y2:=eI (X:=X) (i:=0) (n:=X.length) om;have y5:=eK P;have y6:=am (bV (pT P) (X.getD 0 mq).v (X.getD 0 mq).n);rw[bZ]at y6;have y7:=jg (t:=pT P) (v:=(X.getD 0 mq).v) (n:=(X.getD 0 mq).n) (w:=(((pT P).length+(X.getD 0 mq).n)/8)) rfl;have y8:=eJ (A:=pA P) (t:=pT P) (v:=(X.getD 0 mq).v) (n:=(X.getD 0 mq).n) (w:=(((pT P).length+(X.getD 0 mq).n)/8)) (qj P) rfl;have y9:=gq P;have y4:=am (pA P);exact ri (n:=(((pT P).length+(X.getD 0 mq).n)/8)) om om)) (.s 1 (.chk (true&&U5 (AB ((↑(length P):Int)/8)*1) (length (map dB (take (AB ((↑(length P):Int)/8)) (pk P))))&&true&&(true&&U7 (0+AB ((↑(length (pT P)+Nm.n (getD X 0 mq)):Int)/8)*1) (length (map dB (pk (bV (pT P) (Nm.v (getD X 0 mq)) (Nm.n (getD X 0 mq)))))))&&true&&true&&U7 ((AB ((↑(length P):Int)/8)+AB ((↑(length (pT P)+Nm.n (getD X 0 mq)):Int)/8))*1) 140737488355328) UF (.s 10 (.chk (aU (some ((↑(length (pT P)+Nm.n (getD X 0 mq)):Int)/8)) none none (length (pk (bV (pT P) (Nm.v (getD X 0 mq)) (Nm.n (getD X 0 mq)))))&&true) (by(have y1:=hX 0;have y2:=eI (X:=X) (i:=0) (n:=X.length) om;have y5:=eK P;have y6:=am (bV (pT P) (X.getD 0 mq).v (X.getD 0 mq).n);rw[bZ]at y6;have y7:=jg (t:=pT P) (v:=(X.getD 0 mq).v) (n:=(X.getD 0 mq).n) (w:=(((pT P).length+(X.getD 0 mq).n)/8)) rfl;have y8:=eJ (A:=pA P) (t:=pT P) (v:=(X.getD 0 mq).v) (n:=(X.getD 0 mq).n) (w:=(((pT P).length+(X.getD 0 mq).n)/8)) (qj P) rfl;have y9:=gq P;have y4:=am (pA P);exact zW (n:=(((pT P).length+(X.getD 0 mq).n)/8)) om om)) (.s 8 (.opt (bY VN (XK (↑(length (pT P)+Nm.n (getD X 0 mq)):Int) 8)) (zI ((↑(length (pT P)+Nm.n (getD X 0 mq)):Int)%8)) (aQ (@ee  ((↑(length (pT P)+Nm.n (getD X 0 mq)):Int)) (8) om)) (.s 9 (.val 16 (U6 640 640 0 (AB ((↑(length P):Int)/8)+AB ((↑(length (pT P)+Nm.n (getD X 0 mq)):Int)/8)) 1) (U6 640 640 0 (length (pk (pA P++take (8*((length (pT P)+Nm.n (getD X 0 mq))/8)) (bV (pT P) (Nm.v (getD X 0 mq)) (Nm.n (getD X 0 mq)))))) 1) (by(refine congrArg (λ n=>U6 _ _ 0 n 1) ?_;have y1:=hX 0;have y2:=eI (X:=X) (i:=0) (n:=X.length) om;have y5:=eK P;have y6:=am (bV (pT P) (X.getD 0 mq).v (X.getD 0 mq).n);rw[bZ]at y6;have y7:=jg (t:=pT P) (v:=(X.getD 0 mq).v) (n:=(X.getD 0 mq).n) (w:=(((pT P).length+(X.getD 0 mq).n)/8)) rfl;have y8:=eJ (A:=pA P) (t:=pT P) (v:=(X.getD 0 mq).v) (n:=(X.getD 0 mq).n) (w:=(((pT P).length+(X.getD 0 mq).n)/8)) (qj P) rfl;have y9:=gq P;have y4:=am (pA P);omega)) (.blk 384 384 (U1 [U6 528 528 (0+AB ((↑(length (pT P)+Nm.n (getD X 0 mq)):Int)/8)*1) (length (pk (bV (pT P) (Nm.v (getD X 0 mq)) (Nm.n (getD X 0 mq))))-AB ((↑(length (pT P)+Nm.n (getD X 0 mq)):Int)/8)) 1,zI ((↑(length (pT P)+Nm.n (getD X 0 mq)):Int)%8)] 26 false) (U1 [U6 528 528 ((length (pT P)+Nm.n (getD X 0 mq))/8) (length (pk (bV (pT P) (Nm.v (getD X 0 mq)) (Nm.n (getD X 0 mq))))-(length (pT P)+Nm.n (getD X 0 mq))/8) 1,zN (length (drop (8*((length (pT P)+Nm.n (getD X 0 mq))/8)) (bV (pT P) (Nm.v (getD X 0 mq)) (Nm.n (getD X 0 mq)))))] 26 false) (by(refine zU ?_ ?_ ?_<;>(have y1:=hX 0;have y2:=eI (X:=X) (i:=0) (n:=X.length) om;have y5:=eK P;have y6:=am (bV (pT P) (X.getD 0 mq).v (X.getD 0 mq).n);rw[bZ]at y6;have y7:=jg (t:=pT P) (v:=(X.getD 0 mq).v) (n:=(X.getD 0 mq).n) (w:=(((pT P).length+(X.getD 0 mq).n)/8)) rfl;have y8:=eJ (A:=pA P) (t:=pT P) (v:=(X.getD 0 mq).v) (n:=(X.getD 0 mq).n) (w:=(((pT P).length+(X.getD 0 mq).n)/8)) (qj P) rfl;have y9:=gq P;have y4:=am (pA P);omega))) (.blk 640 640 (U1 (map dB (take (AB ((↑(length P):Int)/8)) (pk P))++bif true&&U5 (AB ((↑(length (pT P)+Nm.n (getD X 0 mq)):Int)/8)*1) (length (map dB (pk (bV (pT P) (Nm.v (getD X 0 mq)) (Nm.n (getD X 0 mq))))))then map dB (pk (bV (pT P) (Nm.v (getD X 0 mq)) (Nm.n (getD X 0 mq))))else take (AB ((↑(length (pT P)+Nm.n (getD X 0 mq)):Int)/8)*1) (drop 0 (map dB (pk (bV (pT P) (Nm.v (getD X 0 mq)) (Nm.n (getD X 0 mq))))))) 5 true) (U1 (map dB (pk (pA P++take (8*((length (pT P)+Nm.n (getD X 0 mq))/8)) (bV (pT P) (Nm.v (getD X 0 mq)) (Nm.n (getD X 0 mq)))))) 5 true) (by(rw[JU P om,zV];refine aB (Ey (qj P) ?_ rfl);omega)) (Hn.inl T_ok ah false 113 0 (aq Tryz.prog 57 0) (λ(x:(i:Nat)×'(A:List Bool)×'(t:List Bool)×'(Z:Z1)×'(o:Nat)×'(hi:1<=i∧i<=X.length)×'(hA:A.length%8=0)×'(ht:t.length<8)×'(hB:A++t=tT P X i)×'(hZ:PkE (take (Z.length-o) (drop o Z)) t)×'(ho:o<=Z.length)×'Unit)=>match x with|⟨i,A,t,Z,o,hi,hA,ht,hB,hZ,ho,_⟩=>CutS.mk [(10,Vh 0 0 0),(16,(U6 32 32 (0) ((pk A).length) 1)),(17,Vh 16 16 0),(69,U6 8 8 0 (length X) 2),(70,zN (length X)),(71,nD i)] [⟨0,0,8,8,.b ⟨[zS,zI 0],26,false⟩⟩,⟨8,8,177,177,.b ⟨flatMap bb X,126,true⟩⟩,⟨16,16,384,384,.b ⟨[(U6 24 24 (o) (Z.length-o) 1),nD t.length],26,false⟩⟩,⟨24,24,528,528,.b ⟨Z.map dB,5,true⟩⟩,⟨32,32,640,640,.b ⟨(pk A).map dB,5,true⟩⟩] 40) (λ(x:(i:Nat)×'(A:List Bool)×'(t:List Bool)×'(Z:Z1)×'(o:Nat)×'(hi:1<=i∧i<=X.length)×'(hA:A.length%8=0)×'(ht:t.length<8)×'(hB:A++t=tT P X i)×'(hZ:PkE (take (Z.length-o) (drop o Z)) t)×'(ho:o<=Z.length)×'Unit)=>match x with|⟨i,A,t,Z,o,hi,hA,ht,hB,hZ,ho,_⟩=>X.length-i) [⟨(A2:List Bool)×'(t2:List Bool)×'(Z2:Z1)×'(o2:Nat)×'(hA2:A2.length%8=0)×'(hB2:A2++t2=tT P X X.length)×'(hZ2:PkE (take (Z2.length-o2) (drop o2 Z2)) t2)×'(ho2:o2<=Z2.length)×'Unit,.exit 0,λ x=>match x with|⟨A2,t2,Z2,o2,hA2,hB2,hZ2,ho2,_⟩=>CutS.mk [(10,Vh 0 0 0),(16,(U6 32 32 (0) ((pk A2).length) 1)),(17,Vh 16 16 0),(69,U6 8 8 0 (length X) 2),(70,zN (length X))] [⟨0,0,8,8,.b ⟨[zS,zI 0],26,false⟩⟩,⟨8,8,177,177,.b ⟨flatMap bb X,126,true⟩⟩,⟨16,16,384,384,.b ⟨[(U6 24 24 (o2) (Z2.length-o2) 1),nD t2.length],26,false⟩⟩,⟨24,24,528,528,.b ⟨Z2.map dB,5,true⟩⟩,⟨32,32,640,640,.b ⟨(pk A2).map dB,5,true⟩⟩] 40⟩] 1000 64 (fun|⟨i,A,t,Z,o,hi,hA,ht,hB,hZ,ho,_⟩,Q,ZA,ZD=>(.s 2 (.bd ((i:Int)<(↑(length X):Int)) (λ p0 Z7=>(.s 1 (.chk (true&&decide ((i:Int)<(↑(length X):Int))) aF (.s 2 (.chk (U7 (0+i*2+2) (length (flatMap bb X))) TZ (.lst (take 2 (drop (0+i*2) (flatMap bb X))) ([ak (Nm.v (getD X i mq)),zN (Nm.n (getD X i mq))]) (aD (k:=2) (i:=i) (λ _=>rfl) om om) (.s 22 (.call 74 false [] (true&&(true&&U7 (o+(length Z-o)*1) (length (map dB Z))&&true&&ab (bif U5 o 0&&U5 ((length Z-o)*1) (length (map dB Z))then map dB Z else take ((length Z-o)*1) (drop o (map dB Z))))&&true&&true) (by(simp[aU,du,bi];have y1:=hX i;have y2:=eI (X:=X) (i:=i) (n:=X.length) om;have y3:=dt (P:=P) (X:=X) i om;have y4:=congrArg length hB;rw[U2]at y4;have y5:=am A;have y6:=am (bV t (X.getD i mq).v (X.getD i mq).n);rw[bZ]at y6;have y7:=jg (t:=t) (v:=(X.getD i mq).v) (n:=(X.getD i mq).n) (w:=((t.length+(X.getD i mq).n)/8)) rfl;have y8:=eJ (A:=A) (t:=t) (v:=(X.getD i mq).v) (n:=(X.getD i mq).n) (w:=((t.length+(X.getD i mq).n)/8)) hA rfl;omega)) ([Wp [Vl (U7 1 (length Z-o)) (length Z-o) 1 (bif U5 o 0&&U5 ((length Z-o)*1) (length (map dB Z))then map dB Z else take ((length Z-o)*1) (drop o (map dB Z))),zN (length t)],ak (Nm.v (getD X i mq)),zN (Nm.n (getD X i mq))]) _ (by exact(VR (D.sim.agg (VR (D.sim.slw rfl ((bj (Z) (o) ((length Z-o)*1)).trans (by(have q:=rE P (k:=((P.length:Int)/8).toNat) om;first|(simp;done)|simpa using q)))) (qr trivial))) (qr (qr trivial)))) (true) wr _ _ _ (VC (az.of Tryz.func74 rfl rfl) (@JT (t) (take (length Z-o) (drop o Z)) om (length Z-o) UH (Nm.v (getD X i mq)) (Nm.n (getD X i mq)) (by(exact(hX _).2)) (by(exact(hX _).1)) UI)) (.s 16 (.opt (bY VN (Vo VN (Yr (↑(length t+Nm.n (getD X i mq)):Int) 8))) (zI ((↑(length t+Nm.n (getD X i mq)):Int)/8)) (aQ (@cF  ((↑(length t+Nm.n (getD X i mq)):Int)) (8) UI om)) (.s 10 (.chk (aU none (some ((↑(length t+Nm.n (getD X i mq)):Int)/8)) none (length (pk (bV t (Nm.v (getD X i mq)) (Nm.n (getD X i mq)))))&&true) (by(have y1:=hX i;have y2:=eI (X:=X) (i:=i) (n:=X.length) om;have y3:=dt (P:=P) (X:=X) i om;have y4:=congrArg length hB;rw[U2]at y4;have y5:=am A;have y6:=am (bV t (X.getD i mq).v (X.getD i mq).n);rw[bZ]at y6;have y7:=jg (t:=t) (v:=(X.getD i mq).v) (n:=(X.getD i mq).n) (w:=((t.length+(X.getD i mq).n)/8)) rfl;have y8:=eJ (A:=A) (t:=t) (v:=(X.getD i mq).v) (n:=(X.getD i mq).n) (w:=((t.length+(X.getD i mq).n)/8)) hA rfl;exact ri (n:=((t.length+(X.getD i mq).n)/8)) om om)) (.s 1 (.chk (true&&U5 (length (pk A)*1) (length (map dB (pk A)))&&true&&(true&&U7 (0+AB ((↑(length t+Nm.n (getD X i mq)):Int)/8)*1) (length (map dB (pk (bV t (Nm.v (getD X i mq)) (Nm.n (getD X i mq)))))))&&true&&true&&U7 ((length (pk A)+AB ((↑(length t+Nm.n (getD X i mq)):Int)/8))*1) 140737488355328) (by(have y1:=hX i;have y2:=eI (X:=X) (i:=i) (n:=X.length) om;have y3:=dt (P:=P) (X:=X) i om;have y4:=congrArg length hB;rw[U2]at y4;have y5:=am A;have y6:=am (bV t (X.getD i mq).v (X.getD i mq).n);rw[bZ]at y6;have y7:=jg (t:=t) (v:=(X.getD i mq).v) (n:=(X.getD i mq).n) (w:=((t.length+(X.getD i mq).n)/8)) rfl;have y8:=eJ (A:=A) (t:=t) (v:=(X.getD i mq).v) (n:=(X.getD i mq).n) (w:=((t.length+(X.getD i mq).n)/8)) hA rfl;simp only[Vj,Vg,VM,VV,U9,Xk,W8];omega)) (.s 10 (.chk (aU (some ((↑(length t+Nm.n (getD X i mq)):Int)/8)) none none (length (pk (bV t (Nm.v (getD X i mq)) (Nm.n (getD X i mq)))))&&true) (by(have y1:=hX i;have y2:=eI (X:=X) (i:=i) (n:=X.length) om;have y3:=dt (P:=P) (X:=X) i om;have y4:=congrArg length hB;rw[U2]at y4;have y5:=am A;have y6:=am (bV t (X.getD i mq).v (X.getD i mq).n);rw[bZ]at y6;have y7:=jg (t:=t) (v:=(X.getD i mq).v) (n:=(X.getD i mq).n) (w:=((t.length+(X.getD i mq).n)/8)) rfl;have y8:=eJ (A:=A) (t:=t) (v:=(X.getD i mq).v) (n:=(X.getD i mq).n) (w:=((t.length+(X.getD i mq).n)/8)) hA rfl;exact zW (n:=((t.length+(X.getD i mq).n)/8)) om om)) (.s 8 (.opt (bY VN (XK (↑(length t+Nm.n (getD X i mq)):Int) 8)) (zI ((↑(length t+Nm.n (getD X i mq)):Int)%8)) (aQ (@ee  ((↑(length t+Nm.n (getD X i mq)):Int)) (8) om)) (.s 7 (.ow (i+1) (.s 1 (.val 16 (U6 232 232 0 (length (pk A)+AB ((↑(length t+Nm.n (getD X i mq)):Int)/8)) 1) (U6 232 232 0 (length (pk (A++take (8*((length t+Nm.n (getD X i mq))/8)) (bV t (Nm.v (getD X i mq)) (Nm.n (getD X i mq)))))) 1) (by(refine congrArg (λ n=>U6 _ _ 0 n 1) ?_;have y1:=hX i;have y2:=eI (X:=X) (i:=i) (n:=X.length) om;have y3:=dt (P:=P) (X:=X) i om;have y4:=congrArg length hB;rw[U2]at y4;have y5:=am A;have y6:=am (bV t (X.getD i mq).v (X.getD i mq).n);rw[bZ]at y6;have y7:=jg (t:=t) (v:=(X.getD i mq).v) (n:=(X.getD i mq).n) (w:=((t.length+(X.getD i mq).n)/8)) rfl;have y8:=eJ (A:=A) (t:=t) (v:=(X.getD i mq).v) (n:=(X.getD i mq).n) (w:=((t.length+(X.getD i mq).n)/8)) hA rfl;omega)) (.val 71 (zI (i+1)) (zN (i+1)) UH (.blk 16 16 (U1 [U6 120 120 (0+AB ((↑(length t+Nm.n (getD X i mq)):Int)/8)*1) (length (pk (bV t (Nm.v (getD X i mq)) (Nm.n (getD X i mq))))-AB ((↑(length t+Nm.n (getD X i mq)):Int)/8)) 1,zI ((↑(length t+Nm.n (getD X i mq)):Int)%8)] 26 false) (U1 [U6 120 120 ((length t+Nm.n (getD X i mq))/8) (length (pk (bV t (Nm.v (getD X i mq)) (Nm.n (getD X i mq))))-(length t+Nm.n (getD X i mq))/8) 1,zN (length (drop (8*((length t+Nm.n (getD X i mq))/8)) (bV t (Nm.v (getD X i mq)) (Nm.n (getD X i mq)))))] 26 false) (by(refine zU ?_ ?_ ?_<;>(have y1:=hX i;have y2:=eI (X:=X) (i:=i) (n:=X.length) om;have y3:=dt (P:=P) (X:=X) i om;have y4:=congrArg length hB;rw[U2]at y4;have y5:=am A;have y6:=am (bV t (X.getD i mq).v (X.getD i mq).n);rw[bZ]at y6;have y7:=jg (t:=t) (v:=(X.getD i mq).v) (n:=(X.getD i mq).n) (w:=((t.length+(X.getD i mq).n)/8)) rfl;have y8:=eJ (A:=A) (t:=t) (v:=(X.getD i mq).v) (n:=(X.getD i mq).n) (w:=((t.length+(X.getD i mq).n)/8)) hA rfl;omega))) (.blk 232 232 (U1 (map dB (pk A)++bif true&&U5 (AB ((↑(length t+Nm.n (getD X i mq)):Int)/8)*1) (length (map dB (pk (bV t (Nm.v (getD X i mq)) (Nm.n (getD X i mq))))))then map dB (pk (bV t (Nm.v (getD X i mq)) (Nm.n (getD X i mq))))else take (AB ((↑(length t+Nm.n (getD X i mq)):Int)/8)*1) (drop 0 (map dB (pk (bV t (Nm.v (getD X i mq)) (Nm.n (getD X i mq))))))) 5 true) (U1 (map dB (pk (A++take (8*((length t+Nm.n (getD X i mq))/8)) (bV t (Nm.v (getD X i mq)) (Nm.n (getD X i mq)))))) 5 true) (by(rw[zV];refine aB (Ey hA ?_ rfl);omega)) (Hn.next ZA ⟨(i+1),(A++(bV t (X.getD i mq).v (X.getD i mq).n).take (8*((t.length+(X.getD i mq).n)/8))),((bV t (X.getD i mq).v (X.getD i mq).n).drop (8*((t.length+(X.getD i mq).n)/8))),(pk (bV t (X.getD i mq).v (X.getD i mq).n)),(((t.length+(X.getD i mq).n)/8)),om,(by(exact Ra hA rfl)),(by(exact Rb rfl)),(by(exact Re hB om rfl rfl)),(by(exact Rc rfl)),(by(exact Rd rfl)),⟨⟩⟩ (by show length X-(i+1)<length X-i;clear ZA ZD;omega) [(0,0),(8,8),(16,16),(120,120),(232,232)] ro)))))))))))))))))))))))))) (λ p0 Z7=>(Hn.last ZD 0 (⟨(A),(t),(Z),(o),om,(by(rw[hB,show i=X.length from by omega])),om,om,⟨⟩⟩:(A2:List Bool)×'(t2:List Bool)×'(Z2:Z1)×'(o2:Nat)×'(hA2:A2.length%8=0)×'(hB2:A2++t2=tT P X X.length)×'(hZ2:PkE (take (Z2.length-o2) (drop o2 Z2)) t2)×'(ho2:o2<=Z2.length)×'Unit) rfl [(0,0),(8,8),(16,16),(24,24),(32,32)] ro))))) (fun|⟨i,A,t,Z,o,hi,hA,ht,hB,hZ,ho,_⟩=>by kernel_rfl) ⟨(1),(pA P++(bV (pT P) (X.getD 0 mq).v (X.getD 0 mq).n).take (8*(((pT P).length+(X.getD 0 mq).n)/8))),((bV (pT P) (X.getD 0 mq).v (X.getD 0 mq).n).drop (8*(((pT P).length+(X.getD 0 mq).n)/8))),(pk (bV (pT P) (X.getD 0 mq).v (X.getD 0 mq).n)),((((pT P).length+(X.getD 0 mq).n)/8)),om,(by(exact Ra (qj P) rfl)),(by(exact Rb rfl)),(by(exact Re (A:=pA P) (t:=pT P) (by rw[UK,JR]) om rfl rfl)),(by(exact Rc rfl)),(by(exact Rd rfl)),⟨⟩⟩ [(8,8),(177,177),(384,384),(528,528),(640,640)] ro (ck (fun|⟨A2,t2,Z2,o2,hA2,hB2,hZ2,ho2,_⟩=>(.s 9 (.chk (true&&U5 (length (pk A2)*1) (length (map dB (pk A2)))&&true&&(true&&U7 (o2+(length Z2-o2)*1) (length (map dB Z2)))&&true&&true&&U7 ((length (pk A2)+(length Z2-o2))*1) 140737488355328) (by(have y4:=congrArg length hB2;rw[U2,dt X.length (Vd _)]at y4;have y5:=am A2;have y6:=congrArg length hZ2.h;rw[Vg,VH,am]at y6;have y3:=dt (P:=P) (X:=X) X.length (Vd _);have y7:=am (tT P X X.length);simp only[Vj,Vg,VM,VV,U9,Xk,W8];omega)) (.s 4 (.op (8*(↑(length (pk A2)):Int)) UJ (.s 8 (.op (8*(↑(length (pk A2)):Int)+(↑(length t2):Int)) UJ (.s 9 (.out [64] [64] (V2 [Wp [U6 0 0 0 (length (pk A2)+(length Z2-o2)) 1,zI (8*(↑(length (pk A2)):Int)+(↑(length t2):Int))],zI 0]) [U1 (map dB (pk A2)++bif U5 o2 0&&U5 ((length Z2-o2)*1) (length (map dB Z2))then map dB Z2 else take ((length Z2-o2)*1) (drop o2 (map dB Z2))) 5 true] R (ok _ _ (by(have y4:=congrArg length hB2;rw[U2,dt X.length (Vd _)]at y4;have y5:=am A2;have y6:=congrArg length hZ2.h;rw[Vg,VH,am]at y6;have y3:=dt (P:=P) (X:=X) X.length (Vd _);have y7:=am (tT P X X.length);refine Ho ?_ ?_<;>(first|omega|(rw[show IntKind.i64.wrap (8*((pk A2).length:Int))=8*((pk A2).length:Int)from Ou om,Ou om];omega)))) (by(rw[Rf];exact congrArg (λ z=>[U1 z 5 true]) (MT hA2 hB2 hZ2)))))))))))))))))))))))))))))))))))))) .nil))))))))))))))))))))))))))) kr
end Vp
end Go.Proofs.YtefjnofhgkjpmaaGreat
namespace Go.Proofs.YtefjnofhgkjpmaaGreat
open Go.RowKit Go.Bw Go.Vx
open List (length getD map take drop flatMap replicate)
namespace Vp
theorem RY {p:Prop}(h:p:=by exact(qr (qr (qr (qr trivial))))):p:=h
theorem RZ {p:Prop}(h:p:=by(refine T4 ?_;rw[xF];unfold Rk;split<;>split<;>omega)):p:=h
def sm (X:List Nm):Nat:=(X.map Nm.n).sum
theorem cw (X Y:List Nm):sm (X++Y)=sm X+sm Y:=by unfold sm;rw[V4,List.sum_append]
theorem mb (x:Nm)(X:List Nm):sm (x::X)=x.n+sm X:=by unfold sm;rw[WM,List.sum_cons]
theorem MU:sm []=0:=rfl
theorem EB (X:List Nm):∀i,i<=X.length->rg X i=sm (X.take i)
 |0,_=>rfl
 |i+1,h=>by
  have e1:X.take (i+1)=X.take i++[X.getD i mq]:=by
   rw[VT h,UZ,U4 h];rfl
  rw[rg,EB X i om,e1,cw,mb,MU,Nat.add_zero]
theorem xx (X:List Nm):CM X=sm X:=by rw[wV,EB X _ (Vd _),VB (Vd _)]
theorem EC {c:Nat}:∀{X:List Nm},(∀x∈X,x.n<=c)->sm X<=c*X.length
 |[],_=>VI _
 |x::X,h=>by
  have:=h x Vr;have ih:=EC λ y hy=>h y (Vy _ hy)
  rw[mb,VE,XD];omega
theorem JV {α:Type}{g:α->List Nm}{c:Nat}:∀{l:List α},(∀x∈l,sm (g x)<=c)->sm (l.flatMap g)<=c*l.length
 |[],_=>VI _
 |x::l,h=>by
  have:=h x Vr;have ih:=JV λ y hy=>h y (Vy _ hy)
  rw[Wf,cw,VE,XD];omega
theorem vX {C:List (Nat×Nat)}(hC:pm C)(s n x:Nat):sm (f6 C s n x)<=15+n:=by
 have:=(hC s).1;show(C.getD s mq).2+(n+0)<=_;omega
theorem Rg {A B:List (Nat×Nat)}(hA:pm A)(hB:pm B)(t:Tn):sm (mG aw aC A B t)<=56:=by
 unfold mG
 split
 ·exact Vq (vX hA _ _ _) (by decide)
 ·have s1:=(cm (ao aw t.long)).1
  have s2:=(cG (ao aC t.dist)).1;have a:=vX hA (257+ao aw t.long) (aw.getD (ao aw t.long) mq).bits (t.long-(aw.getD (ao aw t.long) mq).least);have b:=vX hB (ao aC t.dist) (aC.getD (ao aC t.dist) mq).bits (t.dist-(aC.getD (ao aC t.dist) mq).least);rw[cw];omega
theorem ED {A B:List (Nat×Nat)}(hA:pm A)(hB:pm B)(H:List Nm)(l:List Tn):sm (a9 aw aC A B H l l.length)<=sm H+56*l.length:=by
 rw[fg,cw,VB (Vd _)];have:=JV (g:=mG aw aC A B) (c:=56) (l:=l) λ t _=>Rg hA hB t
 omega
theorem xy {a kd:Nat}{raw:Z1}{l:List Tn}{e:Nat}(he:e<=1)(hr:raw.length<=65535)(hk:l.length<=65535):sm (nB a kd raw l e)<=3800000:=by
 rw[gW]
 split
 ·have h1:=DP (a:=a) he hr
  unfold nj at h1 ⊢;rw[fK,cw];have h2:sm ((raw.take raw.length).map vb)<=8*((raw.take raw.length).map vb).length:=EC λ x hx=>by
   obtain⟨y,_,rfl⟩:=List.mem_map.1 hx;exact Vd 8
  rw[Vj,Vg,Nat.min_self]at h2;have h3:=tD a;have h4:sm (Pb e a raw.length)=1+(2+(gv a+(16+(16+0)))):=rfl;omega
 ·split
  ·rw[i4,cw]
   have h1:=ED (fj dj) (fj fC) (kx e 1) l;have h2:=vX (fj dj) 256 0 0;have h3:sm (kx e 1)=3:=rfl;omega
  ·have G:=DQ l hk
   rw[i5,cw];have h1:=ED G.oL G.oB (zz e l) l;have h2:=vX G.oL 256 0 0;have h3:=EC (c:=32) (X:=zz e l) λ x hx=>(zC he hk x hx).2
   have h4:=zD (e:=e) hk;omega
def aT (P:List Bool)(kd:Nat)(raw:Z1)(l:List Tn)(e:Nat):List Bool:=lk P (P++(nB (P.length%8) kd raw l e).flatMap λ x=>nb x.v x.n)
theorem xz (P:List Bool)(kd:Nat)(raw:Z1)(l:List Tn)(e:Nat):aT P kd raw l e=P++(nB (P.length%8) kd raw l e).flatMap λ x=>nb x.v x.n:=au _ _
theorem EE (P:List Bool)(kd:Nat)(raw:Z1)(l:List Tn)(e:Nat):tT P (nB (P.length%8) kd raw l e) (nB (P.length%8) kd raw l e).length=aT P kd raw l e:=by
 rw[tJ,xz,VB (Vd _)]
def tK (a kd:Nat)(raw:Z1)(l:List Tn):Nat:=lk l (sm (nB a kd raw l 0))
theorem pW (a kd:Nat)(raw:Z1)(l:List Tn):tK a kd raw l=sm (nB a kd raw l 0):=au _ _
theorem zY (e k:Nat):sm (kx e k)=3:=rfl
theorem tL {α:Type}(H:List Nm)(g:α->List Nm)(l:List α)(i:Nat):sm (f8 H g l i)=sm H+sm ((l.take i).flatMap g):=by rw[jK,cw]
theorem JW (a kd:Nat)(raw:Z1)(l:List Tn)(e:Nat):sm (nB a kd raw l e)=sm (nB a kd raw l 0):=by
 rw[gW,gW]
 by_cases h0:kd=0
 ·rw[ZF h0,ZF h0];unfold nj;rw[fK,fK,cw,cw];rfl
 ·rw[ZE h0,ZE h0]
  by_cases h1:kd=1
  ·rw[ZF h1,ZF h1,i4,i4,cw,cw,fg,fg,cw,cw,zY,zY]
  ·rw[ZE h1,ZE h1,i5,i5,cw,cw,fg,fg,cw,cw,mQ,mQ,tL,tL,tL,tL,cw,cw,zY,zY]
theorem vY:∀X:List Nm,(X.flatMap λ x=>nb x.v x.n).length=sm X
 |[]=>rfl
 |x::X=>by rw[Wf,U2,bf,vY X,mb]
theorem zZ (P:List Bool)(kd:Nat)(raw:Z1)(l:List Tn)(e:Nat):(aT P kd raw l e).length=P.length+tK (P.length%8) kd raw l:=by
 rw[xz,U2,vY,JW,pW]
theorem tM {a kd:Nat}{raw:Z1}{l:List Tn}(hr:raw.length<=65535)(hk:l.length<=65535):tK a kd raw l<=3800000:=by rw[pW];exact xy (VI 1) hr hk
theorem EF {a kd:Nat}(ha:a<=7)(hkd:kd<=2){raw:Z1}{r:Nat}(hr:r=raw.length)(hr2:r<=65535){l:List Tn}{k:Nat}(hk:k=l.length)(hk2:k<=65535)(hl:∀i,nA (l.getD i mq))(last:Bool):OfV a kd raw r l k last (nB a kd raw l (if last then 1 else 0)):=by
 subst hr hk;have he:(if last then 1 else 0)<=1:=by cases last<;>decide
 exact⟨TO a kd ha hkd raw hr2 l hk2 (λ i=>(hl i).may) last,λ i=>L5 (L8 he hr2 hk2 λ i=>(hl i).may) i,GO hr2 hk2⟩
theorem z0 (a kd:Nat)(raw:Z1)(l:List Tn)(e:Nat):0<(nB a kd raw l e).length:=by
 rw[gW]
 split
 ·unfold nj;rw[lF (Vd _)];omega
 ·split
  ·rw[i4,U2];exact VZ (by decide) (Nat.le_add_left 2 _)
  ·rw[i5,U2];exact VZ (by decide) (Nat.le_add_left 2 _)
theorem Rh (P:List Bool)(m:Nat)(hm:m=(pk P).length)(hP:P.length<=4000000)(kd:Nat)(hkd:kd<=2)(raw:Z1)(r:Nat)(hr:r=raw.length)(hr2:r<=65535)(l:List Tn)(k:Nat)(hk:k=l.length)(hk2:k<=65535)(hl:∀i,nA (l.getD i mq)):S0 57 [Nb m P,fP kd,.sl false r 1 (raw.map dB),.sl false k 3 (l.flatMap b5),.v (.bool true)] [] (.tup [.agg [.ref 0 0 0 (pk (aT P kd raw l 1)).length 1,nD (aT P kd raw l 1).length],iD 0]) [⟨(pk (aT P kd raw l 1)).map dB, 5,true⟩]:=by
 have hO:=EF (a:=P.length%8) om hkd hr hr2 hk hk2 hl true;have hS:=xy (a:=P.length%8) (kd:=kd) (raw:=raw) (l:=l) (e:=1) (by decide) om om;have h:=EA P m hm kd raw r hr hr2 l k hk hk2 hl true _ hO (z0 _ _ _ _ _) (by rw[xx];show P.length+sm (nB (P.length%8) kd raw l 1)<=_;omega) hkd;have e1:=EE P kd raw l 1;rw[show(if true=true then 1 else 0)=1 from rfl,e1]at h;exact h
theorem Ri (P:List Bool)(m:Nat)(hm:m=(pk P).length)(hP:P.length<=4000000)(kd:Nat)(hkd:kd<=2)(raw:Z1)(r:Nat)(hr:r=raw.length)(hr2:r<=65535)(l:List Tn)(k:Nat)(hk:k=l.length)(hk2:k<=65535)(hl:∀i,nA (l.getD i mq)):S0 57 [Nb m P,fP kd,.sl false r 1 (raw.map dB),.sl false k 3 (l.flatMap b5),.v (.bool false)] [] (.tup [.agg [.ref 0 0 0 (pk (aT P kd raw l 0)).length 1,nD (aT P kd raw l 0).length],iD 0]) [⟨(pk (aT P kd raw l 0)).map dB, 5,true⟩]:=by
 have hO:=EF (a:=P.length%8) om hkd hr hr2 hk hk2 hl false;have hS:=xy (a:=P.length%8) (kd:=kd) (raw:=raw) (l:=l) (e:=0) (by decide) om om;have h:=EA P m hm kd raw r hr hr2 l k hk hk2 hl false _ hO (z0 _ _ _ _ _) (by rw[xx];show P.length+sm (nB (P.length%8) kd raw l 0)<=_;omega) hkd;have e1:=EE P kd raw l 0;rw[show(if false=true then 1 else 0)=0 from rfl,e1]at h;exact h
attribute [local simp] dc
theorem Rj (a:Nat)(ha:a<=7)(kd:Nat)(hkd:kd<=2)(raw:Z1)(r:Nat)(hr:r=raw.length)(hr2:r<=65535)(l:List Tn)(k:Nat)(hk:k=l.length)(hk2:k<=65535)(hl:∀i,nA (l.getD i mq))(X:List Nm)(hO:OfV a kd raw r l k false X):S0 47 [nD a,fP kd,.sl false r 1 (raw.map dB),.sl false k 3 (l.flatMap b5)] [] (.tup [nD (CM X),iD 0]) []:=by
 have hX:=hO.ok;have hXl:=hO.len;have hcl:ab (X.flatMap bb)=true:=fO (λ _=>rfl) X;refine SpecH.run T_ok ah Tryz.func47 rfl rfl rfl trivial rfl 1000 64 (λ R ok=>(.s 12 (.f (decide (7<(a:Int))) (by(refine decide_eq_false ?_;(omega))) (.s 4 (.cl 64 false [] (.fn Uo (@zX (l) (k) om om om (raw) (r) om om (kd) om)) (.s 10 (.cl 65 false [] (.fn Uq (@T0 (a) (kd) (raw) (r) (l) (k) (false) (X) aF)) (.s 1 (.call 66 false [] (true&&(true&&(true&&U7 (0+length X*2) (length (flatMap bb X))&&true&&ab (bif true&&U5 (length X*2) (length (flatMap bb X))then flatMap bb X else take (length X*2) (drop 0 (flatMap bb X)))&&true))&&true) (by(simp only[dc,VK,Wo,Bool.and_self,cond_true,VM,VV,hcl,W8];omega)) ([D.ep [Vl (U7 1 (length X)) (length X) 2 (bif true&&U5 (length X*2) (length (flatMap bb X))then flatMap bb X else take (length X*2) (drop 0 (flatMap bb X)))] 0]) _ (by exact(VR (D.sim.of_eq (by(rw[dc];simp;done))) trivial)) (true) wr _ _ _ (VC (az.of Tryz.func66 rfl rfl) (@Ez (U7 1 (length X)) (X) (length X) om om om)) (.s 2 (.out [] [] (V2 [zN (CM X),zI 0]) [] R (ok _ _ wr wr)))))))))))) kr
theorem tN (a:Nat)(ha:a<=7)(kd:Nat)(hkd:kd<=2)(raw:Z1)(r:Nat)(hr:r=raw.length)(hr2:r<=65535)(l:List Tn)(k:Nat)(hk:k=l.length)(hk2:k<=65535)(hl:∀i,nA (l.getD i mq)):S0 47 [nD a,fP kd,.sl false r 1 (raw.map dB),.sl false k 3 (l.flatMap b5)] [] (.tup [nD (tK a kd raw l),iD 0]) []:=by
 have h:=Rj a ha kd hkd raw r hr hr2 l k hk hk2 hl _ (EF ha hkd hr hr2 hk hk2 hl false);rw[xx,JW,<-pW]at h;exact h
def Nl (a:Nat)(raw:Z1)(l:List Tn):Nat:=lk l (tK a 0 raw l)
def Nn (a:Nat)(raw:Z1)(l:List Tn):Nat:=lk l (tK a 1 raw l)
def No (a:Nat)(raw:Z1)(l:List Tn):Nat:=lk l (tK a 2 raw l)
theorem xA (a:Nat)(raw:Z1)(l:List Tn):Nl a raw l=tK a 0 raw l:=au _ _
theorem xB (a:Nat)(raw:Z1)(l:List Tn):Nn a raw l=tK a 1 raw l:=au _ _
theorem xE (a:Nat)(raw:Z1)(l:List Tn):No a raw l=tK a 2 raw l:=au _ _
def Rk (x y z:Nat):Nat:=if y<x then(if z<y then 2 else 1)else if z<x then 2 else 0
def aM (a:Nat)(raw:Z1)(l:List Tn):Nat:=lk l (Rk (Nl a raw l) (Nn a raw l) (No a raw l))
theorem xF (a:Nat)(raw:Z1)(l:List Tn):aM a raw l=Rk (Nl a raw l) (Nn a raw l) (No a raw l):=au _ _
theorem T4 {x:Nat}{n:Int}(h:n=((x:Nat):Int)):V2 [D.v (.int .u8 n),D.v (.int .i64 0)]=V2 [fP x,iD 0]:=by subst h;rfl
theorem xG (a:Nat)(raw:Z1)(l:List Tn):aM a raw l<=2:=by rw[xF];unfold Rk;split<;>split<;>decide
theorem Hp (a:Nat)(ha:a<=7)(raw:Z1)(r:Nat)(hr:r=raw.length)(hr2:r<=65535)(l:List Tn)(k:Nat)(hk:k=l.length)(hk2:k<=65535)(hl:∀i,nA (l.getD i mq)):S0 47 [nD a,fP 0,.sl false r 1 (raw.map dB),.sl false k 3 (l.flatMap b5)] [] (.tup [nD (Nl a raw l),iD 0]) []:=by
 have h:=tN a ha 0 (by decide) raw r hr hr2 l k hk hk2 hl
 rwa [<-xA]at h
theorem Hq (a:Nat)(ha:a<=7)(raw:Z1)(r:Nat)(hr:r=raw.length)(hr2:r<=65535)(l:List Tn)(k:Nat)(hk:k=l.length)(hk2:k<=65535)(hl:∀i,nA (l.getD i mq)):S0 47 [nD a,fP 1,.sl false r 1 (raw.map dB),.sl false k 3 (l.flatMap b5)] [] (.tup [nD (Nn a raw l),iD 0]) []:=by
 have h:=tN a ha 1 (by decide) raw r hr hr2 l k hk hk2 hl
 rwa [<-xB]at h
theorem Aa (a:Nat)(ha:a<=7)(raw:Z1)(r:Nat)(hr:r=raw.length)(hr2:r<=65535)(l:List Tn)(k:Nat)(hk:k=l.length)(hk2:k<=65535)(hl:∀i,nA (l.getD i mq)):S0 47 [nD a,fP 2,.sl false r 1 (raw.map dB),.sl false k 3 (l.flatMap b5)] [] (.tup [nD (No a raw l),iD 0]) []:=by
 have h:=tN a ha 2 (by decide) raw r hr hr2 l k hk hk2 hl
 rwa [<-xE]at h
theorem JX (a:Nat)(ha:a<=7)(raw:Z1)(r:Nat)(hr:r=raw.length)(hr2:r<=65535)(l:List Tn)(k:Nat)(hk:k=l.length)(hk2:k<=65535)(hl:∀i,nA (l.getD i mq)):S0 58 [nD a,.sl false r 1 (raw.map dB),.sl false k 3 (l.flatMap b5)] [] (.tup [fP (aM a raw l),iD 0]) []:=by
 have l0:=tM (a:=a) (kd:=0) (raw:=raw) (l:=l) om om;rw[<-xA]at l0;have l1:=tM (a:=a) (kd:=1) (raw:=raw) (l:=l) om om;rw[<-xB]at l1;have l2:=tM (a:=a) (kd:=2) (raw:=raw) (l:=l) om om;rw[<-xE]at l2;refine SpecH.run T_ok ah Tryz.func58 rfl rfl rfl trivial rfl 1000 64 (λ R ok=>(.s 39 (.call 47 false [] (true) wr ([zN a,bI 0,Vl false r 1 (map dB raw),Vl false k 3 (flatMap b5 l)]) _ RY (true) wr _ _ _ (VC (az.of Tryz.func47 rfl rfl) (@Hp (a) om (raw) (r) om om (l) (k) om om om)) (.s 61 (.call 47 false [] (true) wr ([zN a,bI 1,Vl false r 1 (map dB raw),Vl false k 3 (flatMap b5 l)]) _ RY (true) wr _ _ _ (VC (az.of Tryz.func47 rfl rfl) (@Hq (a) om (raw) (r) om om (l) (k) om om om)) (.s 29 (.bd ((↑(Nn a raw l):Int)<(↑(Nl a raw l):Int)) (λ p0 Z7=>(.s 32 (.call 47 false [] (true) wr ([zN a,bI 2,Vl false r 1 (map dB raw),Vl false k 3 (flatMap b5 l)]) _ RY (true) wr _ _ _ (VC (az.of Tryz.func47 rfl rfl) (@Aa (a) om (raw) (r) om om (l) (k) om om om)) (.s 29 (.bd ((↑(No a raw l):Int)<(↑(Nn a raw l):Int)) (λ p1 Z6=>(.s 14 (.out [] [] (V2 [bI 2,zI 0]) [] R (ok _ _ RZ wr)))) (λ p1 Z6=>(.s 10 (.out [] [] (V2 [bI 1,zI 0]) [] R (ok _ _ RZ wr))))))))) (λ p0 Z7=>(.s 28 (.call 47 false [] (true) wr ([zN a,bI 2,Vl false r 1 (map dB raw),Vl false k 3 (flatMap b5 l)]) _ RY (true) wr _ _ _ (VC (az.of Tryz.func47 rfl rfl) (@Aa (a) om (raw) (r) om om (l) (k) om om om)) (.s 29 (.bd ((↑(No a raw l):Int)<(↑(Nl a raw l):Int)) (λ p2 Z5=>(.s 14 (.out [] [] (V2 [bI 2,zI 0]) [] R (ok _ _ RZ wr)))) (λ p2 Z5=>(.s 10 (.out [] [] (V2 [bI 0,zI 0]) [] R (ok _ _ RZ wr)))))))))))))))) kr
end Vp
end Go.Proofs.YtefjnofhgkjpmaaGreat
namespace Go.Proofs.YtefjnofhgkjpmaaGreat
open Go.RowKit Go.Bw Go.Vx
open List (length getD map take drop flatMap replicate)
namespace Vp
theorem UL {p:Prop}(h:p:=by exact(VR (D.sim.slc (cells:=[Vl nnh h 1 (map dB H),Vl nnr r 1 (map dB raw)]) (cells':=[Vl false h 1 (map dB H),Vl false r 1 (map dB raw)]) rfl (VR (D.sim.slw rfl rfl) (VR (D.sim.slw rfl rfl) trivial))) trivial)):p:=h
theorem UM {p:Prop}(h:p:=by exact(VR (D.sim.slw rfl (bW (by(simp <;>(omega)))|>.trans rfl)) (qr (qr trivial)))):p:=h
abbrev aj (sz ch:Nat)(lz:Bool)(H raw:Z1):List Tn:=EV (H++raw) H.length sz ch lz
theorem bw (sz ch:Nat)(lz:Bool)(H raw:Z1):(aj sz ch lz H raw).length<=raw.length:=by
 have:=GG (H++raw) H.length sz ch lz;rw[U2]at this;show(EV (H++raw) H.length sz ch lz).length<=_;omega
theorem JY (H raw:Z1)(n q:Nat)(hn:n=H.length+raw.length)(hN:n<=131072)(hq:q=H.length)(sz ch mo:Nat)(lz:Bool)(hs:1<=sz∧sz<=32768)(hc:ch<=256)(hm:1<=mo∧mo<=65535):S0 67 [.sl false n 1 ((H++raw).map dB),nD q,TG sz ch mo lz] [] (.tup [.ref 0 0 0 (aj sz ch lz H raw).length 3,iD 0]) [⟨(aj sz ch lz H raw).flatMap b5, 119,true⟩]:=by
 subst hq;exact Qn (H++raw) n H.length (by rw[U2];exact hn) hN om sz ch mo lz hs hc hm _ rfl
theorem Rl (sz ch mo:Nat)(lz:Bool)(hs:1<=sz∧sz<=32768)(hc:ch<=256)(hmo:1<=mo∧mo<=65535)(nnh nnr:Bool)(H:Z1)(h:Nat)(hh:h=H.length)(hh2:h<=65536)(x5 x6 x7 x8 x9:D)(raw:Z1)(r:Nat)(hr:r=raw.length)(hr2:r<=65535):S0 48 [.ep [nD sz,nD ch,nD mo,bD lz,.sl nnh h 1 (H.map dB),x5,x6,x7,x8,x9] 0,.sl nnr r 1 (raw.map dB)] [] (.ref 0 0 0 (aj sz ch lz H raw).length 3) [⟨(aj sz ch lz H raw).flatMap b5, 119,true⟩]:=by
 refine SpecH.run T_ok ah Tryz.func48 rfl rfl rfl ⟨gi (λ _=>rfl) _,trivial⟩ rfl 1000 64 (λ R ok=>(.s 17 (.call 68 false [] (true) wr ([Vl true 2 1 [Vl nnh h 1 (map dB H),Vl nnr r 1 (map dB raw)]]) _ UL (true) wr _ _ _ (VC (az.of Tryz.func68 rfl rfl) (@LS (false) (false) (H) (raw) (h) (r) om om om om)) (.s 25 (.call 67 false [] (true&&(true&&U7 (0+(h+r)*1) (length (map dB (H++raw)))&&true&&ab (bif true&&U5 ((h+r)*1) (length (map dB (H++raw)))then map dB (H++raw)else take ((h+r)*1) (drop 0 (map dB (H++raw)))))&&true) (by(simp <;>(omega))) ([Vl (U7 1 (h+r)) (h+r) 1 (bif true&&U5 ((h+r)*1) (length (map dB (H++raw)))then map dB (H++raw)else take ((h+r)*1) (drop 0 (map dB (H++raw)))),zN h,Wp [zN sz,zN ch,zN mo,D.v (.bool lz)]]) _ UM (true) wr _ _ _ (VC (az.of Tryz.func67 rfl rfl) (@JY (H) (raw) (h+r) (h) om om om (sz) (ch) (mo) (lz) om om om)) (.s 9 (.out [160] [160] (U6 0 0 0 (length (aj sz ch lz H raw)) 3) [U1 (flatMap b5 (aj sz ch lz H raw)) 119 true] R (ok _ _ wr wr)))))))) kr
theorem JZ (sz ch mo:Nat)(lz:Bool)(hs:1<=sz∧sz<=32768)(hc:ch<=256)(hmo:1<=mo∧mo<=65535)(nnh nnr:Bool)(H:Z1)(h:Nat)(hh:h=H.length)(hh2:h<=65536)(raw:Z1)(r:Nat)(hr:r=raw.length)(hr2:r<=65535):S0 48 [.ep [nD sz,nD ch,nD mo,bD lz,.sl nnh h 1 (H.map dB)] 0,.sl nnr r 1 (raw.map dB)] [] (.ref 0 0 0 (aj sz ch lz H raw).length 3) [⟨(aj sz ch lz H raw).flatMap b5, 119,true⟩]:=by
 refine SpecH.run T_ok ah Tryz.func48 rfl rfl rfl ⟨gi (λ _=>rfl) _,trivial⟩ rfl 1000 64 (λ R ok=>(.s 17 (.call 68 false [] (true) wr ([Vl true 2 1 [Vl nnh h 1 (map dB H),Vl nnr r 1 (map dB raw)]]) _ UL (true) wr _ _ _ (VC (az.of Tryz.func68 rfl rfl) (@LS (false) (false) (H) (raw) (h) (r) om om om om)) (.s 25 (.call 67 false [] (true&&(true&&U7 (0+(h+r)*1) (length (map dB (H++raw)))&&true&&ab (bif true&&U5 ((h+r)*1) (length (map dB (H++raw)))then map dB (H++raw)else take ((h+r)*1) (drop 0 (map dB (H++raw)))))&&true) (by(simp <;>(omega))) ([Vl (U7 1 (h+r)) (h+r) 1 (bif true&&U5 ((h+r)*1) (length (map dB (H++raw)))then map dB (H++raw)else take ((h+r)*1) (drop 0 (map dB (H++raw)))),zN h,Wp [zN sz,zN ch,zN mo,D.v (.bool lz)]]) _ UM (true) wr _ _ _ (VC (az.of Tryz.func67 rfl rfl) (@JY (H) (raw) (h+r) (h) om om om (sz) (ch) (mo) (lz) om om om)) (.s 9 (.out [160] [160] (U6 0 0 0 (length (aj sz ch lz H raw)) 3) [U1 (flatMap b5 (aj sz ch lz H raw)) 119 true] R (ok _ _ wr wr)))))))) kr
theorem Hr:S0 37 [dw] [] dw []:=by
 refine SpecH.run T_ok ah Tryz.func37 rfl rfl rfl trivial rfl 1000 64 (λ R ok=>(.s 6 (.out [] [] (zS) [] R (ok _ _ wr wr)))) kr
theorem MV (bs:Z1)(hn:bs.length<=10000000):S0 37 [.sl true bs.length 1 (bs.map dB)] [] (.ref 0 0 0 bs.length 1) [⟨bs.map dB, 5,true⟩]:=by
 refine SpecH.run T_ok ah Tryz.func37 rfl rfl rfl ⟨bn _,trivial⟩ rfl 1000 64 (λ R ok=>(.s 9 (.chk (true&&U7 ((0+length bs)*1) 140737488355328) (by(refine U8 ?_;(omega))) (.s 1 (.out [40] [40] (U6 0 0 0 (0+length bs) 1) [U1 (map dB bs) 5 true] R (ok _ _ (by(simp;done)) wr)))))) kr
theorem Rm (bs:Z1)(n:Nat)(h1:n=bs.length)(hn:n<=10000000):S0 37 [.sl false n 1 (bs.map dB)] [] (.ref 0 0 0 n 1) [⟨bs.map dB, 5,true⟩]:=by
 subst h1;exact At.nilSplit Hr (MV bs hn) id
theorem J0 (sz ch mo:Nat)(lz:Bool)(hs:1<=sz∧sz<=32768)(hc:ch<=256)(hm:1<=mo∧mo<=65535):S0 29 [TG sz ch mo lz] [] (iD 0) []:=Vt.sty_t0 (sz:Int) (ch:Int) (mo:Int) lz (Vt.mayS_iff.2 om)
theorem J1 (sz ch mo:Nat)(lz:Bool)(hs:1<=sz∧sz<=32768)(hc:ch<=256)(hmo:1<=mo∧mo<=65535)(H:Z1)(h:Nat)(hh:h=H.length)(hh2:h<=sz)(W:Z1)(w:Nat)(hw:w=W.length)(hw2:w<mo)(P:List Bool)(m:Nat)(hm:m=(pk P).length)(hP:P.length<8)(ov:Bool)(hov:ov=true->w=0∧P.length=0):S0 18 [.agg [nD sz,nD ch,nD mo,bD lz,.sl false h 1 (H.map dB),.sl false w 1 (W.map dB),.sl false m 1 ((pk P).map dB),nD P.length,bD ov]] [] (iD 0) []:=by
 refine SpecH.run T_ok ah Tryz.func18 rfl rfl rfl trivial rfl 1000 64 (λ R ok=>(.s 11 (.cl 29 false [] (.fn Na (@J0 (sz) (ch) (mo) (lz) om om om)) (.s 31 (.t (decide ((h:Int)<=sz)) (by(refine decide_eq_true ?_;(omega))) (.s 33 (.cl 43 false [] (.fn RI (@sC (P) (m) om om)) (.s 21 (.t (decide ((↑(length P):Int)<8)) (by(refine decide_eq_true ?_;(omega))) (.s 11 (.br (!ov) (λ p0=>have Z7:=(gE p0);(.s 22 (.f (!decide ((w:Int)<mo)) (by(simp <;>(omega))) (.s 5 (.out [] [] (zI 0) [] R (ok _ _ wr wr)))))) (λ p0=>have Z7:=(gF p0);(.s 14 (.t ((w:Int)==0) (by(simp_all;done)) (.s 23 (.f (!decide ((w:Int)<mo)) (by(simp <;>(omega))) (.s 3 (.f (!(↑(length P):Int)==0) (by(simp_all;done)) (.s 1 (.out [] [] (zI 0) [] R (ok _ _ wr wr))))))))))))))))))))) kr
end Vp
end Go.Proofs.YtefjnofhgkjpmaaGreat
namespace Go.Proofs.YtefjnofhgkjpmaaGreat
open Go.RowKit Go.Bw Go.Vx
open List (length getD map take drop flatMap replicate)
namespace Vp
theorem Hs {p:Prop}(h:p:=by(simp;have y1:=cz (P:=P) (kd:=aM P.length (take mo (drop (o+0) W0)) (aj sz ch lz H (take mo (drop (o+0) W0)))) (raw:=(take mo (drop (o+0) W0))) (l:=(aj sz ch lz H (take mo (drop (o+0) W0)))) (e:=0) (by rw[Vg];omega) (by refine Vq (bw _ _ _ _ _) ?_;rw[Vg];omega);have y3:=am (aT P (aM P.length (take mo (drop (o+0) W0)) (aj sz ch lz H (take mo (drop (o+0) W0)))) (take mo (drop (o+0) W0)) (aj sz ch lz H (take mo (drop (o+0) W0))) 0);have y4:=bx sz H (take mo (drop (o+0) W0));omega)):p:=h
theorem MW {p:Prop}(h:p:=by((repeat' (first|(refine aI ?_ ?_)|(with_reducible rfl)|(refine EG ?_)|exact cR _|exact hclT _|(refine U8 ?_)))<;>(try simp only[Vj,gk,VK])<;>(have y1:=cz (P:=P) (kd:=aM P.length (take mo (drop (o+0) W0)) (aj sz ch lz H (take mo (drop (o+0) W0)))) (raw:=(take mo (drop (o+0) W0))) (l:=(aj sz ch lz H (take mo (drop (o+0) W0)))) (e:=0) (by rw[Vg];omega) (by refine Vq (bw _ _ _ _ _) ?_;rw[Vg];omega);have y3:=am (aT P (aM P.length (take mo (drop (o+0) W0)) (aj sz ch lz H (take mo (drop (o+0) W0)))) (take mo (drop (o+0) W0)) (aj sz ch lz H (take mo (drop (o+0) W0))) 0);have y4:=bx sz H (take mo (drop (o+0) W0));omega))):p:=h
theorem UN {p:Prop}(h:p:=by exact(VR (D.sim.of_eq (by(simp;done))) (VR (D.sim.slN rfl ((bj (W0) (o+0) (mo*1)).trans (by(simp;done)))) trivial))):p:=h
theorem UO {p:Prop}(h:p:=by(refine Vq (bw _ _ _ _ _) ?_;rw[Vg];omega)):p:=h
theorem UP {p:Prop}(h:p:=by(have y1:=cz (P:=P) (kd:=aM P.length (take mo (drop (o+0) W0)) (aj sz ch lz H (take mo (drop (o+0) W0)))) (raw:=(take mo (drop (o+0) W0))) (l:=(aj sz ch lz H (take mo (drop (o+0) W0)))) (e:=0) (by rw[Vg];omega) (by refine Vq (bw _ _ _ _ _) ?_;rw[Vg];omega);have y3:=am (aT P (aM P.length (take mo (drop (o+0) W0)) (aj sz ch lz H (take mo (drop (o+0) W0)))) (take mo (drop (o+0) W0)) (aj sz ch lz H (take mo (drop (o+0) W0))) 0);have y4:=bx sz H (take mo (drop (o+0) W0));simp only[Vj,Vg,VM,VV,U9,Xk,W8];omega)):p:=h
theorem cz {P:List Bool}{kd:Nat}{raw:Z1}{l:List Tn}{e:Nat}(hr:raw.length<=65535)(hk:l.length<=65535):(aT P kd raw l e).length<=P.length+3800000:=by
 rw[zZ];have:=tM (a:=P.length%8) (kd:=kd) hr hk;omega
def xH (sz:Nat)(H raw:Z1):Z1:=(H++raw).drop ((H++raw).length-sz)
theorem bx (sz:Nat)(H raw:Z1):(xH sz H raw).length=min (H.length+raw.length) sz:=by
 unfold xH;rw[VH,U2];omega
def ir (sz ch:Nat)(lz:Bool)(H raw:Z1)(P:List Bool)(e:Nat):List Bool:=aT P (aM P.length raw (aj sz ch lz H raw)) raw (aj sz ch lz H raw) e
structure Ls where
 H:Z1
 P:List Bool
 w:Z1
 O:Z1
def vZ (sz ch mo:Nat)(lz:Bool)(s:Ls):Ls:=⟨xH sz s.H (s.w.take mo),pT (ir sz ch lz s.H (s.w.take mo) s.P 0),s.w.drop mo,s.O++pk (pA (ir sz ch lz s.H (s.w.take mo) s.P 0))⟩
def mc (sz ch mo:Nat)(lz:Bool):Nat->Ls->Ls
 |0,s=>s
 |f+1,s=>if mo<=s.w.length then mc sz ch mo lz f (vZ sz ch mo lz s)else s
theorem T5 {sz ch mo:Nat}{lz:Bool}{f:Nat}{s T:Ls}(hR:mc sz ch mo lz f s=T)(hm:1<=mo)(hf:s.w.length<=f)(h:mo<=s.w.length):mc sz ch mo lz (f-1) (vZ sz ch mo lz s)=T:=by
 obtain⟨g,rfl⟩:∃g,f=g+1:=⟨f-1,by omega⟩
 rw[<-hR,mc,ZF h];rfl
theorem T6 {sz ch mo:Nat}{lz:Bool}{f:Nat}{s T:Ls}(hR:mc sz ch mo lz f s=T)(h:¬mo<=s.w.length):s=T:=by
 rw[<-hR];cases f with
 |zero=>rfl
 |succ f=>exact(ZE h).symm
theorem Ht {sz ch mo:Nat}{lz:Bool}{f o N:Nat}{H O W0 raw:Z1}{P:List Bool}{T:Ls}(hR:mc sz ch mo lz f ⟨H,P,W0.drop o,O⟩=T)(hN:W0.length=N)(hm:1<=mo)(hf:N<=o+f)(h:mo<=N-o)(hr:raw=VX mo (VW o W0)):mc sz ch mo lz (f-1) ⟨xH sz H raw,pT (ir sz ch lz H raw P 0),W0.drop (o+mo),O++pk (pA (ir sz ch lz H raw P 0))⟩=T:=by
 subst hr;have q:=T5 hR hm (by show(W0.drop o).length<=f;rw[VH];omega) (by show mo<=(W0.drop o).length;rw[VH];omega);unfold vZ at q;rw[show VW mo (W0.drop o)=W0.drop (o+mo)from by rw[Zz]]at q;exact q
theorem pX {sz ch mo:Nat}{lz:Bool}{f o N:Nat}{H O W0:Z1}{P:List Bool}{T:Ls}(hR:mc sz ch mo lz f ⟨H,P,W0.drop o,O⟩=T)(hN:W0.length=N)(h:¬mo<=N-o):H=T.H∧P=T.P∧VX (N-o) (VW o W0)=T.w∧O=T.O:=by
 have q:=T6 hR (by show¬mo<=(W0.drop o).length;rw[VH];omega);subst q;exact⟨rfl,rfl,VB (by rw[VH];omega),rfl⟩
theorem Hu {O:Z1}{B:List Bool}{k:Nat}(hk:k=B.length/8):O.map dB++WY dB (VX k (pk B))=(O++pk (pA B)).map dB:=by rw[JU B hk,V4]
theorem Ro {a b c d d5 e:D}{k1 g1 n1 m1 k3 g3 n3 m3 k4 g4 n4 m4 y:Nat}{x:Int}{t:TypeId}(h1:n1=m1)(h3:n3=m3)(hx:x=((y:Nat):Int))(h4:n4=m4):(⟨[a,b,c,d,.ref k1 g1 0 n1 1,d5,.ref k3 g3 0 n3 1,D.v (.int .i64 x),e,.ref k4 g4 0 n4 1],t,false⟩:Blk)=⟨[a,b,c,d,.ref k1 g1 0 m1 1,d5,.ref k3 g3 0 m3 1,nD y,e,.ref k4 g4 0 m4 1],t,false⟩:=by subst h1 h3 hx h4;rfl
theorem EG {X:List D}{c:Bool}{n off:Nat}(h:ab X=true):ab (bif c then X else VX n (VW off X))=true:=by
 cases c
 ·exact bq.2 λ d hd=>bq.1 h d (List.mem_of_mem_drop (List.mem_of_mem_take hd))
 ·exact h
theorem EH {sz:Nat}{H raw:Z1}{k:Nat}(hk:k=(H++raw).length-sz):VW k (H++raw)=xH sz H raw:=by subst hk;rfl
theorem J2 (nn:Bool)(A:Z1)(n off:Nat)(hn:off+n<=A.length)(hn2:n<=10000000):S0 56 [.sl nn n 1 (bif U5 off 0&&U5 n A.length then A.map dB else(VX n (VW off A)).map dB)] [] (.ref 0 0 0 n 1) [⟨(VX n (VW off A)).map dB, 5,true⟩]:=by
 have e:(bif U5 off 0&&U5 n A.length then A.map dB else(VX n (VW off A)).map dB)=(VX n (VW off A)).map dB:=by
  cases h:(U5 off 0&&U5 n A.length)
  ·rfl
  ·rw[U9]at h
   have h1:=Vc h.1;have h2:=Vc h.2;rw[cond_true,h1,Wm,h2,Wd]
 have hl:(VX n (VW off A)).length=n:=by rw[Vg,VH];omega
 rw[e]
 cases nn with
 |false=>exact ja _ n hl.symm hn2
 |true=>
  have q:=Cr (VX n (VW off A)) om;rw[hl]at q;exact q
theorem MX (sz ch mo:Nat)(lz:Bool)(hs:1<=sz∧sz<=32768)(hc:ch<=256)(hmo:1<=mo∧mo<=65535)(H0:Z1)(h:Nat)(hh:h=H0.length)(hh2:h<=sz)(W:Z1)(w:Nat)(hw:w=W.length)(hw2:w<mo)(P0:List Bool)(m:Nat)(hm:m=(pk P0).length)(hP0:P0.length<8)(b:Z1)(n:Nat)(hn:n=b.length)(hn2:n<=131072)(W0:Z1)(hW0:W0=W++b)(hW0l:W0.length=w+n)(T:Ls)(hT:mc sz ch mo lz (w+n) ⟨H0,P0,W0.drop 0,[]⟩=T):S0 13 [.agg [nD sz,nD ch,nD mo,bD lz,.sl false h 1 (H0.map dB),.sl false w 1 (W.map dB),.sl false m 1 ((pk P0).map dB),nD P0.length,bD false],.sl false n 1 (b.map dB)] [] (.tup [.agg [nD sz,nD ch,nD mo,bD lz,.ref 0 0 0 T.H.length 1,.ref 1 1 0 T.w.length 1,.ref 2 2 0 (pk T.P).length 1,nD T.P.length,bD false],.ref 3 3 0 T.O.length 1,iD 0]) [⟨T.H.map dB, 5,true⟩,⟨T.w.map dB, 5,true⟩,⟨(pk T.P).map dB, 5,true⟩,⟨T.O.map dB, 5,true⟩]:=by
 have hPl:=am P0;have hclT:=λ l:List Tn=>(fO (f:=b5) (λ _=>rfl) l)
 refine SpecH.run T_ok ah Tryz.func13 rfl rfl rfl ⟨bn _,bn _,bn _,bn _,trivial⟩ rfl 1000 64 (λ R ok=>(.s 21 (.cl 18 false [] (.fn Um (@J1 (sz) (ch) (mo) (lz) om om om (H0) (h) om om (W) (w) om om (P0) (m) om om (false) (by(simp;done)))) (.s 20 (.cl 56 false [] (.fn In (@ja (H0) (h) om om)) (.s 7 (.cl 56 false [] (.fn In (@ja (W) (w) om om)) (.s 22 (.cl 56 false [] (.fn In (@ja (pk P0) (m) om om)) (.s 34 (.f (decide (131072<(n:Int))) (by(refine decide_eq_false ?_;(omega))) (.s 13 (.chk (true&&U5 (w*1) (length (map dB W))&&true&&true&&true&&true&&U7 ((w+n)*1) 140737488355328) (by(simp <;>(omega))) (.s 1 (.nilc 280 280 (U1 [zN sz,zN ch,zN mo,D.v (.bool lz),U6 144 144 0 h 1,U6 168 168 0 w 1,U6 232 232 0 m 1,zN (length P0),D.v (.bool false),zS] 68 false) 9 464 1 5 (.val 9 (U6 448 448 0 (w+n) 1) (U6 448 448 0 (w+n-0) 1) (by(simp;done)) (.blk 280 280 (U1 [zN sz,zN ch,zN mo,D.v (.bool lz),U6 144 144 0 h 1,U6 168 168 0 w 1,U6 232 232 0 m 1,zN (length P0),D.v (.bool false),U6 464 464 0 0 1] 68 false) (U1 [zN sz,zN ch,zN mo,D.v (.bool lz),U6 144 144 0 (length H0) 1,U6 168 168 0 w 1,U6 232 232 0 (length (pk P0)) 1,zN (length P0),D.v (.bool false),U6 464 464 0 0 1] 68 false) (by(simp <;>(omega))) (.blk 448 448 (U1 (map dB W++map dB b) 5 true) (U1 (map dB W0) 5 true) (by(refine aB ?_;rw[hW0,V4])) (Hn.inl T_ok ah false 72 0 (aq Tryz.prog 13 0) (λ(x:(H:Z1)×'(P:List Bool)×'(o:Nat)×'(O:Z1)×'(f:Nat)×'(hP:P.length<8)×'(hH:H.length<=sz)×'(ho:o<=w+n)×'(hf:w+n<=o+f)×'(hO:O.length<=1000000*o)×'(hR:mc sz ch mo lz f ⟨H,P,W0.drop o,O⟩=T)×'Unit)=>match x with|⟨H,P,o,O,f,hP,hH,ho,hf,hO,hR,_⟩=>CutS.mk [(4,Vh 0 0 0),(7,Vh 24 24 0),(9,(U6 32 32 (o) (w+n-o) 1))] [⟨0,0,8,8,.b ⟨[zI 0,zI 0,zI 0,D.v (.bool false),zS,zS,zS,zI 0,D.v (.bool false)],28,false⟩⟩,⟨8,8,144,144,.b ⟨H.map dB,5,true⟩⟩,⟨16,16,232,232,.b ⟨(pk P).map dB,5,true⟩⟩,⟨24,24,280,280,.b ⟨[nD sz,nD ch,nD mo,bD lz,(U6 8 8 (0) (H.length) 1),(U6 168 168 (0) (w) 1),(U6 16 16 (0) ((pk P).length) 1),nD P.length,bD false,(U6 40 40 (0) (O.length) 1)],68,false⟩⟩,⟨32,32,448,448,.b ⟨W0.map dB,5,true⟩⟩,⟨40,40,464,464,.b ⟨O.map dB,5,true⟩⟩] 176) (λ(x:(H:Z1)×'(P:List Bool)×'(o:Nat)×'(O:Z1)×'(f:Nat)×'(hP:P.length<8)×'(hH:H.length<=sz)×'(ho:o<=w+n)×'(hf:w+n<=o+f)×'(hO:O.length<=1000000*o)×'(hR:mc sz ch mo lz f ⟨H,P,W0.drop o,O⟩=T)×'Unit)=>match x with|⟨H,P,o,O,f,hP,hH,ho,hf,hO,hR,_⟩=>w+n-o) [⟨(o2:Nat)×'(ho2:o2<=w+n)×'(hw2:take (w+n-o2) (drop o2 W0)=T.w)×'Unit,.exit 0,λ x=>match x with|⟨o2,ho2,hw2,_⟩=>CutS.mk [(4,Vh 0 0 0),(7,Vh 24 24 0),(9,(U6 32 32 (o2) (w+n-o2) 1))] [⟨0,0,8,8,.b ⟨[zI 0,zI 0,zI 0,D.v (.bool false),zS,zS,zS,zI 0,D.v (.bool false)],28,false⟩⟩,⟨8,8,144,144,.b ⟨T.H.map dB,5,true⟩⟩,⟨16,16,232,232,.b ⟨(pk T.P).map dB,5,true⟩⟩,⟨24,24,280,280,.b ⟨[nD sz,nD ch,nD mo,bD lz,(U6 8 8 (0) (T.H.length) 1),(U6 168 168 (0) (w) 1),(U6 16 16 (0) ((pk T.P).length) 1),nD T.P.length,bD false,(U6 40 40 (0) (T.O.length) 1)],68,false⟩⟩,⟨32,32,448,448,.b ⟨W0.map dB,5,true⟩⟩,⟨40,40,464,464,.b ⟨T.O.map dB,5,true⟩⟩] 176⟩] 1000 64 (fun|⟨H,P,o,O,f,hP,hH,ho,hf,hO,hR,_⟩,Q,ZA,ZD=>(.s 18 (.bd ((mo:Int)<=(↑(w+n-o):Int)) (λ p0 Z7=>(.s 16 (.chk (aU none (some (mo:Int)) none (w+n-o)&&true) Hs (.s 26 (.call 48 false [] (true&&(true&&(true&&(true&&(true&&(true&&(true&&U7 (0+length H*1) (length (map dB H))&&true&&ab (bif true&&U5 (length H*1) (length (map dB H))then map dB H else take (length H*1) (drop 0 (map dB H)))&&true))))))&&(true&&(true&&U7 (o+0+mo*1) (length (map dB W0))&&true&&ab (bif U5 (o+0) 0&&U5 (mo*1) (length (map dB W0))then map dB W0 else take (mo*1) (drop (o+0) (map dB W0))))&&true)) MW ([D.ep [zN sz,zN ch,zN mo,D.v (.bool lz),Vl (U7 1 (length H)) (length H) 1 (bif true&&U5 (length H*1) (length (map dB H))then map dB H else take (length H*1) (drop 0 (map dB H)))] 0,Vl (U7 1 mo) mo 1 (bif U5 (o+0) 0&&U5 (mo*1) (length (map dB W0))then map dB W0 else take (mo*1) (drop (o+0) (map dB W0)))]) _ UN (true) wr _ _ _ (VC (az.of Tryz.func48 rfl rfl) (@JZ (sz) (ch) (mo) (lz) om om om (U7 1 (length H)) (U7 1 mo) (H) (length H) om om (take mo (drop (o+0) W0)) (mo) Hs om)) (.s 1 (.call 58 false [] (true&&(true&&(true&&U7 (o+0+mo*1) (length (map dB W0))&&true&&ab (bif U5 (o+0) 0&&U5 (mo*1) (length (map dB W0))then map dB W0 else take (mo*1) (drop (o+0) (map dB W0))))&&(true&&(true&&U7 (0+length (aj sz ch lz H (take mo (drop (o+0) W0)))*3) (length (flatMap b5 (aj sz ch lz H (take mo (drop (o+0) W0)))))&&true&&ab (bif true&&U5 (length (aj sz ch lz H (take mo (drop (o+0) W0)))*3) (length (flatMap b5 (aj sz ch lz H (take mo (drop (o+0) W0)))))then flatMap b5 (aj sz ch lz H (take mo (drop (o+0) W0)))else take (length (aj sz ch lz H (take mo (drop (o+0) W0)))*3) (drop 0 (flatMap b5 (aj sz ch lz H (take mo (drop (o+0) W0)))))))&&true))) MW ([zN (length P),Vl (U7 1 mo) mo 1 (bif U5 (o+0) 0&&U5 (mo*1) (length (map dB W0))then map dB W0 else take (mo*1) (drop (o+0) (map dB W0))),Vl (U7 1 (length (aj sz ch lz H (take mo (drop (o+0) W0))))) (length (aj sz ch lz H (take mo (drop (o+0) W0)))) 3 (bif true&&U5 (length (aj sz ch lz H (take mo (drop (o+0) W0)))*3) (length (flatMap b5 (aj sz ch lz H (take mo (drop (o+0) W0)))))then flatMap b5 (aj sz ch lz H (take mo (drop (o+0) W0)))else take (length (aj sz ch lz H (take mo (drop (o+0) W0)))*3) (drop 0 (flatMap b5 (aj sz ch lz H (take mo (drop (o+0) W0))))))]) _ (by exact(qr (VR (D.sim.slw rfl ((bj (W0) (o+0) (mo*1)).trans (by(simp;done)))) (VR (D.sim.slw rfl (bW (by(rw[gk];simp;done))|>.trans rfl)) trivial)))) (true) wr _ _ _ (VC (az.of Tryz.func58 rfl rfl) (@JX (length P) om (take mo (drop (o+0) W0)) (mo) Hs om (aj sz ch lz H (take mo (drop (o+0) W0))) (length (aj sz ch lz H (take mo (drop (o+0) W0)))) om UO (by(exact pH hs.2)))) (.s 31 (.call 48 false [] (true&&(true&&(true&&(true&&(true&&(true&&(true&&U7 (0+length H*1) (length (map dB H))&&true&&ab (bif true&&U5 (length H*1) (length (map dB H))then map dB H else take (length H*1) (drop 0 (map dB H)))&&true))))))&&(true&&(true&&U7 (o+0+mo*1) (length (map dB W0))&&true&&ab (bif U5 (o+0) 0&&U5 (mo*1) (length (map dB W0))then map dB W0 else take (mo*1) (drop (o+0) (map dB W0))))&&true)) MW ([D.ep [zN sz,zN ch,zN mo,D.v (.bool lz),Vl (U7 1 (length H)) (length H) 1 (bif true&&U5 (length H*1) (length (map dB H))then map dB H else take (length H*1) (drop 0 (map dB H)))] 0,Vl (U7 1 mo) mo 1 (bif U5 (o+0) 0&&U5 (mo*1) (length (map dB W0))then map dB W0 else take (mo*1) (drop (o+0) (map dB W0)))]) _ UN (true) wr _ _ _ (VC (az.of Tryz.func48 rfl rfl) (@JZ (sz) (ch) (mo) (lz) om om om (U7 1 (length H)) (U7 1 mo) (H) (length H) om om (take mo (drop (o+0) W0)) (mo) Hs om)) (.s 2 (.call 57 false [] (true&&(true&&U7 (0+length (pk P)*1) (length (map dB (pk P)))&&true&&ab (bif true&&U5 (length (pk P)*1) (length (map dB (pk P)))then map dB (pk P)else take (length (pk P)*1) (drop 0 (map dB (pk P)))))&&true&&(true&&(true&&(true&&U7 (o+0+mo*1) (length (map dB W0))&&true&&ab (bif U5 (o+0) 0&&U5 (mo*1) (length (map dB W0))then map dB W0 else take (mo*1) (drop (o+0) (map dB W0))))&&(true&&(true&&U7 (0+length (aj sz ch lz H (take mo (drop (o+0) W0)))*3) (length (flatMap b5 (aj sz ch lz H (take mo (drop (o+0) W0)))))&&true&&ab (bif true&&U5 (length (aj sz ch lz H (take mo (drop (o+0) W0)))*3) (length (flatMap b5 (aj sz ch lz H (take mo (drop (o+0) W0)))))then flatMap b5 (aj sz ch lz H (take mo (drop (o+0) W0)))else take (length (aj sz ch lz H (take mo (drop (o+0) W0)))*3) (drop 0 (flatMap b5 (aj sz ch lz H (take mo (drop (o+0) W0)))))))&&true)))) MW ([Wp [Vl (U7 1 (length (pk P))) (length (pk P)) 1 (bif true&&U5 (length (pk P)*1) (length (map dB (pk P)))then map dB (pk P)else take (length (pk P)*1) (drop 0 (map dB (pk P)))),zN (length P)],bl (aM (length P) (take mo (drop (o+0) W0)) (aj sz ch lz H (take mo (drop (o+0) W0)))),Vl (U7 1 mo) mo 1 (bif U5 (o+0) 0&&U5 (mo*1) (length (map dB W0))then map dB W0 else take (mo*1) (drop (o+0) (map dB W0))),Vl (U7 1 (length (aj sz ch lz H (take mo (drop (o+0) W0))))) (length (aj sz ch lz H (take mo (drop (o+0) W0)))) 3 (bif true&&U5 (length (aj sz ch lz H (take mo (drop (o+0) W0)))*3) (length (flatMap b5 (aj sz ch lz H (take mo (drop (o+0) W0)))))then flatMap b5 (aj sz ch lz H (take mo (drop (o+0) W0)))else take (length (aj sz ch lz H (take mo (drop (o+0) W0)))*3) (drop 0 (flatMap b5 (aj sz ch lz H (take mo (drop (o+0) W0)))))),D.v (.bool false)]) _ (by exact(VR (D.sim.agg (VR (D.sim.slw rfl (bW (by(have y1:=cz (P:=P) (kd:=aM P.length (take mo (drop (o+0) W0)) (aj sz ch lz H (take mo (drop (o+0) W0)))) (raw:=(take mo (drop (o+0) W0))) (l:=(aj sz ch lz H (take mo (drop (o+0) W0)))) (e:=0) (by rw[Vg];omega) (by refine Vq (bw _ _ _ _ _) ?_;rw[Vg];omega);have y3:=am (aT P (aM P.length (take mo (drop (o+0) W0)) (aj sz ch lz H (take mo (drop (o+0) W0)))) (take mo (drop (o+0) W0)) (aj sz ch lz H (take mo (drop (o+0) W0))) 0);have y4:=bx sz H (take mo (drop (o+0) W0));simp only[Vj,Vg,VM,VV,U9,Xk,W8];omega))|>.trans rfl)) (qr trivial))) (qr (VR (D.sim.slw rfl ((bj (W0) (o+0) (mo*1)).trans (by(simp;done)))) (VR (D.sim.slw rfl (bW (by(rw[gk];simp;done))|>.trans rfl)) (qr trivial)))))) (true) wr _ _ _ (VC (az.of Tryz.func57 rfl rfl) (@Ri (P) (length (pk P)) om om (aM (length P) (take mo (drop (o+0) W0)) (aj sz ch lz H (take mo (drop (o+0) W0)))) (by(exact xG _ _ _)) (take mo (drop (o+0) W0)) (mo) Hs om (aj sz ch lz H (take mo (drop (o+0) W0))) (length (aj sz ch lz H (take mo (drop (o+0) W0)))) om UO (by(exact pH hs.2)))) (.s 35 (.opt (bY VN (Vo VN (Yr (↑(length (aT P (aM (length P) (take mo (drop (o+0) W0)) (aj sz ch lz H (take mo (drop (o+0) W0)))) (take mo (drop (o+0) W0)) (aj sz ch lz H (take mo (drop (o+0) W0))) 0)):Int) 8))) (zI ((↑(length (aT P (aM (length P) (take mo (drop (o+0) W0)) (aj sz ch lz H (take mo (drop (o+0) W0)))) (take mo (drop (o+0) W0)) (aj sz ch lz H (take mo (drop (o+0) W0))) 0)):Int)/8)) (aQ (@cF  ((↑(length (aT P (aM (length P) (take mo (drop (o+0) W0)) (aj sz ch lz H (take mo (drop (o+0) W0)))) (take mo (drop (o+0) W0)) (aj sz ch lz H (take mo (drop (o+0) W0))) 0)):Int)) (8) MW om)) (.s 27 (.chk (aU none (some ((↑(length (aT P (aM (length P) (take mo (drop (o+0) W0)) (aj sz ch lz H (take mo (drop (o+0) W0)))) (take mo (drop (o+0) W0)) (aj sz ch lz H (take mo (drop (o+0) W0))) 0)):Int)/8)) none (length (pk (aT P (aM (length P) (take mo (drop (o+0) W0)) (aj sz ch lz H (take mo (drop (o+0) W0)))) (take mo (drop (o+0) W0)) (aj sz ch lz H (take mo (drop (o+0) W0))) 0)))&&true) (by(have y1:=cz (P:=P) (kd:=aM P.length (take mo (drop (o+0) W0)) (aj sz ch lz H (take mo (drop (o+0) W0)))) (raw:=(take mo (drop (o+0) W0))) (l:=(aj sz ch lz H (take mo (drop (o+0) W0)))) (e:=0) (by rw[Vg];omega) (by refine Vq (bw _ _ _ _ _) ?_;rw[Vg];omega);have y3:=am (aT P (aM P.length (take mo (drop (o+0) W0)) (aj sz ch lz H (take mo (drop (o+0) W0)))) (take mo (drop (o+0) W0)) (aj sz ch lz H (take mo (drop (o+0) W0))) 0);have y4:=bx sz H (take mo (drop (o+0) W0));exact ri (n:=((aT P (aM P.length (take mo (drop (o+0) W0)) (aj sz ch lz H (take mo (drop (o+0) W0)))) (take mo (drop (o+0) W0)) (aj sz ch lz H (take mo (drop (o+0) W0))) 0)).length/8) om om)) (.s 1 (.chk (true&&U5 (length O*1) (length (map dB O))&&true&&(true&&U7 (0+AB ((↑(length (aT P (aM (length P) (take mo (drop (o+0) W0)) (aj sz ch lz H (take mo (drop (o+0) W0)))) (take mo (drop (o+0) W0)) (aj sz ch lz H (take mo (drop (o+0) W0))) 0)):Int)/8)*1) (length (map dB (pk (aT P (aM (length P) (take mo (drop (o+0) W0)) (aj sz ch lz H (take mo (drop (o+0) W0)))) (take mo (drop (o+0) W0)) (aj sz ch lz H (take mo (drop (o+0) W0))) 0)))))&&true&&true&&U7 ((length O+AB ((↑(length (aT P (aM (length P) (take mo (drop (o+0) W0)) (aj sz ch lz H (take mo (drop (o+0) W0)))) (take mo (drop (o+0) W0)) (aj sz ch lz H (take mo (drop (o+0) W0))) 0)):Int)/8))*1) 140737488355328) UP (.s 25 (.chk (aU (some ((↑(length (aT P (aM (length P) (take mo (drop (o+0) W0)) (aj sz ch lz H (take mo (drop (o+0) W0)))) (take mo (drop (o+0) W0)) (aj sz ch lz H (take mo (drop (o+0) W0))) 0)):Int)/8)) none none (length (pk (aT P (aM (length P) (take mo (drop (o+0) W0)) (aj sz ch lz H (take mo (drop (o+0) W0)))) (take mo (drop (o+0) W0)) (aj sz ch lz H (take mo (drop (o+0) W0))) 0)))&&true) (by(have y1:=cz (P:=P) (kd:=aM P.length (take mo (drop (o+0) W0)) (aj sz ch lz H (take mo (drop (o+0) W0)))) (raw:=(take mo (drop (o+0) W0))) (l:=(aj sz ch lz H (take mo (drop (o+0) W0)))) (e:=0) (by rw[Vg];omega) (by refine Vq (bw _ _ _ _ _) ?_;rw[Vg];omega);have y3:=am (aT P (aM P.length (take mo (drop (o+0) W0)) (aj sz ch lz H (take mo (drop (o+0) W0)))) (take mo (drop (o+0) W0)) (aj sz ch lz H (take mo (drop (o+0) W0))) 0);have y4:=bx sz H (take mo (drop (o+0) W0));exact zW (n:=((aT P (aM P.length (take mo (drop (o+0) W0)) (aj sz ch lz H (take mo (drop (o+0) W0)))) (take mo (drop (o+0) W0)) (aj sz ch lz H (take mo (drop (o+0) W0))) 0)).length/8) om om)) (.s 1 (.call 56 false [] (true&&(true&&U7 (0+AB ((↑(length (aT P (aM (length P) (take mo (drop (o+0) W0)) (aj sz ch lz H (take mo (drop (o+0) W0)))) (take mo (drop (o+0) W0)) (aj sz ch lz H (take mo (drop (o+0) W0))) 0)):Int)/8)*1+(length (pk (aT P (aM (length P) (take mo (drop (o+0) W0)) (aj sz ch lz H (take mo (drop (o+0) W0)))) (take mo (drop (o+0) W0)) (aj sz ch lz H (take mo (drop (o+0) W0))) 0))-AB ((↑(length (aT P (aM (length P) (take mo (drop (o+0) W0)) (aj sz ch lz H (take mo (drop (o+0) W0)))) (take mo (drop (o+0) W0)) (aj sz ch lz H (take mo (drop (o+0) W0))) 0)):Int)/8))*1) (length (map dB (pk (aT P (aM (length P) (take mo (drop (o+0) W0)) (aj sz ch lz H (take mo (drop (o+0) W0)))) (take mo (drop (o+0) W0)) (aj sz ch lz H (take mo (drop (o+0) W0))) 0))))&&true&&ab (bif U5 (0+AB ((↑(length (aT P (aM (length P) (take mo (drop (o+0) W0)) (aj sz ch lz H (take mo (drop (o+0) W0)))) (take mo (drop (o+0) W0)) (aj sz ch lz H (take mo (drop (o+0) W0))) 0)):Int)/8)*1) 0&&U5 ((length (pk (aT P (aM (length P) (take mo (drop (o+0) W0)) (aj sz ch lz H (take mo (drop (o+0) W0)))) (take mo (drop (o+0) W0)) (aj sz ch lz H (take mo (drop (o+0) W0))) 0))-AB ((↑(length (aT P (aM (length P) (take mo (drop (o+0) W0)) (aj sz ch lz H (take mo (drop (o+0) W0)))) (take mo (drop (o+0) W0)) (aj sz ch lz H (take mo (drop (o+0) W0))) 0)):Int)/8))*1) (length (map dB (pk (aT P (aM (length P) (take mo (drop (o+0) W0)) (aj sz ch lz H (take mo (drop (o+0) W0)))) (take mo (drop (o+0) W0)) (aj sz ch lz H (take mo (drop (o+0) W0))) 0))))then map dB (pk (aT P (aM (length P) (take mo (drop (o+0) W0)) (aj sz ch lz H (take mo (drop (o+0) W0)))) (take mo (drop (o+0) W0)) (aj sz ch lz H (take mo (drop (o+0) W0))) 0))else take ((length (pk (aT P (aM (length P) (take mo (drop (o+0) W0)) (aj sz ch lz H (take mo (drop (o+0) W0)))) (take mo (drop (o+0) W0)) (aj sz ch lz H (take mo (drop (o+0) W0))) 0))-AB ((↑(length (aT P (aM (length P) (take mo (drop (o+0) W0)) (aj sz ch lz H (take mo (drop (o+0) W0)))) (take mo (drop (o+0) W0)) (aj sz ch lz H (take mo (drop (o+0) W0))) 0)):Int)/8))*1) (drop (0+AB ((↑(length (aT P (aM (length P) (take mo (drop (o+0) W0)) (aj sz ch lz H (take mo (drop (o+0) W0)))) (take mo (drop (o+0) W0)) (aj sz ch lz H (take mo (drop (o+0) W0))) 0)):Int)/8)*1) (map dB (pk (aT P (aM (length P) (take mo (drop (o+0) W0)) (aj sz ch lz H (take mo (drop (o+0) W0)))) (take mo (drop (o+0) W0)) (aj sz ch lz H (take mo (drop (o+0) W0))) 0))))))&&true) MW ([Vl (U7 1 (length (pk (aT P (aM (length P) (take mo (drop (o+0) W0)) (aj sz ch lz H (take mo (drop (o+0) W0)))) (take mo (drop (o+0) W0)) (aj sz ch lz H (take mo (drop (o+0) W0))) 0))-AB ((↑(length (aT P (aM (length P) (take mo (drop (o+0) W0)) (aj sz ch lz H (take mo (drop (o+0) W0)))) (take mo (drop (o+0) W0)) (aj sz ch lz H (take mo (drop (o+0) W0))) 0)):Int)/8))) (length (pk (aT P (aM (length P) (take mo (drop (o+0) W0)) (aj sz ch lz H (take mo (drop (o+0) W0)))) (take mo (drop (o+0) W0)) (aj sz ch lz H (take mo (drop (o+0) W0))) 0))-AB ((↑(length (aT P (aM (length P) (take mo (drop (o+0) W0)) (aj sz ch lz H (take mo (drop (o+0) W0)))) (take mo (drop (o+0) W0)) (aj sz ch lz H (take mo (drop (o+0) W0))) 0)):Int)/8)) 1 (bif U5 (0+AB ((↑(length (aT P (aM (length P) (take mo (drop (o+0) W0)) (aj sz ch lz H (take mo (drop (o+0) W0)))) (take mo (drop (o+0) W0)) (aj sz ch lz H (take mo (drop (o+0) W0))) 0)):Int)/8)*1) 0&&U5 ((length (pk (aT P (aM (length P) (take mo (drop (o+0) W0)) (aj sz ch lz H (take mo (drop (o+0) W0)))) (take mo (drop (o+0) W0)) (aj sz ch lz H (take mo (drop (o+0) W0))) 0))-AB ((↑(length (aT P (aM (length P) (take mo (drop (o+0) W0)) (aj sz ch lz H (take mo (drop (o+0) W0)))) (take mo (drop (o+0) W0)) (aj sz ch lz H (take mo (drop (o+0) W0))) 0)):Int)/8))*1) (length (map dB (pk (aT P (aM (length P) (take mo (drop (o+0) W0)) (aj sz ch lz H (take mo (drop (o+0) W0)))) (take mo (drop (o+0) W0)) (aj sz ch lz H (take mo (drop (o+0) W0))) 0))))then map dB (pk (aT P (aM (length P) (take mo (drop (o+0) W0)) (aj sz ch lz H (take mo (drop (o+0) W0)))) (take mo (drop (o+0) W0)) (aj sz ch lz H (take mo (drop (o+0) W0))) 0))else take ((length (pk (aT P (aM (length P) (take mo (drop (o+0) W0)) (aj sz ch lz H (take mo (drop (o+0) W0)))) (take mo (drop (o+0) W0)) (aj sz ch lz H (take mo (drop (o+0) W0))) 0))-AB ((↑(length (aT P (aM (length P) (take mo (drop (o+0) W0)) (aj sz ch lz H (take mo (drop (o+0) W0)))) (take mo (drop (o+0) W0)) (aj sz ch lz H (take mo (drop (o+0) W0))) 0)):Int)/8))*1) (drop (0+AB ((↑(length (aT P (aM (length P) (take mo (drop (o+0) W0)) (aj sz ch lz H (take mo (drop (o+0) W0)))) (take mo (drop (o+0) W0)) (aj sz ch lz H (take mo (drop (o+0) W0))) 0)):Int)/8)*1) (map dB (pk (aT P (aM (length P) (take mo (drop (o+0) W0)) (aj sz ch lz H (take mo (drop (o+0) W0)))) (take mo (drop (o+0) W0)) (aj sz ch lz H (take mo (drop (o+0) W0))) 0)))))]) _ (by exact(VR (D.sim.slw rfl ((bj (pk (aT P (aM (length P) (take mo (drop (o+0) W0)) (aj sz ch lz H (take mo (drop (o+0) W0)))) (take mo (drop (o+0) W0)) (aj sz ch lz H (take mo (drop (o+0) W0))) 0)) (0+AB ((↑(length (aT P (aM (length P) (take mo (drop (o+0) W0)) (aj sz ch lz H (take mo (drop (o+0) W0)))) (take mo (drop (o+0) W0)) (aj sz ch lz H (take mo (drop (o+0) W0))) 0)):Int)/8)*1) ((length (pk (aT P (aM (length P) (take mo (drop (o+0) W0)) (aj sz ch lz H (take mo (drop (o+0) W0)))) (take mo (drop (o+0) W0)) (aj sz ch lz H (take mo (drop (o+0) W0))) 0))-AB ((↑(length (aT P (aM (length P) (take mo (drop (o+0) W0)) (aj sz ch lz H (take mo (drop (o+0) W0)))) (take mo (drop (o+0) W0)) (aj sz ch lz H (take mo (drop (o+0) W0))) 0)):Int)/8))*1)).trans (by(simp;done)))) trivial)) (true) wr _ _ _ (VC (az.of Tryz.func56 rfl rfl) (@ja (take (length (pk (aT P (aM (length P) (take mo (drop (o+0) W0)) (aj sz ch lz H (take mo (drop (o+0) W0)))) (take mo (drop (o+0) W0)) (aj sz ch lz H (take mo (drop (o+0) W0))) 0))-AB ((↑(length (aT P (aM (length P) (take mo (drop (o+0) W0)) (aj sz ch lz H (take mo (drop (o+0) W0)))) (take mo (drop (o+0) W0)) (aj sz ch lz H (take mo (drop (o+0) W0))) 0)):Int)/8)) (drop (AB ((↑(length (aT P (aM (length P) (take mo (drop (o+0) W0)) (aj sz ch lz H (take mo (drop (o+0) W0)))) (take mo (drop (o+0) W0)) (aj sz ch lz H (take mo (drop (o+0) W0))) 0)):Int)/8)) (pk (aT P (aM (length P) (take mo (drop (o+0) W0)) (aj sz ch lz H (take mo (drop (o+0) W0)))) (take mo (drop (o+0) W0)) (aj sz ch lz H (take mo (drop (o+0) W0))) 0)))) (length (pk (aT P (aM (length P) (take mo (drop (o+0) W0)) (aj sz ch lz H (take mo (drop (o+0) W0)))) (take mo (drop (o+0) W0)) (aj sz ch lz H (take mo (drop (o+0) W0))) 0))-AB ((↑(length (aT P (aM (length P) (take mo (drop (o+0) W0)) (aj sz ch lz H (take mo (drop (o+0) W0)))) (take mo (drop (o+0) W0)) (aj sz ch lz H (take mo (drop (o+0) W0))) 0)):Int)/8)) (by(simp;done)) MW)) (.s 16 (.opt (bY VN (XK (↑(length (aT P (aM (length P) (take mo (drop (o+0) W0)) (aj sz ch lz H (take mo (drop (o+0) W0)))) (take mo (drop (o+0) W0)) (aj sz ch lz H (take mo (drop (o+0) W0))) 0)):Int) 8)) (zI ((↑(length (aT P (aM (length P) (take mo (drop (o+0) W0)) (aj sz ch lz H (take mo (drop (o+0) W0)))) (take mo (drop (o+0) W0)) (aj sz ch lz H (take mo (drop (o+0) W0))) 0)):Int)%8)) (aQ (@ee  ((↑(length (aT P (aM (length P) (take mo (drop (o+0) W0)) (aj sz ch lz H (take mo (drop (o+0) W0)))) (take mo (drop (o+0) W0)) (aj sz ch lz H (take mo (drop (o+0) W0))) 0)):Int)) (8) om)) (.s 25 (.chk (true&&U5 (length H*1) (length (map dB H))&&true&&(true&&U7 (o+0+mo*1) (length (map dB W0)))&&true&&true&&U7 ((length H+mo)*1) 140737488355328) UP (.s 21 (.ow ((↑(length H+mo):Int)-(sz:Int)) (.s 1 (.opt (k6 VN true 0 ((↑(length H+mo):Int)-(sz:Int))) (zI (max 0 ((↑(length H+mo):Int)-(sz:Int)))) (jv _ _ _) (.s 1 (.chk (aU (some (max 0 ((↑(length H+mo):Int)-(sz:Int)))) none none (length H+mo)&&true) Hs (.s 1 (.call 56 false [] (true&&(true&&U7 (0+AB (max 0 ((↑(length H+mo):Int)-(sz:Int)))*1+(length H+mo-AB (max 0 ((↑(length H+mo):Int)-(sz:Int))))*1) (length (map dB H++bif U5 (o+0) 0&&U5 (mo*1) (length (map dB W0))then map dB W0 else take (mo*1) (drop (o+0) (map dB W0))))&&true&&ab (bif U5 (0+AB (max 0 ((↑(length H+mo):Int)-(sz:Int)))*1) 0&&U5 ((length H+mo-AB (max 0 ((↑(length H+mo):Int)-(sz:Int))))*1) (length (map dB H++bif U5 (o+0) 0&&U5 (mo*1) (length (map dB W0))then map dB W0 else take (mo*1) (drop (o+0) (map dB W0))))then map dB H++bif U5 (o+0) 0&&U5 (mo*1) (length (map dB W0))then map dB W0 else take (mo*1) (drop (o+0) (map dB W0))else take ((length H+mo-AB (max 0 ((↑(length H+mo):Int)-(sz:Int))))*1) (drop (0+AB (max 0 ((↑(length H+mo):Int)-(sz:Int)))*1) (map dB H++bif U5 (o+0) 0&&U5 (mo*1) (length (map dB W0))then map dB W0 else take (mo*1) (drop (o+0) (map dB W0))))))&&true) (by(simp only[bj];simp <;>(omega))) ([Vl (U7 1 (length H+mo-AB (max 0 ((↑(length H+mo):Int)-(sz:Int))))) (length H+mo-AB (max 0 ((↑(length H+mo):Int)-(sz:Int)))) 1 (bif U5 (0+AB (max 0 ((↑(length H+mo):Int)-(sz:Int)))*1) 0&&U5 ((length H+mo-AB (max 0 ((↑(length H+mo):Int)-(sz:Int))))*1) (length (map dB H++bif U5 (o+0) 0&&U5 (mo*1) (length (map dB W0))then map dB W0 else take (mo*1) (drop (o+0) (map dB W0))))then map dB H++bif U5 (o+0) 0&&U5 (mo*1) (length (map dB W0))then map dB W0 else take (mo*1) (drop (o+0) (map dB W0))else take ((length H+mo-AB (max 0 ((↑(length H+mo):Int)-(sz:Int))))*1) (drop (0+AB (max 0 ((↑(length H+mo):Int)-(sz:Int)))*1) (map dB H++bif U5 (o+0) 0&&U5 (mo*1) (length (map dB W0))then map dB W0 else take (mo*1) (drop (o+0) (map dB W0)))))]) _ (by exact(VR (D.sim.slN rfl (by(simp only[bj];simp <;>(omega)))) trivial)) (true) wr _ _ _ (VC (az.of Tryz.func56 rfl rfl) (@J2 (U7 1 (length H+mo-AB (max 0 ((↑(length H+mo):Int)-(sz:Int))))) (H++take mo (drop (o+0) W0)) (length H+mo-AB (max 0 ((↑(length H+mo):Int)-(sz:Int)))) (AB (max 0 ((↑(length H+mo):Int)-(sz:Int)))) Hs om)) (.s 14 (.chk (aU (some (mo:Int)) none none (w+n-o)&&true) Hs (.s 1 (.val 9 (U6 32 32 (o+mo*1) (w+n-o-mo) 1) (U6 32 32 (o+mo) (w+n-(o+mo)) 1) Hs (.blk 24 24 (U1 [zN sz,zN ch,zN mo,D.v (.bool lz),U6 1328 1328 0 (length H+mo-AB (max 0 ((↑(length H+mo):Int)-(sz:Int)))) 1,U6 168 168 0 w 1,U6 1056 1056 0 (length (pk (aT P (aM (length P) (take mo (drop (o+0) W0)) (aj sz ch lz H (take mo (drop (o+0) W0)))) (take mo (drop (o+0) W0)) (aj sz ch lz H (take mo (drop (o+0) W0))) 0))-AB ((↑(length (aT P (aM (length P) (take mo (drop (o+0) W0)) (aj sz ch lz H (take mo (drop (o+0) W0)))) (take mo (drop (o+0) W0)) (aj sz ch lz H (take mo (drop (o+0) W0))) 0)):Int)/8)) 1,zI ((↑(length (aT P (aM (length P) (take mo (drop (o+0) W0)) (aj sz ch lz H (take mo (drop (o+0) W0)))) (take mo (drop (o+0) W0)) (aj sz ch lz H (take mo (drop (o+0) W0))) 0)):Int)%8),D.v (.bool false),U6 952 952 0 (length O+AB ((↑(length (aT P (aM (length P) (take mo (drop (o+0) W0)) (aj sz ch lz H (take mo (drop (o+0) W0)))) (take mo (drop (o+0) W0)) (aj sz ch lz H (take mo (drop (o+0) W0))) 0)):Int)/8)) 1] 68 false) (U1 [zN sz,zN ch,zN mo,D.v (.bool lz),U6 1328 1328 0 (length (xH sz H (take mo (drop o W0)))) 1,U6 168 168 0 w 1,U6 1056 1056 0 (length (pk (pT (ir sz ch lz H (take mo (drop o W0)) P 0)))) 1,zN (length (pT (ir sz ch lz H (take mo (drop o W0)) P 0))),D.v (.bool false),U6 952 952 0 (length (O++pk (pA (ir sz ch lz H (take mo (drop o W0)) P 0)))) 1] 68 false) (by(refine Ro ?_ ?_ ?_ ?_<;>(try rw[show(ir sz ch lz H (take mo (drop o W0)) P 0)=(aT P (aM P.length (take mo (drop (o+0) W0)) (aj sz ch lz H (take mo (drop (o+0) W0)))) (take mo (drop (o+0) W0)) (aj sz ch lz H (take mo (drop (o+0) W0))) 0)from rfl])<;>(try rw[bx,Vg,VH,hW0l])<;>(try rw[U2])<;>(try rw[am (pT _)])<;>(try rw[eK])<;>(try rw[am (pA _),gq])<;>(have y1:=cz (P:=P) (kd:=aM P.length (take mo (drop (o+0) W0)) (aj sz ch lz H (take mo (drop (o+0) W0)))) (raw:=(take mo (drop (o+0) W0))) (l:=(aj sz ch lz H (take mo (drop (o+0) W0)))) (e:=0) (by rw[Vg];omega) (by refine Vq (bw _ _ _ _ _) ?_;rw[Vg];omega);have y3:=am (aT P (aM P.length (take mo (drop (o+0) W0)) (aj sz ch lz H (take mo (drop (o+0) W0)))) (take mo (drop (o+0) W0)) (aj sz ch lz H (take mo (drop (o+0) W0))) 0);have y4:=bx sz H (take mo (drop (o+0) W0));omega))) (.blk 952 952 (U1 (map dB O++bif true&&U5 (AB ((↑(length (aT P (aM (length P) (take mo (drop (o+0) W0)) (aj sz ch lz H (take mo (drop (o+0) W0)))) (take mo (drop (o+0) W0)) (aj sz ch lz H (take mo (drop (o+0) W0))) 0)):Int)/8)*1) (length (map dB (pk (aT P (aM (length P) (take mo (drop (o+0) W0)) (aj sz ch lz H (take mo (drop (o+0) W0)))) (take mo (drop (o+0) W0)) (aj sz ch lz H (take mo (drop (o+0) W0))) 0))))then map dB (pk (aT P (aM (length P) (take mo (drop (o+0) W0)) (aj sz ch lz H (take mo (drop (o+0) W0)))) (take mo (drop (o+0) W0)) (aj sz ch lz H (take mo (drop (o+0) W0))) 0))else take (AB ((↑(length (aT P (aM (length P) (take mo (drop (o+0) W0)) (aj sz ch lz H (take mo (drop (o+0) W0)))) (take mo (drop (o+0) W0)) (aj sz ch lz H (take mo (drop (o+0) W0))) 0)):Int)/8)*1) (drop 0 (map dB (pk (aT P (aM (length P) (take mo (drop (o+0) W0)) (aj sz ch lz H (take mo (drop (o+0) W0)))) (take mo (drop (o+0) W0)) (aj sz ch lz H (take mo (drop (o+0) W0))) 0))))) 5 true) (U1 (map dB (O++pk (pA (ir sz ch lz H (take mo (drop o W0)) P 0)))) 5 true) (by(have y1:=cz (P:=P) (kd:=aM P.length (take mo (drop (o+0) W0)) (aj sz ch lz H (take mo (drop (o+0) W0)))) (raw:=(take mo (drop (o+0) W0))) (l:=(aj sz ch lz H (take mo (drop (o+0) W0)))) (e:=0) (by rw[Vg];omega) (by refine Vq (bw _ _ _ _ _) ?_;rw[Vg];omega);have y3:=am (aT P (aM P.length (take mo (drop (o+0) W0)) (aj sz ch lz H (take mo (drop (o+0) W0)))) (take mo (drop (o+0) W0)) (aj sz ch lz H (take mo (drop (o+0) W0))) 0);have y4:=bx sz H (take mo (drop (o+0) W0));rw[zV];refine aB (Hu ?_);omega)) (.blk 1328 1328 (U1 (map dB (take (length H+mo-AB (max 0 ((↑(length H+mo):Int)-(sz:Int)))) (drop (AB (max 0 ((↑(length H+mo):Int)-(sz:Int)))) (H++take mo (drop (o+0) W0))))) 5 true) (U1 (map dB (xH sz H (take mo (drop o W0)))) 5 true) (by(refine aB (congrArg (map dB) ?_);rw[VB (by rw[VH,U2,Vg,VH,hW0l];omega)];exact EH (by rw[U2,Vg,VH,hW0l];omega))) (.blk 1056 1056 (U1 (map dB (take (length (pk (aT P (aM (length P) (take mo (drop (o+0) W0)) (aj sz ch lz H (take mo (drop (o+0) W0)))) (take mo (drop (o+0) W0)) (aj sz ch lz H (take mo (drop (o+0) W0))) 0))-AB ((↑(length (aT P (aM (length P) (take mo (drop (o+0) W0)) (aj sz ch lz H (take mo (drop (o+0) W0)))) (take mo (drop (o+0) W0)) (aj sz ch lz H (take mo (drop (o+0) W0))) 0)):Int)/8)) (drop (AB ((↑(length (aT P (aM (length P) (take mo (drop (o+0) W0)) (aj sz ch lz H (take mo (drop (o+0) W0)))) (take mo (drop (o+0) W0)) (aj sz ch lz H (take mo (drop (o+0) W0))) 0)):Int)/8)) (pk (aT P (aM (length P) (take mo (drop (o+0) W0)) (aj sz ch lz H (take mo (drop (o+0) W0)))) (take mo (drop (o+0) W0)) (aj sz ch lz H (take mo (drop (o+0) W0))) 0))))) 5 true) (U1 (map dB (pk (pT (ir sz ch lz H (take mo (drop o W0)) P 0)))) 5 true) (by(have y1:=cz (P:=P) (kd:=aM P.length (take mo (drop (o+0) W0)) (aj sz ch lz H (take mo (drop (o+0) W0)))) (raw:=(take mo (drop (o+0) W0))) (l:=(aj sz ch lz H (take mo (drop (o+0) W0)))) (e:=0) (by rw[Vg];omega) (by refine Vq (bw _ _ _ _ _) ?_;rw[Vg];omega);have y3:=am (aT P (aM P.length (take mo (drop (o+0) W0)) (aj sz ch lz H (take mo (drop (o+0) W0)))) (take mo (drop (o+0) W0)) (aj sz ch lz H (take mo (drop (o+0) W0))) 0);have y4:=bx sz H (take mo (drop (o+0) W0));refine aB (congrArg (map dB) ?_);rw[VB (by rw[VH];exact Vd _)];exact(rE (aT P (aM P.length (take mo (drop (o+0) W0)) (aj sz ch lz H (take mo (drop (o+0) W0)))) (take mo (drop (o+0) W0)) (aj sz ch lz H (take mo (drop (o+0) W0))) 0) om).h)) (Hn.next ZA ⟨(xH sz H (take mo (drop o W0))),(pT (ir sz ch lz H (take mo (drop o W0)) P 0)),(o+mo),(O++pk (pA (ir sz ch lz H (take mo (drop o W0)) P 0))),(f-1),(by(rw[eK];exact Yw _ (by decide))),(by(rw[bx];omega)),om,om,(by(rw[U2,am,gq];have y:(ir sz ch lz H (take mo (drop o W0)) P 0).length<=P.length+3800000:=cz (by rw[Vg];omega) (by refine Vq (bw _ _ _ _ _) ?_;rw[Vg];omega);omega)),(by(refine Ht hR hW0l om om om rfl)),⟨⟩⟩ (by show w+n-(o+mo)<w+n-o;clear ZA ZD;omega) [(0,0),(1328,1328),(1056,1056),(24,24),(32,32),(952,952)] ro)))))))))))))))))))))))))))))))))))))))))) (λ p0 Z7=>(.blk 24 24 (U1 [zN sz,zN ch,zN mo,D.v (.bool lz),U6 8 8 0 (length H) 1,U6 168 168 0 w 1,U6 16 16 0 (length (pk P)) 1,zN (length P),D.v (.bool false),U6 40 40 0 (length O) 1] 68 false) (U1 [zN sz,zN ch,zN mo,D.v (.bool lz),U6 8 8 0 (length (Ls.H T)) 1,U6 168 168 0 w 1,U6 16 16 0 (length (pk (Ls.P T))) 1,zN (length (Ls.P T)),D.v (.bool false),U6 40 40 0 (length (Ls.O T)) 1] 68 false) (by(obtain⟨e1,e2,e3,e4⟩:=pX hR hW0l om;rw[e1,e2,e4])) (.blk 40 40 (U1 (map dB O) 5 true) (U1 (map dB (Ls.O T)) 5 true) (by(obtain⟨e1,e2,e3,e4⟩:=pX hR hW0l om;rw[e4])) (.blk 8 8 (U1 (map dB H) 5 true) (U1 (map dB (Ls.H T)) 5 true) (by(obtain⟨e1,e2,e3,e4⟩:=pX hR hW0l om;rw[e1])) (.blk 16 16 (U1 (map dB (pk P)) 5 true) (U1 (map dB (pk (Ls.P T))) 5 true) (by(obtain⟨e1,e2,e3,e4⟩:=pX hR hW0l om;rw[e2])) (Hn.last ZD 0 (⟨(o),om,(by(obtain⟨e1,e2,e3,e4⟩:=pX hR hW0l om;exact e3)),⟨⟩⟩:(o2:Nat)×'(ho2:o2<=w+n)×'(hw2:take (w+n-o2) (drop o2 W0)=T.w)×'Unit) rfl [(0,0),(8,8),(16,16),(24,24),(32,32),(40,40)] ro))))))))) (fun|⟨H,P,o,O,f,hP,hH,ho,hf,hO,hR,_⟩=>by kernel_rfl) ⟨(H0),(P0),(0),([]),(w+n),om,om,om,om,(by(simp;done)),om,⟨⟩⟩ [(8,8),(144,144),(232,232),(280,280),(448,448),(464,464)] ro (ck (fun|⟨o2,ho2,hw2,_⟩=>(.s 3 (.call 37 false [] (true&&(true&&U7 (o2+(w+n-o2)*1) (length (map dB W0))&&true&&ab (bif U5 o2 0&&U5 ((w+n-o2)*1) (length (map dB W0))then map dB W0 else take ((w+n-o2)*1) (drop o2 (map dB W0))))&&true) (by(simp only[bj];simp <;>(omega))) ([Vl (U7 1 (w+n-o2)) (w+n-o2) 1 (bif U5 o2 0&&U5 ((w+n-o2)*1) (length (map dB W0))then map dB W0 else take ((w+n-o2)*1) (drop o2 (map dB W0)))]) _ (by exact(VR (D.sim.slw rfl ((bj (W0) (o2) ((w+n-o2)*1)).trans (by(simp;done)))) trivial)) (true) wr _ _ _ (VC (az.of Tryz.func37 rfl rfl) (@Rm (take (w+n-o2) (drop o2 W0)) (w+n-o2) (by(simp <;>(omega))) om)) (.s 57 (.out [8,192,16,40] [8,192,16,40] (V2 [Wp [zN sz,zN ch,zN mo,D.v (.bool lz),U6 0 0 0 (length (Ls.H T)) 1,U6 1 1 0 (w+n-o2) 1,U6 2 2 0 (length (pk (Ls.P T))) 1,zN (length (Ls.P T)),D.v (.bool false)],U6 3 3 0 (length (Ls.O T)) 1,zI 0]) [U1 (map dB (Ls.H T)) 5 true,U1 (map dB (take (w+n-o2) (drop o2 W0))) 5 true,U1 (map dB (pk (Ls.P T))) 5 true,U1 (map dB (Ls.O T)) 5 true] R (ok _ _ (by(have q:=congrArg length hw2;rw[Vg,VH,hW0l]at q;refine congrArg (λ z=>V2 [Wp [nD sz,nD ch,nD mo,bD lz,.ref 0 0 0 T.H.length 1,.ref 1 1 0 z 1,.ref 2 2 0 (pk T.P).length 1,nD T.P.length,bD false],.ref 3 3 0 T.O.length 1,iD 0]) ?_;omega)) (by(simp_all;done)))))))))))))))))))))))))))) kr
end Vp
end Go.Proofs.YtefjnofhgkjpmaaGreat
namespace Go.Proofs.YtefjnofhgkjpmaaGreat
open Go.RowKit Go.Bw Go.Vx
open List (length getD map take drop flatMap replicate)
namespace Vp
theorem EY {p:Prop}(h:p:=by((repeat' (first|(refine aI ?_ ?_)|(with_reducible rfl)|(refine EG ?_)|exact cR _|exact hclT _|(refine U8 ?_)))<;>(try simp only[Vj,gk,VK])<;>(have y1:=cz (P:=P) (kd:=aM P.length W (aj sz ch lz H W)) (raw:=W) (l:=(aj sz ch lz H W)) (e:=1) om (Vq (bw _ _ _ _ _) om);have y2:=am (aT P (aM P.length W (aj sz ch lz H W)) W (aj sz ch lz H W) 1);have y3:=bx sz H W;have y4:=am P;omega))):p:=h
theorem UQ {p:Prop}(h:p:=by exact(VR (D.sim.of_eq (by(simp_all;done))) (VR (D.sim.slN rfl (bW (by(have y1:=cz (P:=P) (kd:=aM P.length W (aj sz ch lz H W)) (raw:=W) (l:=(aj sz ch lz H W)) (e:=1) om (Vq (bw _ _ _ _ _) om);have y2:=am (aT P (aM P.length W (aj sz ch lz H W)) W (aj sz ch lz H W) 1);have y3:=bx sz H W;have y4:=am P;simp only[Vj,Vg,VM,VV,U9,Xk,W8];omega))|>.trans rfl)) trivial))):p:=h
theorem UR {p:Prop}(h:p:=by(have y1:=cz (P:=P) (kd:=aM P.length W (aj sz ch lz H W)) (raw:=W) (l:=(aj sz ch lz H W)) (e:=1) om (Vq (bw _ _ _ _ _) om);have y2:=am (aT P (aM P.length W (aj sz ch lz H W)) W (aj sz ch lz H W) 1);have y3:=bx sz H W;have y4:=am P;simp only[Vj,Vg,VM,VV,U9,Xk,W8];omega)):p:=h
theorem US {p:Prop}(h:p:=by(simp;have y1:=cz (P:=P) (kd:=aM P.length W (aj sz ch lz H W)) (raw:=W) (l:=(aj sz ch lz H W)) (e:=1) om (Vq (bw _ _ _ _ _) om);have y2:=am (aT P (aM P.length W (aj sz ch lz H W)) W (aj sz ch lz H W) 1);have y3:=bx sz H W;have y4:=am P;omega)):p:=h
theorem EI (a:Nat)(raw:Z1)(l:List Tn)(ha:a<=7):(a+tK a 0 raw l)%8=0:=by
 rw[pW,gW,ZF rfl];unfold nj;rw[fK,cw];have h2:∀r:Z1,sm (r.map vb)=8*r.length:=λ r=>by
  induction r with
  |nil=>rfl
  |cons x r ih=>rw[WM,mb,ih,VE];show 8+_=_;omega
 rw[h2];have h4:sm (Pb 0 a raw.length)=1+(2+(gv a+(16+(16+0)))):=rfl;have h5:=lE a;omega
theorem Rp {a b c d e f g:D}{n0 m0 n1 m1 n2 m2 y:Nat}{x:Int}(h0:n0=m0)(h1:n1=m1)(hx:x=((y:Nat):Int))(h2:n2=m2):V2 [Wp [a,b,c,d,.ref 0 0 0 n0 1,e,.ref 1 1 0 n1 1,D.v (.int .i64 x),f],.ref 2 2 0 n2 1,g]=V2 [Wp [a,b,c,d,.ref 0 0 0 m0 1,e,.ref 1 1 0 m1 1,nD y,f],.ref 2 2 0 m2 1,g]:=by subst h0 h1 hx h2;rfl
theorem Rq {a a' b b' c c':List D}{t:TypeId}(h0:a=a')(h1:b=b')(h2:c=c'):[U1 a t true,U1 b t true,U1 c t true]=[⟨a',t,true⟩,⟨b',t,true⟩,⟨c',t,true⟩]:=by subst h0 h1 h2;rfl
theorem Hv {sz n k:Nat}{H W:Z1}(hk:k=(H++W).length-sz)(hn:n=(H++W).length-k):WY dB (VX n (VW k (H++W)))=(xH sz H W).map dB:=by
 rw[VB (by rw[VH];omega),EH hk]
theorem EJ {n k:Nat}{X:Z1}(hk:X.length<=k):WY dB (VX n (VW k X))=[]:=by
 rw[Wv hk,List.take_nil];rfl
theorem yi {k:Nat}{X:Z1}(hk:X.length<=k):(bif true&&U5 (k*1) (WY dB X).length then WY dB X else VX (k*1) (VW 0 (WY dB X)))=X.map dB:=by
 rw[zV,VB hk]
theorem Hw (sz ch mo:Nat)(lz:Bool)(hs:1<=sz∧sz<=32768)(hc:ch<=256)(hmo:1<=mo∧mo<=65535)(H:Z1)(h:Nat)(hh:h=H.length)(hh2:h<=sz)(W:Z1)(w:Nat)(hw:w=W.length)(hw2:w<mo)(P:List Bool)(m:Nat)(hm:m=(pk P).length)(hP:P.length<8):S0 23 [.agg [nD sz,nD ch,nD mo,bD lz,.sl false h 1 (H.map dB),.sl false w 1 (W.map dB),.sl false m 1 ((pk P).map dB),nD P.length,bD false]] [] (.tup [.agg [nD sz,nD ch,nD mo,bD lz,.ref 0 0 0 (xH sz H W).length 1,dw,.ref 1 1 0 0 1,nD 0,bD true],.ref 2 2 0 (pk (ir sz ch lz H W P 1)).length 1,iD 0]) [⟨(xH sz H W).map dB, 5,true⟩,⟨[], 5,true⟩,⟨(pk (ir sz ch lz H W P 1)).map dB, 5,true⟩]:=by
 have hclT:=λ l:List Tn=>(fO (f:=b5) (λ _=>rfl) l)
 refine SpecH.run T_ok ah Tryz.func23 rfl rfl rfl ⟨bn _,rfl,bn _,trivial⟩ rfl 1000 64 (λ R ok=>(.s 21 (.cl 18 false [] (.fn Um (@J1 (sz) (ch) (mo) (lz) om om om (H) (h) om om (W) (w) om om (P) (m) om om (false) (by(simp;done)))) (.s 20 (.cl 56 false [] (.fn In (@ja (H) (h) om om)) (.s 7 (.cl 56 false [] (.fn In (@ja (W) (w) om om)) (.s 22 (.cl 56 false [] (.fn In (@ja (pk P) (m) om EY)) (.s 67 (.call 48 false [] (true&&(true&&(true&&(true&&(true&&(true&&(true&&U7 (0+h*1) (length (map dB H))&&true&&ab (bif true&&U5 (h*1) (length (map dB H))then map dB H else take (h*1) (drop 0 (map dB H)))&&(true&&U7 (0+w*1) (length (map dB W))&&true&&ab (bif true&&U5 (w*1) (length (map dB W))then map dB W else take (w*1) (drop 0 (map dB W)))&&(true&&U7 (0+m*1) (length (map dB (pk P)))&&true&&ab (bif true&&U5 (m*1) (length (map dB (pk P)))then map dB (pk P)else take (m*1) (drop 0 (map dB (pk P))))&&true))))))))&&(true&&(true&&U7 (0+w*1) (length (map dB W))&&true&&ab (bif true&&U5 (w*1) (length (map dB W))then map dB W else take (w*1) (drop 0 (map dB W))))&&true)) EY ([D.ep [zN sz,zN ch,zN mo,D.v (.bool lz),Vl (U7 1 h) h 1 (bif true&&U5 (h*1) (length (map dB H))then map dB H else take (h*1) (drop 0 (map dB H))),Vl (U7 1 w) w 1 (bif true&&U5 (w*1) (length (map dB W))then map dB W else take (w*1) (drop 0 (map dB W))),Vl (U7 1 m) m 1 (bif true&&U5 (m*1) (length (map dB (pk P)))then map dB (pk P)else take (m*1) (drop 0 (map dB (pk P)))),zN (length P),D.v (.bool false),zS] 0,Vl (U7 1 w) w 1 (bif true&&U5 (w*1) (length (map dB W))then map dB W else take (w*1) (drop 0 (map dB W)))]) _ UQ (true) wr _ _ _ (VC (az.of Tryz.func48 rfl rfl) (@Rl (sz) (ch) (mo) (lz) om om om (U7 1 h) (U7 1 w) (H) (h) om om (Vl (U7 1 w) w 1 (map dB W)) (Vl (U7 1 m) m 1 (map dB (pk P))) (zN (length P)) (D.v (.bool false)) (zS) (W) (w) om om)) (.s 1 (.call 58 false [] (true&&(true&&(true&&U7 (0+w*1) (length (map dB W))&&true&&ab (bif true&&U5 (w*1) (length (map dB W))then map dB W else take (w*1) (drop 0 (map dB W))))&&(true&&(true&&U7 (0+length (aj sz ch lz H W)*3) (length (flatMap b5 (aj sz ch lz H W)))&&true&&ab (bif true&&U5 (length (aj sz ch lz H W)*3) (length (flatMap b5 (aj sz ch lz H W)))then flatMap b5 (aj sz ch lz H W)else take (length (aj sz ch lz H W)*3) (drop 0 (flatMap b5 (aj sz ch lz H W)))))&&true))) EY ([zN (length P),Vl (U7 1 w) w 1 (bif true&&U5 (w*1) (length (map dB W))then map dB W else take (w*1) (drop 0 (map dB W))),Vl (U7 1 (length (aj sz ch lz H W))) (length (aj sz ch lz H W)) 3 (bif true&&U5 (length (aj sz ch lz H W)*3) (length (flatMap b5 (aj sz ch lz H W)))then flatMap b5 (aj sz ch lz H W)else take (length (aj sz ch lz H W)*3) (drop 0 (flatMap b5 (aj sz ch lz H W))))]) _ (by exact(qr (VR (D.sim.slw rfl (bW (by(have y1:=cz (P:=P) (kd:=aM P.length W (aj sz ch lz H W)) (raw:=W) (l:=(aj sz ch lz H W)) (e:=1) om (Vq (bw _ _ _ _ _) om);have y2:=am (aT P (aM P.length W (aj sz ch lz H W)) W (aj sz ch lz H W) 1);have y3:=bx sz H W;have y4:=am P;simp only[Vj,Vg,VM,VV,U9,Xk,W8];omega))|>.trans rfl)) (VR (D.sim.slw rfl (bW (by(rw[gk];simp;done))|>.trans rfl)) trivial)))) (true) wr _ _ _ (VC (az.of Tryz.func58 rfl rfl) (@JX (length P) om (W) (w) om om (aj sz ch lz H W) (length (aj sz ch lz H W)) om (by(refine Vq (bw _ _ _ _ _) ?_;omega)) (by(exact pH hs.2)))) (.s 31 (.call 48 false [] (true&&(true&&(true&&(true&&(true&&(true&&(true&&U7 (0+h*1) (length (map dB H))&&true&&ab (bif true&&U5 (h*1) (length (map dB H))then map dB H else take (h*1) (drop 0 (map dB H)))&&(true&&U7 (0+w*1) (length (map dB W))&&true&&ab (bif true&&U5 (w*1) (length (map dB W))then map dB W else take (w*1) (drop 0 (map dB W)))&&(true&&U7 (0+m*1) (length (map dB (pk P)))&&true&&ab (bif true&&U5 (m*1) (length (map dB (pk P)))then map dB (pk P)else take (m*1) (drop 0 (map dB (pk P))))&&true))))))))&&(true&&(true&&U7 (0+w*1) (length (map dB W))&&true&&ab (bif true&&U5 (w*1) (length (map dB W))then map dB W else take (w*1) (drop 0 (map dB W))))&&true)) EY ([D.ep [zN sz,zN ch,zN mo,D.v (.bool lz),Vl (U7 1 h) h 1 (bif true&&U5 (h*1) (length (map dB H))then map dB H else take (h*1) (drop 0 (map dB H))),Vl (U7 1 w) w 1 (bif true&&U5 (w*1) (length (map dB W))then map dB W else take (w*1) (drop 0 (map dB W))),Vl (U7 1 m) m 1 (bif true&&U5 (m*1) (length (map dB (pk P)))then map dB (pk P)else take (m*1) (drop 0 (map dB (pk P)))),zN (length P),D.v (.bool false),zS] 0,Vl (U7 1 w) w 1 (bif true&&U5 (w*1) (length (map dB W))then map dB W else take (w*1) (drop 0 (map dB W)))]) _ UQ (true) wr _ _ _ (VC (az.of Tryz.func48 rfl rfl) (@Rl (sz) (ch) (mo) (lz) om om om (U7 1 h) (U7 1 w) (H) (h) om om (Vl (U7 1 w) w 1 (map dB W)) (Vl (U7 1 m) m 1 (map dB (pk P))) (zN (length P)) (D.v (.bool false)) (zS) (W) (w) om om)) (.s 2 (.call 57 false [] (true&&(true&&U7 (0+m*1) (length (map dB (pk P)))&&true&&ab (bif true&&U5 (m*1) (length (map dB (pk P)))then map dB (pk P)else take (m*1) (drop 0 (map dB (pk P)))))&&true&&(true&&(true&&(true&&U7 (0+w*1) (length (map dB W))&&true&&ab (bif true&&U5 (w*1) (length (map dB W))then map dB W else take (w*1) (drop 0 (map dB W))))&&(true&&(true&&U7 (0+length (aj sz ch lz H W)*3) (length (flatMap b5 (aj sz ch lz H W)))&&true&&ab (bif true&&U5 (length (aj sz ch lz H W)*3) (length (flatMap b5 (aj sz ch lz H W)))then flatMap b5 (aj sz ch lz H W)else take (length (aj sz ch lz H W)*3) (drop 0 (flatMap b5 (aj sz ch lz H W)))))&&true)))) EY ([Wp [Vl (U7 1 m) m 1 (bif true&&U5 (m*1) (length (map dB (pk P)))then map dB (pk P)else take (m*1) (drop 0 (map dB (pk P)))),zN (length P)],bl (aM (length P) W (aj sz ch lz H W)),Vl (U7 1 w) w 1 (bif true&&U5 (w*1) (length (map dB W))then map dB W else take (w*1) (drop 0 (map dB W))),Vl (U7 1 (length (aj sz ch lz H W))) (length (aj sz ch lz H W)) 3 (bif true&&U5 (length (aj sz ch lz H W)*3) (length (flatMap b5 (aj sz ch lz H W)))then flatMap b5 (aj sz ch lz H W)else take (length (aj sz ch lz H W)*3) (drop 0 (flatMap b5 (aj sz ch lz H W)))),D.v (.bool true)]) _ (by exact(VR (D.sim.agg (VR (D.sim.slw rfl (bW (by(have y1:=cz (P:=P) (kd:=aM P.length W (aj sz ch lz H W)) (raw:=W) (l:=(aj sz ch lz H W)) (e:=1) om (Vq (bw _ _ _ _ _) om);have y2:=am (aT P (aM P.length W (aj sz ch lz H W)) W (aj sz ch lz H W) 1);have y3:=bx sz H W;have y4:=am P;simp only[Vj,Vg,VM,VV,U9,Xk,W8];omega))|>.trans rfl)) (qr trivial))) (qr (VR (D.sim.slw rfl (bW (by(have y1:=cz (P:=P) (kd:=aM P.length W (aj sz ch lz H W)) (raw:=W) (l:=(aj sz ch lz H W)) (e:=1) om (Vq (bw _ _ _ _ _) om);have y2:=am (aT P (aM P.length W (aj sz ch lz H W)) W (aj sz ch lz H W) 1);have y3:=bx sz H W;have y4:=am P;simp only[Vj,Vg,VM,VV,U9,Xk,W8];omega))|>.trans rfl)) (VR (D.sim.slw rfl (bW (by(rw[gk];simp;done))|>.trans rfl)) (qr trivial)))))) (true) wr _ _ _ (VC (az.of Tryz.func57 rfl rfl) (@Rh (P) (m) om om (aM (length P) W (aj sz ch lz H W)) (by(exact xG _ _ _)) (W) (w) om om (aj sz ch lz H W) (length (aj sz ch lz H W)) om (by(refine Vq (bw _ _ _ _ _) ?_;omega)) (by(exact pH hs.2)))) (.s 29 (.call 52 false [] (true&&(true&&U7 (0+length (pk (aT P (aM (length P) W (aj sz ch lz H W)) W (aj sz ch lz H W) 1))*1) (length (map dB (pk (aT P (aM (length P) W (aj sz ch lz H W)) W (aj sz ch lz H W) 1))))&&true&&ab (bif true&&U5 (length (pk (aT P (aM (length P) W (aj sz ch lz H W)) W (aj sz ch lz H W) 1))*1) (length (map dB (pk (aT P (aM (length P) W (aj sz ch lz H W)) W (aj sz ch lz H W) 1))))then map dB (pk (aT P (aM (length P) W (aj sz ch lz H W)) W (aj sz ch lz H W) 1))else take (length (pk (aT P (aM (length P) W (aj sz ch lz H W)) W (aj sz ch lz H W) 1))*1) (drop 0 (map dB (pk (aT P (aM (length P) W (aj sz ch lz H W)) W (aj sz ch lz H W) 1))))))&&true&&true) EY ([Wp [Vl (U7 1 (length (pk (aT P (aM (length P) W (aj sz ch lz H W)) W (aj sz ch lz H W) 1)))) (length (pk (aT P (aM (length P) W (aj sz ch lz H W)) W (aj sz ch lz H W) 1))) 1 (bif true&&U5 (length (pk (aT P (aM (length P) W (aj sz ch lz H W)) W (aj sz ch lz H W) 1))*1) (length (map dB (pk (aT P (aM (length P) W (aj sz ch lz H W)) W (aj sz ch lz H W) 1))))then map dB (pk (aT P (aM (length P) W (aj sz ch lz H W)) W (aj sz ch lz H W) 1))else take (length (pk (aT P (aM (length P) W (aj sz ch lz H W)) W (aj sz ch lz H W) 1))*1) (drop 0 (map dB (pk (aT P (aM (length P) W (aj sz ch lz H W)) W (aj sz ch lz H W) 1))))),zN (length (aT P (aM (length P) W (aj sz ch lz H W)) W (aj sz ch lz H W) 1))]]) _ (by exact(VR (D.sim.agg (VR (D.sim.slw rfl (bW (by(have y1:=cz (P:=P) (kd:=aM P.length W (aj sz ch lz H W)) (raw:=W) (l:=(aj sz ch lz H W)) (e:=1) om (Vq (bw _ _ _ _ _) om);have y2:=am (aT P (aM P.length W (aj sz ch lz H W)) W (aj sz ch lz H W) 1);have y3:=bx sz H W;have y4:=am P;simp only[Vj,Vg,VM,VV,U9,Xk,W8];omega))|>.trans rfl)) (qr trivial))) trivial)) (true) wr _ _ _ (VC (az.of Tryz.func52 rfl rfl) (@Qm (aT P (aM (length P) W (aj sz ch lz H W)) W (aj sz ch lz H W) 1) (length (pk (aT P (aM (length P) W (aj sz ch lz H W)) W (aj sz ch lz H W) 1))) om EY)) (.s 35 (.opt (bY VN (Vo VN (Yr (↑(8*length (pk (aT P (aM (length P) W (aj sz ch lz H W)) W (aj sz ch lz H W) 1))):Int) 8))) (zI ((↑(8*length (pk (aT P (aM (length P) W (aj sz ch lz H W)) W (aj sz ch lz H W) 1))):Int)/8)) (aQ (@cF  ((↑(8*length (pk (aT P (aM (length P) W (aj sz ch lz H W)) W (aj sz ch lz H W) 1))):Int)) (8) EY om)) (.s 27 (.chk (aU none (some ((↑(8*length (pk (aT P (aM (length P) W (aj sz ch lz H W)) W (aj sz ch lz H W) 1))):Int)/8)) none (length (pk (aT P (aM (length P) W (aj sz ch lz H W)) W (aj sz ch lz H W) 1)))&&true) (by(have y1:=cz (P:=P) (kd:=aM P.length W (aj sz ch lz H W)) (raw:=W) (l:=(aj sz ch lz H W)) (e:=1) om (Vq (bw _ _ _ _ _) om);have y2:=am (aT P (aM P.length W (aj sz ch lz H W)) W (aj sz ch lz H W) 1);have y3:=bx sz H W;have y4:=am P;exact ri (n:=(pk (aT P (aM P.length W (aj sz ch lz H W)) W (aj sz ch lz H W) 1)).length) om om)) (.s 1 (.chk (true&&(true&&U7 (0+AB ((↑(8*length (pk (aT P (aM (length P) W (aj sz ch lz H W)) W (aj sz ch lz H W) 1))):Int)/8)*1) (length (map dB (pk (aT P (aM (length P) W (aj sz ch lz H W)) W (aj sz ch lz H W) 1)))))&&true&&true&&U7 ((0+AB ((↑(8*length (pk (aT P (aM (length P) W (aj sz ch lz H W)) W (aj sz ch lz H W) 1))):Int)/8))*1) 140737488355328) EY (.s 25 (.chk (aU (some ((↑(8*length (pk (aT P (aM (length P) W (aj sz ch lz H W)) W (aj sz ch lz H W) 1))):Int)/8)) none none (length (pk (aT P (aM (length P) W (aj sz ch lz H W)) W (aj sz ch lz H W) 1)))&&true) (by(have y1:=cz (P:=P) (kd:=aM P.length W (aj sz ch lz H W)) (raw:=W) (l:=(aj sz ch lz H W)) (e:=1) om (Vq (bw _ _ _ _ _) om);have y2:=am (aT P (aM P.length W (aj sz ch lz H W)) W (aj sz ch lz H W) 1);have y3:=bx sz H W;have y4:=am P;exact zW (n:=(pk (aT P (aM P.length W (aj sz ch lz H W)) W (aj sz ch lz H W) 1)).length) om om)) (.s 1 (.call 56 false [] (true&&(true&&U7 (0+AB ((↑(8*length (pk (aT P (aM (length P) W (aj sz ch lz H W)) W (aj sz ch lz H W) 1))):Int)/8)*1+(length (pk (aT P (aM (length P) W (aj sz ch lz H W)) W (aj sz ch lz H W) 1))-AB ((↑(8*length (pk (aT P (aM (length P) W (aj sz ch lz H W)) W (aj sz ch lz H W) 1))):Int)/8))*1) (length (map dB (pk (aT P (aM (length P) W (aj sz ch lz H W)) W (aj sz ch lz H W) 1))))&&true&&ab (bif U5 (0+AB ((↑(8*length (pk (aT P (aM (length P) W (aj sz ch lz H W)) W (aj sz ch lz H W) 1))):Int)/8)*1) 0&&U5 ((length (pk (aT P (aM (length P) W (aj sz ch lz H W)) W (aj sz ch lz H W) 1))-AB ((↑(8*length (pk (aT P (aM (length P) W (aj sz ch lz H W)) W (aj sz ch lz H W) 1))):Int)/8))*1) (length (map dB (pk (aT P (aM (length P) W (aj sz ch lz H W)) W (aj sz ch lz H W) 1))))then map dB (pk (aT P (aM (length P) W (aj sz ch lz H W)) W (aj sz ch lz H W) 1))else take ((length (pk (aT P (aM (length P) W (aj sz ch lz H W)) W (aj sz ch lz H W) 1))-AB ((↑(8*length (pk (aT P (aM (length P) W (aj sz ch lz H W)) W (aj sz ch lz H W) 1))):Int)/8))*1) (drop (0+AB ((↑(8*length (pk (aT P (aM (length P) W (aj sz ch lz H W)) W (aj sz ch lz H W) 1))):Int)/8)*1) (map dB (pk (aT P (aM (length P) W (aj sz ch lz H W)) W (aj sz ch lz H W) 1))))))&&true) EY ([Vl (U7 1 (length (pk (aT P (aM (length P) W (aj sz ch lz H W)) W (aj sz ch lz H W) 1))-AB ((↑(8*length (pk (aT P (aM (length P) W (aj sz ch lz H W)) W (aj sz ch lz H W) 1))):Int)/8))) (length (pk (aT P (aM (length P) W (aj sz ch lz H W)) W (aj sz ch lz H W) 1))-AB ((↑(8*length (pk (aT P (aM (length P) W (aj sz ch lz H W)) W (aj sz ch lz H W) 1))):Int)/8)) 1 (bif U5 (0+AB ((↑(8*length (pk (aT P (aM (length P) W (aj sz ch lz H W)) W (aj sz ch lz H W) 1))):Int)/8)*1) 0&&U5 ((length (pk (aT P (aM (length P) W (aj sz ch lz H W)) W (aj sz ch lz H W) 1))-AB ((↑(8*length (pk (aT P (aM (length P) W (aj sz ch lz H W)) W (aj sz ch lz H W) 1))):Int)/8))*1) (length (map dB (pk (aT P (aM (length P) W (aj sz ch lz H W)) W (aj sz ch lz H W) 1))))then map dB (pk (aT P (aM (length P) W (aj sz ch lz H W)) W (aj sz ch lz H W) 1))else take ((length (pk (aT P (aM (length P) W (aj sz ch lz H W)) W (aj sz ch lz H W) 1))-AB ((↑(8*length (pk (aT P (aM (length P) W (aj sz ch lz H W)) W (aj sz ch lz H W) 1))):Int)/8))*1) (drop (0+AB ((↑(8*length (pk (aT P (aM (length P) W (aj sz ch lz H W)) W (aj sz ch lz H W) 1))):Int)/8)*1) (map dB (pk (aT P (aM (length P) W (aj sz ch lz H W)) W (aj sz ch lz H W) 1)))))]) _ (by exact(VR (D.sim.slw rfl ((bj (pk (aT P (aM (length P) W (aj sz ch lz H W)) W (aj sz ch lz H W) 1)) (0+AB ((↑(8*length (pk (aT P (aM (length P) W (aj sz ch lz H W)) W (aj sz ch lz H W) 1))):Int)/8)*1) ((length (pk (aT P (aM (length P) W (aj sz ch lz H W)) W (aj sz ch lz H W) 1))-AB ((↑(8*length (pk (aT P (aM (length P) W (aj sz ch lz H W)) W (aj sz ch lz H W) 1))):Int)/8))*1)).trans (by(simp;done)))) trivial)) (true) wr _ _ _ (VC (az.of Tryz.func56 rfl rfl) (@ja (take (length (pk (aT P (aM (length P) W (aj sz ch lz H W)) W (aj sz ch lz H W) 1))-AB ((↑(8*length (pk (aT P (aM (length P) W (aj sz ch lz H W)) W (aj sz ch lz H W) 1))):Int)/8)) (drop (AB ((↑(8*length (pk (aT P (aM (length P) W (aj sz ch lz H W)) W (aj sz ch lz H W) 1))):Int)/8)) (pk (aT P (aM (length P) W (aj sz ch lz H W)) W (aj sz ch lz H W) 1)))) (length (pk (aT P (aM (length P) W (aj sz ch lz H W)) W (aj sz ch lz H W) 1))-AB ((↑(8*length (pk (aT P (aM (length P) W (aj sz ch lz H W)) W (aj sz ch lz H W) 1))):Int)/8)) UR om)) (.s 16 (.opt (bY VN (XK (↑(8*length (pk (aT P (aM (length P) W (aj sz ch lz H W)) W (aj sz ch lz H W) 1))):Int) 8)) (zI ((↑(8*length (pk (aT P (aM (length P) W (aj sz ch lz H W)) W (aj sz ch lz H W) 1))):Int)%8)) (aQ (@ee  ((↑(8*length (pk (aT P (aM (length P) W (aj sz ch lz H W)) W (aj sz ch lz H W) 1))):Int)) (8) om)) (.s 25 (.chk (true&&U5 (h*1) (length (map dB H))&&true&&(true&&U7 (0+w*1) (length (map dB W)))&&true&&true&&U7 ((h+w)*1) 140737488355328) UR (.s 21 (.ow ((↑(h+w):Int)-(sz:Int)) (.s 1 (.opt (k6 VN true 0 ((↑(h+w):Int)-(sz:Int))) (zI (max 0 ((↑(h+w):Int)-(sz:Int)))) (jv _ _ _) (.s 1 (.chk (aU (some (max 0 ((↑(h+w):Int)-(sz:Int)))) none none (h+w)&&true) US (.s 1 (.call 56 false [] (true&&(true&&U7 (0+AB (max 0 ((↑(h+w):Int)-(sz:Int)))*1+(h+w-AB (max 0 ((↑(h+w):Int)-(sz:Int))))*1) (length (map dB H++bif true&&U5 (w*1) (length (map dB W))then map dB W else take (w*1) (drop 0 (map dB W))))&&true&&ab (bif U5 (0+AB (max 0 ((↑(h+w):Int)-(sz:Int)))*1) 0&&U5 ((h+w-AB (max 0 ((↑(h+w):Int)-(sz:Int))))*1) (length (map dB H++bif true&&U5 (w*1) (length (map dB W))then map dB W else take (w*1) (drop 0 (map dB W))))then map dB H++bif true&&U5 (w*1) (length (map dB W))then map dB W else take (w*1) (drop 0 (map dB W))else take ((h+w-AB (max 0 ((↑(h+w):Int)-(sz:Int))))*1) (drop (0+AB (max 0 ((↑(h+w):Int)-(sz:Int)))*1) (map dB H++bif true&&U5 (w*1) (length (map dB W))then map dB W else take (w*1) (drop 0 (map dB W))))))&&true) (by(simp_all<;>omega)) ([Vl (U7 1 (h+w-AB (max 0 ((↑(h+w):Int)-(sz:Int))))) (h+w-AB (max 0 ((↑(h+w):Int)-(sz:Int)))) 1 (bif U5 (0+AB (max 0 ((↑(h+w):Int)-(sz:Int)))*1) 0&&U5 ((h+w-AB (max 0 ((↑(h+w):Int)-(sz:Int))))*1) (length (map dB H++bif true&&U5 (w*1) (length (map dB W))then map dB W else take (w*1) (drop 0 (map dB W))))then map dB H++bif true&&U5 (w*1) (length (map dB W))then map dB W else take (w*1) (drop 0 (map dB W))else take ((h+w-AB (max 0 ((↑(h+w):Int)-(sz:Int))))*1) (drop (0+AB (max 0 ((↑(h+w):Int)-(sz:Int)))*1) (map dB H++bif true&&U5 (w*1) (length (map dB W))then map dB W else take (w*1) (drop 0 (map dB W)))))]) _ (by exact(VR (D.sim.slN rfl (by(simp_all;done))) trivial)) (true) wr _ _ _ (VC (az.of Tryz.func56 rfl rfl) (@J2 (U7 1 (h+w-AB (max 0 ((↑(h+w):Int)-(sz:Int))))) (H++W) (h+w-AB (max 0 ((↑(h+w):Int)-(sz:Int)))) (AB (max 0 ((↑(h+w):Int)-(sz:Int)))) US om)) (.s 79 (.out [1544,1272,1168] [1544,1272,1168] (V2 [Wp [zN sz,zN ch,zN mo,D.v (.bool lz),U6 0 0 0 (h+w-AB (max 0 ((↑(h+w):Int)-(sz:Int)))) 1,zS,U6 1 1 0 (length (pk (aT P (aM (length P) W (aj sz ch lz H W)) W (aj sz ch lz H W) 1))-AB ((↑(8*length (pk (aT P (aM (length P) W (aj sz ch lz H W)) W (aj sz ch lz H W) 1))):Int)/8)) 1,zI ((↑(8*length (pk (aT P (aM (length P) W (aj sz ch lz H W)) W (aj sz ch lz H W) 1))):Int)%8),D.v (.bool true)],U6 2 2 0 (AB ((↑(8*length (pk (aT P (aM (length P) W (aj sz ch lz H W)) W (aj sz ch lz H W) 1))):Int)/8)) 1,zI 0]) [U1 (map dB (take (h+w-AB (max 0 ((↑(h+w):Int)-(sz:Int)))) (drop (AB (max 0 ((↑(h+w):Int)-(sz:Int)))) (H++W)))) 5 true,U1 (map dB (take (length (pk (aT P (aM (length P) W (aj sz ch lz H W)) W (aj sz ch lz H W) 1))-AB ((↑(8*length (pk (aT P (aM (length P) W (aj sz ch lz H W)) W (aj sz ch lz H W) 1))):Int)/8)) (drop (AB ((↑(8*length (pk (aT P (aM (length P) W (aj sz ch lz H W)) W (aj sz ch lz H W) 1))):Int)/8)) (pk (aT P (aM (length P) W (aj sz ch lz H W)) W (aj sz ch lz H W) 1))))) 5 true,U1 (bif true&&U5 (AB ((↑(8*length (pk (aT P (aM (length P) W (aj sz ch lz H W)) W (aj sz ch lz H W) 1))):Int)/8)*1) (length (map dB (pk (aT P (aM (length P) W (aj sz ch lz H W)) W (aj sz ch lz H W) 1))))then map dB (pk (aT P (aM (length P) W (aj sz ch lz H W)) W (aj sz ch lz H W) 1))else take (AB ((↑(8*length (pk (aT P (aM (length P) W (aj sz ch lz H W)) W (aj sz ch lz H W) 1))):Int)/8)*1) (drop 0 (map dB (pk (aT P (aM (length P) W (aj sz ch lz H W)) W (aj sz ch lz H W) 1))))) 5 true] R (ok _ _ (by(have y1:=cz (P:=P) (kd:=aM P.length W (aj sz ch lz H W)) (raw:=W) (l:=(aj sz ch lz H W)) (e:=1) om (Vq (bw _ _ _ _ _) om);have y2:=am (aT P (aM P.length W (aj sz ch lz H W)) W (aj sz ch lz H W) 1);have y3:=bx sz H W;have y4:=am P;refine Rp ?_ ?_ ?_ ?_<;>(try rw[show(ir sz ch lz H W P 1)=(aT P (aM P.length W (aj sz ch lz H W)) W (aj sz ch lz H W) 1)from rfl])<;>(try rw[bx])<;>omega)) (by(have y1:=cz (P:=P) (kd:=aM P.length W (aj sz ch lz H W)) (raw:=W) (l:=(aj sz ch lz H W)) (e:=1) om (Vq (bw _ _ _ _ _) om);have y2:=am (aT P (aM P.length W (aj sz ch lz H W)) W (aj sz ch lz H W) 1);have y3:=bx sz H W;have y4:=am P;refine Rq (Hv (by rw[U2];omega) (by rw[U2];omega)) (EJ om) (yi (X:=pk (aT P (aM P.length W (aj sz ch lz H W)) W (aj sz ch lz H W) 1)) om))))))))))))))))))))))))))))))))))))))))))))))) kr
end Vp
end Go.Proofs.YtefjnofhgkjpmaaGreat
namespace Go.Proofs.YtefjnofhgkjpmaaGreat
open Go.RowKit Go.Bw Go.Vx
open List (length getD map take drop flatMap replicate)
namespace Vp
theorem Rr {al:Bool}{P:Program}{f:FuncId}{ds ds':List D}{hin:List Blk}{r:D}{bs:List Blk}(hs:cQ ds ds')(h:SpecH al P f ds' hin r bs):SpecH al P f ds hin r bs:=by
 obtain⟨e,g⟩:=hs.get;refine⟨h.1,λ O φ w args hO hh hi hl ha=>h.2 O φ w args hO hh hi (hl.trans e) λ j d' u hd hu=>?_⟩;obtain⟨d,h1,h2⟩:=g j d' hd;exact h2 _ _ _ (ha j d u h1 hu)
end Vp
end Go.Proofs.YtefjnofhgkjpmaaGreat
namespace Go.Proofs.YtefjnofhgkjpmaaGreat
open Go.RowKit Go.Bw Go.Vx
open List (length getD map take drop flatMap replicate)
namespace Vp
end Vp
end Go.Proofs.YtefjnofhgkjpmaaGreat
namespace Go.Proofs.YtefjnofhgkjpmaaGreat
open Go.RowKit Go.Bw Go.Vx
open List (length getD map take drop flatMap replicate)
namespace Vp
end Vp
end Go.Proofs.YtefjnofhgkjpmaaGreat
namespace Go.Proofs.YtefjnofhgkjpmaaGreat
open Go.RowKit Go.Bw Go.Vx
open List (length getD map take drop flatMap replicate)
namespace Vp
structure StyV (sz ch mo:Int)(lz:Bool)(e:Int):Prop where
 s:S0 29 [.agg [iD sz,iD ch,iD mo,bD lz]] [] (iD e) []
theorem EK (sz ch mo:Int)(lz:Bool)(e:Int)(h:StyV sz ch mo lz e):S0 29 [.agg [iD sz,iD ch,iD mo,bD lz]] [] (iD e) []:=h.s
theorem MY (sz ch mo:Int)(lz:Bool):∃e,StyV sz ch mo lz e∧(e=0↔1<=sz∧sz<=32768∧0<=ch∧ch<=256∧1<=mo∧mo<=65535)∧(e=0∨e=8):=by
 cases hm:Vt.mayS sz ch mo with
 |true=>exact⟨0,⟨Vt.sty_t0 sz ch mo lz hm⟩,⟨λ _=>Vt.mayS_iff.1 hm,λ _=>rfl⟩,.inl rfl⟩
 |false=>exact⟨8,⟨Vt.sty_t8 sz ch mo lz hm⟩,⟨λ q=>absurd q (by decide),λ q=>by rw[Vt.mayS_iff.2 q]at hm;cases hm⟩,.inr rfl⟩
end Vp
end Go.Proofs.YtefjnofhgkjpmaaGreat
namespace Go.Proofs.YtefjnofhgkjpmaaGreat
open Go.RowKit Go.Bw Go.Vx
open List (length getD map take drop flatMap replicate)
namespace Vp
end Vp
end Go.Proofs.YtefjnofhgkjpmaaGreat
namespace Go.Proofs.YtefjnofhgkjpmaaGreat
open Go.RowKit Go.Bw Go.Vx
open List (length getD map take drop flatMap replicate)
namespace Vp
section
variable {sz ch mo:Nat} {lz:Bool}
structure LsOk (sz mo:Nat)(s:Ls):Prop where
 h:s.H.length<=sz
 w:s.w.length<mo
 p:s.P.length<8
theorem J3 (hm:1<=mo):∀{f:Nat} {s:Ls},s.w.length<=f->s.H.length<=sz->s.P.length<8->LsOk sz mo (mc sz ch mo lz f s)
 |0,s,h1,h2,h3=>⟨h2,by show s.w.length<mo;omega,h3⟩
 |f+1,s,h1,h2,h3=>by
  rw[mc]
  split
  ·refine J3 hm (by show(s.w.drop mo).length<=f;rw[VH];omega) ?_ ?_
   ·show(xH _ _ _).length<=_;rw[bx];omega
   ·show(pT _).length<8;rw[eK];omega
  ·exact⟨h2,by omega,h3⟩
end
def bH (sz ch mo:Nat)(lz:Bool)(H:Z1)(P:List Bool)(W b:Z1):Ls:=lk W (mc sz ch mo lz (W.length+b.length) ⟨H,P,W++b,[]⟩)
theorem tO (sz ch mo:Nat)(lz:Bool)(H:Z1)(P:List Bool)(W b:Z1):bH sz ch mo lz H P W b=mc sz ch mo lz (W.length+b.length) ⟨H,P,W++b,[]⟩:=au _ _
theorem EL {sz ch mo:Nat}{lz:Bool}{H:Z1}{P:List Bool}{W b:Z1}(hm:1<=mo)(hH:H.length<=sz)(hP:P.length<8):LsOk sz mo (bH sz ch mo lz H P W b):=by
 rw[tO];exact J3 hm (by show(W++b).length<=_;rw[U2];exact Vd _) hH hP
theorem EM (sz ch mo:Nat)(lz:Bool)(hs:1<=sz∧sz<=32768)(hc:ch<=256)(hmo:1<=mo∧mo<=65535)(H:Z1)(h:Nat)(hh:h=H.length)(hh2:h<=sz)(W:Z1)(w:Nat)(hw:w=W.length)(hw2:w<mo)(P:List Bool)(m:Nat)(hm:m=(pk P).length)(hP:P.length<8)(b:Z1)(n:Nat)(hn:n=b.length)(hn2:n<=131072):S0 13 [.agg [nD sz,nD ch,nD mo,bD lz,.sl false h 1 (H.map dB),.sl false w 1 (W.map dB),.sl false m 1 ((pk P).map dB),nD P.length,bD false],.sl false n 1 (b.map dB)] [] (.tup [.agg [nD sz,nD ch,nD mo,bD lz,.ref 0 0 0 (bH sz ch mo lz H P W b).H.length 1,.ref 1 1 0 (bH sz ch mo lz H P W b).w.length 1,.ref 2 2 0 (pk (bH sz ch mo lz H P W b).P).length 1,nD (bH sz ch mo lz H P W b).P.length,bD false],.ref 3 3 0 (bH sz ch mo lz H P W b).O.length 1,iD 0]) [⟨(bH sz ch mo lz H P W b).H.map dB, 5,true⟩,⟨(bH sz ch mo lz H P W b).w.map dB, 5,true⟩,⟨(pk (bH sz ch mo lz H P W b).P).map dB, 5,true⟩,⟨(bH sz ch mo lz H P W b).O.map dB, 5,true⟩]:=
 MX sz ch mo lz hs hc hmo H h hh hh2 W w hw hw2 P m hm hP b n hn hn2 (W++b) rfl (by rw[U2,hw,hn]) _ (by rw[tO,hw,hn];rfl)
end Vp
end Go.Proofs.YtefjnofhgkjpmaaGreat
namespace Go.Proofs.YtefjnofhgkjpmaaGreat
open Go.RowKit Go.Bw Go.Vx Vm
namespace Vt
theorem me {b:Z1}{i j d:Nat}(hd:d=i-j)(hj:j<i)(hi:i<=b.length):∀n,n<=Vm.same b i j 258->copyN (b.take i) d n=b.take (i+n)
 |0,_=>rfl
 |n+1,h=>by
  have he:=jN b 258 i j hi;have e:=Vm.same_at b 258 i j n om;have hl:(b.take (i+n)).length=i+n:=by rw[Vg];omega
  rw[copyN,me hd hj hi n om,hl,hd,show i+n-(i-j)=j+n from by omega,<-Wh,Y0];have e2:b[i+n]? =some (b.getD (i+n) mq):=by rw[UZ,U4 om];rfl
  rw[e2,<-e];have e3:(b.take (i+n)).getD (j+n) mq=b.getD (j+n) mq:=by
   simp only[UZ];rw[V0,ZF om]
  rw[e3];rfl
theorem stepT_cut {b:Z1}{size chain:Int}{lazy:Bool}{i:Nat}(hs:1<=size∧size<=32768)(hi:i<b.length):stepT (b.take i) (tokAt b size chain lazy i)=b.take (i+tokN (tokAt b size chain lazy i))∧(tokAt b size chain lazy i).dist<=i∧(tokAt b size chain lazy i).long<=258:=by
 have h:=best_bd b i size chain om;unfold tokAt
 split
 ·refine⟨?_,?_,?_⟩
  ·unfold stepT tokN
   rw[ZF rfl,ZF rfl,Y0,UZ,U4 hi];rfl
  ·dsimp only;omega
  ·dsimp only;omega
 ·next e=>
  have e1:(bestG b i size i chain 0 0).2≠0:=λ q=>e (.inl q)
  rcases ij b i size i chain 0 0 with q|⟨j,h1,h2,h3,h4,h5⟩
  ·rw[q]at e1;exact absurd rfl e1
  ·refine⟨?_,?_,?_⟩
   ·unfold stepT tokN
    dsimp only;rw[ZE e1,ZE e1];exact me (j:=j) om h1 om _ om
   ·dsimp only;omega
   ·dsimp only;omega
end Vt
end Go.Proofs.YtefjnofhgkjpmaaGreat
namespace Go.Proofs.YtefjnofhgkjpmaaGreat
open Go.RowKit Go.Bw Go.Vx
open List (length getD map take drop flatMap replicate)
namespace Vp
def np (most:Int):List Tn->Z1->Z1->Prop
 |[],o,o'=>o=o'
 |t::T,o,o'=>t.dist<=o.length∧((o.length:Nat):Int)+max 1 ((t.long:Nat):Int)<=most∧np most T (od t.lit.toNat t.dist t.long o) o'
theorem rF {most:Int}:∀{raw o:Z1},((o.length+raw.length:Nat):Int)<=most->np most (raw.map λ x=>⟨x,0,0⟩) o (o++raw)
 |[],o,_=>(VS o).symm
 |x::raw,o,h=>by
  rw[VE]at h;refine⟨VI _,by show((o.length:Nat):Int)+max 1 ((0:Nat):Int)<=most;omega,?_⟩;have e:od x.toNat 0 0 o=o++[x]:=by unfold od;rw[ZF rfl,l6]
  show np most _ (od x.toNat 0 0 o) _;rw[e,show o++x::raw=o++[x]++raw from by rw[Ve];rfl];exact rF (by rw[U2,List.length_singleton];omega)
theorem Ab (X a:Z1){d:Nat}(hd:d<=a.length):∀n,gY d n (X++a)=X++Vt.copyN a d n
 |0=>rfl
 |n+1=>by
  have hl:=Vt.copyN_length a d n;rw[gY,Vt.copyN,Ab X a hd n,U2,Ve,UZ,Vs om,UZ,show X.length+(Vt.copyN a d n).length-d-X.length=(Vt.copyN a d n).length-d from by omega]
theorem rG {most:Int}{B X:Z1}{sz ch:Nat}{lz:Bool}(hs:1<=sz∧sz<=32768)(hm:((X.length+B.length:Nat):Int)<=most):∀(k i:Nat),i<=B.length->B.length-i<=k->np most ((Vt.cutK B (sz:Int) (ch:Int) lz k i).map pF) (X++B.take i) (X++B)
 |0,i,hi,h=>by
  rw[Vt.cutK,VB om];rfl
 |k+1,i,hi,h=>by
  rw[Vt.cutK]
  split
  ·next hlt=>
   obtain⟨h2,h3,h4⟩:=Vt.stepT_cut (b:=B) (size:=(sz:Int)) (chain:=(ch:Int)) (lazy:=lz) (i:=i) om hlt;have K:=zx (b:=B) (sz:=sz) (ch:=ch) (lz:=lz) (i:=i) hs.2 hlt;have h1:=Vt.tokAt_bd B (sz:Int) (ch:Int) lz i hlt;generalize Vt.tokAt B (sz:Int) (ch:Int) lz i=t at h1 h2 h3 h4 K;have kd:=K.d;have kl:=K.l;have hl:(B.take i).length=i:=by rw[Vg];omega
   have e:od (pF t).lit.toNat (pF t).dist (pF t).long (X++B.take i)=X++Vt.stepT (B.take i) t:=by
    unfold od Vt.stepT
    by_cases q:t.long=0
    ·rw[ZF (show(pF t).long=0 by show t.long.toNat=0;omega),ZF q,Ve]
     show X++(B.take i++[V6 t.lit.toNat])=_;rw[l6]
    ·rw[ZE (show¬(pF t).long=0 by show¬t.long.toNat=0;omega),ZE q]
     exact Ab X (B.take i) (by rw[hl];show t.dist.toNat<=i;omega) t.long.toNat
   have n1:max 1 ((t.long.toNat:Nat):Int)=(Vt.tokN t:Int):=by
    unfold Vt.tokN
    split<;>omega
   have n2:i+Vt.tokN t<=B.length:=by omega
   rw[WM];refine⟨by rw[U2,hl];show t.dist.toNat<=_;omega,by rw[U2,hl];show _+max 1 ((t.long.toNat:Nat):Int)<=most;rw[n1];omega,?_⟩;rw[e,h2];exact rG hs hm k (i+Vt.tokN t) n2 om
  ·rw[VB om];rfl
theorem EN {most:Int}{X H raw:Z1}{sz ch:Nat}{lz:Bool}(hs:1<=sz∧sz<=32768)(hm:((X.length+H.length+raw.length:Nat):Int)<=most)(kd:Nat):np most (Ex kd raw (aj sz ch lz H raw)) (X++H) (X++H++raw):=by
 unfold Ex
 split
 ·exact rF (by rw[U2];omega)
 ·have q:=rG (most:=most) (B:=H++raw) (X:=X) (ch:=ch) (lz:=lz) hs (by rw[U2];omega) ((H++raw).length-H.length) H.length (by rw[U2];omega) (Vd _)
  rw[Zv,<-Ve]at q;show np most (EV (H++raw) H.length sz ch lz) _ _;rw[pG];exact q
section
variable {b:Z1} {p:Nat} {most:Int}
theorem J4 {d long p:Nat}{o:Z1}(h1:d<=o.length)(h2:((o.length:Nat):Int)+max 1 ((long:Nat):Int)<=most):ip most d long ⟨p,0⟩ o=⟨p,0⟩:=by
 unfold ip;rw[show decide ((d:Int)<=((o.length:Nat):Int))=true from decide_eq_true om,fM,show decide (((o.length:Nat):Int)+max 1 ((long:Nat):Int)<=most)=true from decide_eq_true h2,fM]
theorem v4 {kd le fin:Nat}{la:Bool}{l1 l2:Z1}{T:List Tn}{pos:Nat->Nat}(hR:RdB b kd le l1 l2 T pos fin){o':Z1}:∀(S:List Tn) (j:Nat) (o:Z1),T.drop j=S->j<=T.length->np most S o o'->cZ b most (some ⟨kd,la,le-j,l1,l2⟩) ⟨pos j,0⟩ o=cZ b most (some ⟨kd,la,le-T.length,l1,l2⟩) ⟨pos T.length,0⟩ o'
 |[],j,o,hd,hj,hp=>by
  have e:=List.drop_eq_nil_iff.1 hd;have e2:j=T.length:=by omega
  subst e2;rw[show o=o' from hp]
 |t::S,j,o,hd,hj,hp=>by
  have hlt:j<T.length:=by
   rcases VL j T.length with q|q
   ·exact q
   ·rw[Wv q]at hd;cases hd
  rw[Wi hlt]at hd;injection hd with h1 h2
  have g:T.getD j mq=t:=by rw[UZ,U4 hlt];exact h1
  have st:=hR.st j hlt;rw[g]at st;have ps:=hR.ps j hj;obtain⟨p1,p2,p3⟩:=hp;have q:=Ek (b:=b) (n:=b.length) (most:=most) (kd:=kd) (la:=la) (le:=le-j) (l1:=l1) (l2:=l2) (s:=⟨pos j,0⟩) (o:=o) rfl (λ _=>ps) rfl (by rw[st]) (by rw[st]) (by rw[st];show(ip most t.dist t.long ⟨pos (j+1),0⟩ o).e=0;rw[J4 p1 p2]);rw[st]at q;have q:cZ b most (some ⟨kd,la,le-j-1,l1,l2⟩) (ip most t.dist t.long ⟨pos (j+1),0⟩ o) (od t.lit.toNat t.dist t.long o)=_:=q;rw[J4 p1 p2]at q;rw[<-q];exact v4 hR S (j+1) _ h2 hlt p3
theorem EO {kd:Nat}(hkd:kd<=2){e:Nat}(he:e<=1){raw:Z1}(hr:raw.length<=65535){l:List Tn}(hk:l.length<=65535)(hl:∀t∈l,nA t){Y:List Bool}(h:St b p (bs (nB (p%8) kd raw l e)++Y)){o o':Z1}(hp:np most (Ex kd raw l) o o'):cZ b most none ⟨p,0⟩ o=if e=1 then(⟨p+(bs (nB (p%8) kd raw l e)).length,0⟩,o')else cZ b most none ⟨p+(bs (nB (p%8) kd raw l e)).length,0⟩ o':=by
 have hp8:=h.n;rw[U2]at hp8;obtain⟨le,p0,l1,l2,pos,hH,_,_,_,_,h0,_,_,R⟩:=MQ hkd he hr hk hl h;generalize p+(bs (nB (p%8) kd raw l e)).length=fin at R ⊢;have i:=JJ (b:=b) (most:=most) (s:=⟨p,0⟩) (o:=o) (λ _=>by show p<=8*b.length;omega) rfl rfl;unfold RX at i;rw[hH]at i;have s:=v4 (most:=most) (la:=((e:Nat):Int)==1) R (o':=o') (Ex kd raw l) 0 o Wm (VI _) hp;rw[Nat.sub_zero,h0]at s;have i:cZ b most (some ⟨kd,((e:Nat):Int)==1,le,l1,l2⟩) ⟨p0,0⟩ o=cZ b most none ⟨p,0⟩ o:=i;rw[<-i,s];have en:=R.en;have ps:=R.ps (Ex kd raw l).length (Vd _)
 by_cases q:e=1
 ·rw[ZF q]
  subst q;have z:=zQ (b:=b) (n:=b.length) (most:=most) (kd:=kd) (la:=true) (le:=le-(Ex kd raw l).length) (l1:=l1) (l2:=l2) (s:=⟨pos (Ex kd raw l).length,0⟩) (o:=o') rfl (λ _=>ps) rfl (.inr (by rw[en])) (.inr rfl);rw[en]at z;exact z
 ·rw[ZE q]
  have q0:e=0:=by omega
  subst q0;have z:=zR (b:=b) (n:=b.length) (most:=most) (kd:=kd) (la:=false) (le:=le-(Ex kd raw l).length) (l1:=l1) (l2:=l2) (s:=⟨pos (Ex kd raw l).length,0⟩) (o:=o') rfl (λ _=>ps) rfl (by rw[en]) rfl (by rw[en]);rw[en]at z;exact z.symm
end
def xI (sz ch:Nat)(lz:Bool)(H raw:Z1)(a e:Nat):List Bool:=bs (nB a (aM a raw (aj sz ch lz H raw)) raw (aj sz ch lz H raw) e)
theorem Ac {sz ch:Nat}{lz:Bool}{H raw:Z1}{P:List Bool}{e:Nat}(hP:P.length<8):ir sz ch lz H raw P e=P++xI sz ch lz H raw P.length e:=by
 unfold ir xI;rw[xz,Wq hP];rfl
def mW (sz ch mo:Nat)(lz:Bool):Nat->Ls->List Bool
 |0,s=>xI sz ch lz s.H s.w s.P.length 1
 |f+1,s=>if mo<=s.w.length then xI sz ch lz s.H (s.w.take mo) s.P.length 0++mW sz ch mo lz f (vZ sz ch mo lz s)else xI sz ch lz s.H s.w s.P.length 1
theorem Ad {sz ch mo:Nat}{lz:Bool}:∀(f:Nat) (s:Ls) (A:List Bool),s.P.length<8->A.length%8=0->s.O=pk A->s.w.length<=f->1<=mo->(mc sz ch mo lz f s).O++pk (ir sz ch lz (mc sz ch mo lz f s).H (mc sz ch mo lz f s).w (mc sz ch mo lz f s).P 1)=pk (A++s.P++mW sz ch mo lz f s)
 |0,s,A,hP,hA,hO,hf,hm=>by
  rw[mc,mW,hO,Ac hP,Ve,<-iT hA]
 |f+1,s,A,hP,hA,hO,hf,hm=>by
  by_cases c:mo<=s.w.length
  ·rw[show mc sz ch mo lz (f+1) s=mc sz ch mo lz f (vZ sz ch mo lz s)from ZF c,show mW sz ch mo lz (f+1) s=xI sz ch lz s.H (s.w.take mo) s.P.length 0++mW sz ch mo lz f (vZ sz ch mo lz s)from ZF c]
   have hB:=Ac (sz:=sz) (ch:=ch) (lz:=lz) (H:=s.H) (raw:=s.w.take mo) (e:=0) hP;have eA:A++pA (ir sz ch lz s.H (s.w.take mo) s.P 0)++(vZ sz ch mo lz s).P=A++s.P++xI sz ch lz s.H (s.w.take mo) s.P.length 0:=by
    show A++pA _++pT _=_;rw[Ve,UK,hB,Ve]
   have ih:=Ad (sz:=sz) (ch:=ch) (mo:=mo) (lz:=lz) f (vZ sz ch mo lz s) (A++pA (ir sz ch lz s.H (s.w.take mo) s.P 0)) (by show(pT _).length<8;rw[eK];omega) (by rw[U2];have:=qj (ir sz ch lz s.H (s.w.take mo) s.P 0);omega) (by show s.O++pk (pA _)=_;rw[hO,iT hA]) (by show(s.w.drop mo).length<=f;rw[VH];omega) hm;rw[ih,eA,Ve,Ve]
  ·rw[show mc sz ch mo lz (f+1) s=s from ZE c,show mW sz ch mo lz (f+1) s=xI sz ch lz s.H s.w s.P.length 1 from ZE c,hO,Ac hP,Ve,<-iT hA]
theorem xJ {b:Z1}{most:Int}{sz ch:Nat}{lz:Bool}(hs:1<=sz∧sz<=32768){X H raw:Z1}(hr:raw.length<=65535){p e a:Nat}(he:e<=1)(ha:p%8=a){Y:List Bool}(h:St b p (xI sz ch lz H raw a e++Y))(hm:((X.length+H.length+raw.length:Nat):Int)<=most):cZ b most none ⟨p,0⟩ (X++H)=if e=1 then(⟨p+(xI sz ch lz H raw a e).length,0⟩,X++H++raw)else cZ b most none ⟨p+(xI sz ch lz H raw a e).length,0⟩ (X++H++raw):=by
 subst ha;have ok:∀t∈aj sz ch lz H raw,nA t:=λ t ht=>by
  obtain⟨i,hi⟩:=Wc ht;have q:=pH (b:=H++raw) (q:=H.length) (sz:=sz) (ch:=ch) (lz:=lz) hs.2 i;have hi:(EV (H++raw) H.length sz ch lz)[i]? =some t:=hi
  rwa [UZ,hi]at q
 exact EO (xG _ _ _) he hr (Vq (bw _ _ _ _ _) hr) ok h (EN hs hm _)
theorem Ae {b:Z1}{most:Int}{sz ch mo:Nat}{lz:Bool}(hs:1<=sz∧sz<=32768)(hmo:1<=mo∧mo<=65535):∀(f:Nat) (s:Ls) (p:Nat) (X:Z1) (Y:List Bool),s.P.length<8->s.w.length<=f->s.w.length<=65535∨True->p%8=s.P.length->((X.length+s.H.length+s.w.length:Nat):Int)<=most->St b p (mW sz ch mo lz f s++Y)->cZ b most none ⟨p,0⟩ (X++s.H)=(⟨p+(mW sz ch mo lz f s).length,0⟩,X++s.H++s.w)
 |0,s,p,X,Y,hP,hf,_,hp,hm,h=>by
  rw[mW]at h ⊢;have q:=xJ (most:=most) (X:=X) hs om (Vd 1) hp h hm;rw[q,ZF rfl]
 |f+1,s,p,X,Y,hP,hf,_,hp,hm,h=>by
  by_cases c:mo<=s.w.length
  ·have e1:mW sz ch mo lz (f+1) s=xI sz ch lz s.H (s.w.take mo) s.P.length 0++mW sz ch mo lz f (vZ sz ch mo lz s):=ZF c
   rw[e1,Ve]at h;have tl:(s.w.take mo).length=mo:=by rw[Vg];omega
   have q:=xJ (most:=most) (X:=X) hs om (VI 1) hp h om;rw[ZE (by decide)]at q;have h2:=h.app.2
   -- the past is what stands behind
   have hH:∃Z,X++s.H++s.w.take mo=Z++(vZ sz ch mo lz s).H∧Z.length+(vZ sz ch mo lz s).H.length=X.length+s.H.length+mo:=by
    refine⟨X++(s.H++s.w.take mo).take ((s.H++s.w.take mo).length-sz),?_,?_⟩
    ·show _=_++xH sz s.H (s.w.take mo)
     unfold xH;rw[Ve,Ve,WK]
    ·show _+(xH sz s.H (s.w.take mo)).length=_
     rw[bx,U2,Vg,U2,tl];omega
   obtain⟨Z,z1,z2⟩:=hH;have dl:(vZ sz ch mo lz s).w.length=s.w.length-mo:=VH;have pl:(vZ sz ch mo lz s).P.length=(p+(xI sz ch lz s.H (s.w.take mo) s.P.length 0).length)%8:=by
    show(pT _).length=_;rw[eK,Ac hP,U2];omega
   have ih:=Ae (most:=most) hs hmo f (vZ sz ch mo lz s) (p+(xI sz ch lz s.H (s.w.take mo) s.P.length 0).length) Z Y om om (.inr trivial) pl.symm (by rw[dl];omega) h2;rw[q,z1,ih,e1,U2,<-z1];refine Prod.ext ?_ ?_
   ·show Rs.mk _ _=Rs.mk _ _
    rw[Wh]
   ·show X++s.H++s.w.take mo++s.w.drop mo=_
    rw[Ve,WK]
  ·have e1:mW sz ch mo lz (f+1) s=xI sz ch lz s.H s.w s.P.length 1:=ZE c
   rw[e1]at h ⊢;have q:=xJ (most:=most) (X:=X) hs om (Vd 1) hp h hm;rw[q,ZF rfl]
end Vp
end Go.Proofs.YtefjnofhgkjpmaaGreat
namespace Go.Proofs.YtefjnofhgkjpmaaGreat
open Go.RowKit Go.Bw Go.Vx
open List (length getD map take drop flatMap replicate)
namespace Vp
theorem MZ (a:Nat)(raw:Z1)(l:List Tn):tK a 0 raw l=35+gv a+8*raw.length:=by
 rw[pW,gW,ZF rfl];unfold nj;rw[fK,cw,VB (Vd _)];have h2:∀r:Z1,sm (r.map vb)=8*r.length:=λ r=>by
  induction r with
  |nil=>rfl
  |cons x r ih=>rw[WM,mb,ih,VE];show 8+_=_;omega
 rw[h2];have h4:sm (Pb 0 a raw.length)=1+(2+(gv a+(16+(16+0)))):=rfl;omega
theorem EP (a:Nat)(raw:Z1)(l:List Tn):tK a (aM a raw l) raw l<=tK a 0 raw l:=by
 rw[xF];unfold Rk;rw[xA,xB,xE]
 split<;>split<;>omega
theorem Af {P:List Bool}{raw:Z1}{l:List Tn}(hP:P.length<8):(P.length+tK P.length 0 raw l)%8=0∧P.length+tK P.length 0 raw l<=P.length+42+8*raw.length:=by
 have h1:=EI P.length raw l om;have h2:=MZ P.length raw l;have h3:=tD P.length;omega
theorem EQ {sz ch:Nat}{lz:Bool}{H raw:Z1}{P:List Bool}{e:Nat}(hP:P.length<8):(ir sz ch lz H raw P e).length<=P.length+tK P.length 0 raw (aj sz ch lz H raw):=by
 unfold ir;rw[zZ,Wq hP];have:=EP P.length raw (aj sz ch lz H raw);omega
def Np (mo w p out all fl:Nat):Prop:=∃q A,A+w=all∧mo*q<=A∧8*out+p<=8*A+40*(fl+q)
theorem Rt (mo:Nat):Np mo 0 0 0 0 0:=⟨0,0,rfl,by omega,by omega⟩
theorem ER {sz ch mo:Nat}{lz:Bool}(hm:1<=mo):∀(f:Nat) (s:Ls) (out all fl:Nat),s.P.length<8->Np mo s.w.length s.P.length (out+s.O.length) all fl->Np mo (mc sz ch mo lz f s).w.length (mc sz ch mo lz f s).P.length (out+(mc sz ch mo lz f s).O.length) all fl
 |0,_,_,_,_,_,h=>h
 |f+1,s,out,all,fl,hP,h=>by
  rw[mc]
  split
  ·rename_i c
   obtain⟨q,A,h1,h2,h3⟩:=h;have tl:(s.w.take mo).length=mo:=by rw[Vg];omega
   have b:=EQ (sz:=sz) (ch:=ch) (lz:=lz) (H:=s.H) (raw:=s.w.take mo) (e:=0) hP;have g:=Af (raw:=s.w.take mo) (l:=aj sz ch lz s.H (s.w.take mo)) hP;have e1:(vZ sz ch mo lz s).w.length=s.w.length-mo:=VH;have e2:(vZ sz ch mo lz s).P.length=(ir sz ch lz s.H (s.w.take mo) s.P 0).length%8:=eK _;have e3:(vZ sz ch mo lz s).O.length=s.O.length+(ir sz ch lz s.H (s.w.take mo) s.P 0).length/8:=by
    show(s.O++pk (pA _)).length=_;rw[U2,am,gq];omega
   refine ER hm f _ out all fl om ?_;rw[e1,e2,e3];rw[tl]at g;refine⟨q+1,A+mo,by omega,by rw[Nat.mul_succ];omega,?_⟩;generalize(ir sz ch lz s.H (s.w.take mo) s.P 0).length=B at *;generalize s.P.length+tK s.P.length 0 (s.w.take mo) (aj sz ch lz s.H (s.w.take mo))=S at *;omega
  ·exact h
theorem Ru {sz ch mo:Nat}{lz:Bool}{H:Z1}{P:List Bool}{W b:Z1}{out all fl:Nat}(hm:1<=mo)(hP:P.length<8)(h:Np mo W.length P.length out all fl):Np mo (bH sz ch mo lz H P W b).w.length (bH sz ch mo lz H P W b).P.length (out+(bH sz ch mo lz H P W b).O.length) (all+b.length) fl:=by
 rw[tO];refine ER hm _ ⟨H,P,W++b,[]⟩ out (all+b.length) fl hP ?_;obtain⟨q,A,h1,h2,h3⟩:=h;exact⟨q,A,by show A+(W++b).length=_;rw[U2];omega,h2,h3⟩
theorem Rv {sz ch mo:Nat}{lz:Bool}{H:Z1}{P:List Bool}{W:Z1}{out all fl:Nat}(hm:1<=mo)(hP:P.length<8)(h:Np mo W.length P.length out all fl):out+(pk (ir sz ch lz H W P 1)).length<=all+5*(fl+all/mo+1):=by
 obtain⟨q,A,h1,h2,h3⟩:=h;have b:=EQ (sz:=sz) (ch:=ch) (lz:=lz) (H:=H) (raw:=W) (e:=1) hP;have g:=Af (raw:=W) (l:=aj sz ch lz H W) hP;have l:q<=all/mo:=by
  rw[Nat.le_div_iff_mul_le om,WR];omega
 rw[am];generalize P.length+tK P.length 0 W (aj sz ch lz H W)=S at *;generalize all/mo=Q at *;omega
theorem Rw (sz ch mo:Nat)(lz:Bool)(hs:1<=sz∧sz<=32768)(hc:ch<=256)(hmo:1<=mo∧mo<=65535):S0 11 [.agg [nD sz,nD ch,nD mo,bD lz]] [] (.tup [.agg [nD sz,nD ch,nD mo,bD lz,dw,dw,dw,iD 0,bD false],iD 0]) []:=by
 refine SpecH.run T_ok ah Tryz.func11 rfl rfl rfl trivial rfl 1000 64 (λ R ok=>(.s 10 (.cl 29 false [] (.fn Na (@J0 (sz) (ch) (mo) (lz) om om om)) (.s 18 (.out [] [] (V2 [Wp [zN sz,zN ch,zN mo,D.v (.bool lz),zS,zS,zS,zI 0,D.v (.bool false)],zI 0]) [] R (ok _ _ wr wr)))))) kr
theorem Rx (sz ch mo:Int)(lz:Bool)(hS:StyV sz ch mo lz 8):S0 11 [.agg [iD sz,iD ch,iD mo,bD lz]] [] (.tup [.agg [iD 0,iD 0,iD 0,bD false,dw,dw,dw,iD 0,bD false],iD 8]) []:=by
 refine SpecH.run T_ok ah Tryz.func11 rfl rfl rfl trivial rfl 1000 64 (λ R ok=>(.s 10 (.cl 29 false [] (.fn Na (@EK (sz) (ch) (mo) (lz) (8) aF)) (.s 15 (.out [] [] (V2 [Wp [zI 0,zI 0,zI 0,D.v (.bool false),zS,zS,zS,zI 0,D.v (.bool false)],zI 8]) [] R (ok _ _ wr wr)))))) kr
end Vp
end Go.Proofs.YtefjnofhgkjpmaaGreat
namespace Go.Proofs.YtefjnofhgkjpmaaGreat
open Go.RowKit Go.Bw Go.Vx
open List (length getD map take drop flatMap replicate)
namespace Vp
theorem jh {p:Prop}(h:p:=by(refine decide_eq_false ?_;(omega))):p:=h
theorem Bl {p:Prop}(h:p:=by(refine decide_eq_true ?_;(omega))):p:=h
theorem Hx {p:Prop}(h:p:=by exact(VR (D.sim.slw rfl (bW (by(simp_all;done))|>.trans (by(simp_all;done)))) (qr (qr trivial)))):p:=h
theorem Ag (b:Z1)(most more:Int):∀(k:Nat) (m:Option Kb) (s:Rs) (o:Z1),(g7 b more k m s o).1.e=0->(g7 b most k m s o).1.e=0∨(g7 b most k m s o).1.e=140
 |0,_,_,_,h=>.inl h
 |k+1,none,s,o,h=>by rw[g7]at h ⊢;exact Ag b most more k _ _ _ h
 |k+1,some K,s,o,h=>by
  rw[g7]at h ⊢
  by_cases q:(bM b K s).1.e≠0∨(bM b K s).2.2.2.2=true
  ·rw[ZF q]at h ⊢
   split
   ·next c=>rw[ZF c]at h;exact .inl h
   ·next c=>rw[ZE c]at h;exact Ag b most more k _ _ _ h
  ·rw[ZE q]at h ⊢
   have q1:(bM b K s).1.e=0:=by
    rcases Classical.em ((bM b K s).1.e=0)with y|y
    ·exact y
    ·exact absurd (.inl y) q
   by_cases a1:(ip more (bM b K s).2.2.1 (bM b K s).2.2.2.1 (bM b K s).1 o).e≠0
   ·rw[ZF a1]at h;exact absurd h a1
   ·rw[ZE a1]at h
    have t1:=fQ (most:=more) (d:=(bM b K s).2.2.1) (long:=(bM b K s).2.2.2.1) (s:=(bM b K s).1) (o:=o) om
    by_cases a2:(ip most (bM b K s).2.2.1 (bM b K s).2.2.2.1 (bM b K s).1 o).e≠0
    ·rw[ZF a2]
     rcases oh q1 a2 with⟨c1,_⟩|⟨_,_,c3⟩
     ·have:=t1.2.1;omega
     ·exact .inr c3
    ·rw[ZE a2]
     have t2:=fQ (most:=most) (d:=(bM b K s).2.2.1) (long:=(bM b K s).2.2.2.1) (s:=(bM b K s).1) (o:=o) om;rw[t1.2.2.2]at h;rw[t2.2.2.2];exact Ag b most more k _ _ _ h
def tU (sz ch mo:Nat)(lz:Bool)(b:Z1):Z1:=lk b ((bH sz ch mo lz [] [] [] b).O++pk (ir sz ch lz (bH sz ch mo lz [] [] [] b).H (bH sz ch mo lz [] [] [] b).w (bH sz ch mo lz [] [] [] b).P 1))
theorem xK (sz ch mo:Nat)(lz:Bool)(b:Z1):tU sz ch mo lz b=(bH sz ch mo lz [] [] [] b).O++pk (ir sz ch lz (bH sz ch mo lz [] [] [] b).H (bH sz ch mo lz [] [] [] b).w (bH sz ch mo lz [] [] [] b).P 1):=au _ _
def T7 (sz ch mo:Nat)(lz:Bool)(b:Z1):List Bool:=mW sz ch mo lz b.length ⟨[],[],b,[]⟩
theorem J5 {sz ch mo:Nat}{lz:Bool}{b:Z1}(hm:1<=mo):tU sz ch mo lz b=pk (T7 sz ch mo lz b):=by
 have q:=Ad (sz:=sz) (ch:=ch) (mo:=mo) (lz:=lz) b.length ⟨[],[],b,[]⟩ [] (by show 0<8;decide) rfl rfl (Vd _) hm;rw[xK,tO];have e:mc sz ch mo lz (([]:Z1).length+b.length) ⟨[],[],[]++b,[]⟩=mc sz ch mo lz b.length ⟨[],[],b,[]⟩:=by rw[WZ,VK];rfl
 rw[e];exact q
theorem ES {sz ch mo:Nat}{lz:Bool}{b more:Z1}{most:Int}(hs:1<=sz∧sz<=32768)(hmo:1<=mo∧mo<=65535)(hm:((b.length:Nat):Int)<=most):gn (tU sz ch mo lz b++more) most 0=(⟨(T7 sz ch mo lz b).length,0⟩,b):=by
 have h:=Qv (T7 sz ch mo lz b) more;rw[<-J5 hmo.1]at h;have q:=Ae (b:=tU sz ch mo lz b++more) (most:=most) (ch:=ch) (lz:=lz) hs hmo b.length ⟨[],[],b,[]⟩ 0 [] [] (by show 0<8;decide) (Vd _) (.inr trivial) rfl (by show((0+0+b.length:Nat):Int)<=most;omega) (by rw[VS];exact h);rw[VK]at q;exact q
theorem M0 {sz ch mo:Nat}{lz:Bool}{b more:Z1}{most:Int}(hs:1<=sz∧sz<=32768)(hmo:1<=mo∧mo<=65535)(h0:0<=most)(hm:most<((b.length:Nat):Int)):(gn (tU sz ch mo lz b++more) most 0).1.e=140:=by
 have q:=ES (ch:=ch) (lz:=lz) (b:=b) (more:=more) (most:=((b.length:Nat):Int)) hs hmo (Int.le_refl _);unfold gn at q ⊢;rw[pR]at q ⊢;have e0:(g7 (tU sz ch mo lz b++more) ((b.length:Nat):Int) (mu (tU sz ch mo lz b++more) none (s0 0)) none (s0 0) []).1.e=0:=by rw[q]
 rcases Ag _ most _ _ _ _ _ e0 with h|h
 ·exfalso
  have m:=og (tU sz ch mo lz b++more) most (mu (tU sz ch mo lz b++more) none (s0 0)) none (s0 0) [] (by show((0:Nat):Int)<=most;omega);have e:=(tI (tU sz ch mo lz b++more) most ((b.length:Nat):Int) _ _ _ _).1 h om;rw[<-e,q]at m;have m:((b.length:Nat):Int)<=most:=m;omega
 ·exact h
theorem rH {sz ch mo:Nat}{lz:Bool}{b:Z1}(hm:1<=mo):(tU sz ch mo lz b).length=(bH sz ch mo lz [] [] [] b).O.length+(pk (ir sz ch lz (bH sz ch mo lz [] [] [] b).H (bH sz ch mo lz [] [] [] b).w (bH sz ch mo lz [] [] [] b).P 1)).length∧(tU sz ch mo lz b).length<=6*b.length+5:=by
 have k:=EL (sz:=sz) (ch:=ch) (mo:=mo) (lz:=lz) (H:=[]) (P:=[]) (W:=[]) (b:=b) hm (VI _) (by decide);have z:=Rv (sz:=sz) (ch:=ch) (lz:=lz) (H:=(bH sz ch mo lz [] [] [] b).H) hm k.p (Ru (sz:=sz) (ch:=ch) (lz:=lz) (H:=[]) (P:=[]) (W:=[]) (b:=b) hm (by decide) (Rt mo));have d:=Nat.div_le_self (0+b.length) mo;have e:=congrArg Ym (xK sz ch mo lz b);rw[U2]at e;exact⟨e,by omega⟩
theorem T8 (sz ch mo:Nat)(lz:Bool)(hs:1<=sz∧sz<=32768)(hc:ch<=256)(hmo:1<=mo∧mo<=65535)(b:Z1)(n:Nat)(hn:n=b.length)(hn2:n<=300):S0 13 [.agg [nD sz,nD ch,nD mo,bD lz,dw,dw,dw,iD 0,bD false],.sl false n 1 (b.map dB)] [] (.tup [.agg [nD sz,nD ch,nD mo,bD lz,.ref 0 0 0 (bH sz ch mo lz [] [] [] b).H.length 1,.ref 1 1 0 (bH sz ch mo lz [] [] [] b).w.length 1,.ref 2 2 0 (pk (bH sz ch mo lz [] [] [] b).P).length 1,nD (bH sz ch mo lz [] [] [] b).P.length,bD false],.ref 3 3 0 (bH sz ch mo lz [] [] [] b).O.length 1,iD 0]) [⟨(bH sz ch mo lz [] [] [] b).H.map dB, 5,true⟩,⟨(bH sz ch mo lz [] [] [] b).w.map dB, 5,true⟩,⟨(pk (bH sz ch mo lz [] [] [] b).P).map dB, 5,true⟩,⟨(bH sz ch mo lz [] [] [] b).O.map dB, 5,true⟩]:=
 Rr (ds':=[.agg [nD sz,nD ch,nD mo,bD lz,.sl false 0 1 (([]:Z1).map dB),.sl false 0 1 (([]:Z1).map dB),.sl false 0 1 ((pk []).map dB),nD ([]:List Bool).length,bD false],.sl false n 1 (b.map dB)]) ⟨D.sim.agg ⟨.refl _,.refl _,.refl _,.refl _,D.sim.nil (by decide),D.sim.nil (by decide),D.sim.nil (by decide),.refl _,.refl _,trivial⟩,.refl _,trivial⟩ (EM sz ch mo lz hs hc hmo [] 0 rfl om [] 0 rfl om [] 0 rfl (by decide) b n hn om)
theorem Ry (sz ch mo:Nat)(lz:Bool)(hs:1<=sz∧sz<=32768)(hc:ch<=256)(hmo:1<=mo∧mo<=65535)(b:Z1)(n:Nat)(hn:n=b.length)(hn2:n<=300):S0 15 [.agg [nD sz,nD ch,nD mo,bD lz],.sl false n 1 (b.map dB)] [] (.tup [.ref 0 0 0 (tU sz ch mo lz b).length 1,iD 0]) [⟨(tU sz ch mo lz b).map dB, 5,true⟩]:=by
 have k:=EL (sz:=sz) (ch:=ch) (mo:=mo) (lz:=lz) (H:=[]) (P:=[]) (W:=[]) (b:=b) hmo.1 (VI _) (by decide);have kh:=k.h;have kw:=k.w;have kp:=k.p;have eA:=xK sz ch mo lz b;have eL:=rH (sz:=sz) (ch:=ch) (lz:=lz) (b:=b) hmo.1;refine SpecH.run T_ok ah Tryz.func15 rfl rfl rfl ⟨bn _,trivial⟩ rfl 1000 64 (λ R ok=>(.s 9 (.cl 11 false [] (.fn Ul (@Rw (sz) (ch) (mo) (lz) om om om)) (.s 21 (.cl 13 false [] (.fn UV (@T8 (sz) (ch) (mo) (lz) om om om (b) (n) om om)) (.s 21 (.call 23 false [] (true&&(true&&(true&&(true&&(true&&(true&&U7 (0+length (Ls.H (bH sz ch mo lz [] [] [] b))*1) (length (map dB (Ls.H (bH sz ch mo lz [] [] [] b))))&&true&&ab (bif true&&U5 (length (Ls.H (bH sz ch mo lz [] [] [] b))*1) (length (map dB (Ls.H (bH sz ch mo lz [] [] [] b))))then map dB (Ls.H (bH sz ch mo lz [] [] [] b))else take (length (Ls.H (bH sz ch mo lz [] [] [] b))*1) (drop 0 (map dB (Ls.H (bH sz ch mo lz [] [] [] b))))))&&(true&&(true&&U7 (0+length (Ls.w (bH sz ch mo lz [] [] [] b))*1) (length (map dB (Ls.w (bH sz ch mo lz [] [] [] b))))&&true&&ab (bif true&&U5 (length (Ls.w (bH sz ch mo lz [] [] [] b))*1) (length (map dB (Ls.w (bH sz ch mo lz [] [] [] b))))then map dB (Ls.w (bH sz ch mo lz [] [] [] b))else take (length (Ls.w (bH sz ch mo lz [] [] [] b))*1) (drop 0 (map dB (Ls.w (bH sz ch mo lz [] [] [] b))))))&&(true&&(true&&U7 (0+length (pk (Ls.P (bH sz ch mo lz [] [] [] b)))*1) (length (map dB (pk (Ls.P (bH sz ch mo lz [] [] [] b)))))&&true&&ab (bif true&&U5 (length (pk (Ls.P (bH sz ch mo lz [] [] [] b)))*1) (length (map dB (pk (Ls.P (bH sz ch mo lz [] [] [] b)))))then map dB (pk (Ls.P (bH sz ch mo lz [] [] [] b)))else take (length (pk (Ls.P (bH sz ch mo lz [] [] [] b)))*1) (drop 0 (map dB (pk (Ls.P (bH sz ch mo lz [] [] [] b)))))))&&true))))))&&true) (by(simp;done)) ([Wp [zN sz,zN ch,zN mo,D.v (.bool lz),Vl (U7 1 (length (Ls.H (bH sz ch mo lz [] [] [] b)))) (length (Ls.H (bH sz ch mo lz [] [] [] b))) 1 (bif true&&U5 (length (Ls.H (bH sz ch mo lz [] [] [] b))*1) (length (map dB (Ls.H (bH sz ch mo lz [] [] [] b))))then map dB (Ls.H (bH sz ch mo lz [] [] [] b))else take (length (Ls.H (bH sz ch mo lz [] [] [] b))*1) (drop 0 (map dB (Ls.H (bH sz ch mo lz [] [] [] b))))),Vl (U7 1 (length (Ls.w (bH sz ch mo lz [] [] [] b)))) (length (Ls.w (bH sz ch mo lz [] [] [] b))) 1 (bif true&&U5 (length (Ls.w (bH sz ch mo lz [] [] [] b))*1) (length (map dB (Ls.w (bH sz ch mo lz [] [] [] b))))then map dB (Ls.w (bH sz ch mo lz [] [] [] b))else take (length (Ls.w (bH sz ch mo lz [] [] [] b))*1) (drop 0 (map dB (Ls.w (bH sz ch mo lz [] [] [] b))))),Vl (U7 1 (length (pk (Ls.P (bH sz ch mo lz [] [] [] b))))) (length (pk (Ls.P (bH sz ch mo lz [] [] [] b)))) 1 (bif true&&U5 (length (pk (Ls.P (bH sz ch mo lz [] [] [] b)))*1) (length (map dB (pk (Ls.P (bH sz ch mo lz [] [] [] b)))))then map dB (pk (Ls.P (bH sz ch mo lz [] [] [] b)))else take (length (pk (Ls.P (bH sz ch mo lz [] [] [] b)))*1) (drop 0 (map dB (pk (Ls.P (bH sz ch mo lz [] [] [] b)))))),zN (length (Ls.P (bH sz ch mo lz [] [] [] b))),D.v (.bool false)]]) _ (by exact(VR (D.sim.agg (qr (qr (qr (qr (VR (D.sim.slw rfl (bW (by(simp;done))|>.trans rfl)) (VR (D.sim.slw rfl (bW (by(simp;done))|>.trans rfl)) (VR (D.sim.slw rfl (bW (by(simp;done))|>.trans rfl)) (qr (qr trivial)))))))))) trivial)) (true) wr _ _ _ (VC (az.of Tryz.func23 rfl rfl) (@Hw (sz) (ch) (mo) (lz) om om om (Ls.H (bH sz ch mo lz [] [] [] b)) (length (Ls.H (bH sz ch mo lz [] [] [] b))) om om (Ls.w (bH sz ch mo lz [] [] [] b)) (length (Ls.w (bH sz ch mo lz [] [] [] b))) om om (Ls.P (bH sz ch mo lz [] [] [] b)) (length (pk (Ls.P (bH sz ch mo lz [] [] [] b)))) om om)) (.s 17 (.chk (true&&U5 (length (Ls.O (bH sz ch mo lz [] [] [] b))*1) (length (map dB (Ls.O (bH sz ch mo lz [] [] [] b))))&&true&&(true&&U7 (0+length (pk (ir sz ch lz (Ls.H (bH sz ch mo lz [] [] [] b)) (Ls.w (bH sz ch mo lz [] [] [] b)) (Ls.P (bH sz ch mo lz [] [] [] b)) 1))*1) (length (map dB (pk (ir sz ch lz (Ls.H (bH sz ch mo lz [] [] [] b)) (Ls.w (bH sz ch mo lz [] [] [] b)) (Ls.P (bH sz ch mo lz [] [] [] b)) 1)))))&&true&&true&&U7 ((length (Ls.O (bH sz ch mo lz [] [] [] b))+length (pk (ir sz ch lz (Ls.H (bH sz ch mo lz [] [] [] b)) (Ls.w (bH sz ch mo lz [] [] [] b)) (Ls.P (bH sz ch mo lz [] [] [] b)) 1)))*1) 140737488355328) (by(simp <;>(omega))) (.s 3 (.out [296] [296] (V2 [U6 0 0 0 (length (Ls.O (bH sz ch mo lz [] [] [] b))+length (pk (ir sz ch lz (Ls.H (bH sz ch mo lz [] [] [] b)) (Ls.w (bH sz ch mo lz [] [] [] b)) (Ls.P (bH sz ch mo lz [] [] [] b)) 1))) 1,zI 0]) [U1 (map dB (Ls.O (bH sz ch mo lz [] [] [] b))++bif true&&U5 (length (pk (ir sz ch lz (Ls.H (bH sz ch mo lz [] [] [] b)) (Ls.w (bH sz ch mo lz [] [] [] b)) (Ls.P (bH sz ch mo lz [] [] [] b)) 1))*1) (length (map dB (pk (ir sz ch lz (Ls.H (bH sz ch mo lz [] [] [] b)) (Ls.w (bH sz ch mo lz [] [] [] b)) (Ls.P (bH sz ch mo lz [] [] [] b)) 1))))then map dB (pk (ir sz ch lz (Ls.H (bH sz ch mo lz [] [] [] b)) (Ls.w (bH sz ch mo lz [] [] [] b)) (Ls.P (bH sz ch mo lz [] [] [] b)) 1))else take (length (pk (ir sz ch lz (Ls.H (bH sz ch mo lz [] [] [] b)) (Ls.w (bH sz ch mo lz [] [] [] b)) (Ls.P (bH sz ch mo lz [] [] [] b)) 1))*1) (drop 0 (map dB (pk (ir sz ch lz (Ls.H (bH sz ch mo lz [] [] [] b)) (Ls.w (bH sz ch mo lz [] [] [] b)) (Ls.P (bH sz ch mo lz [] [] [] b)) 1))))) 5 true] R (ok _ _ (by(rw[eL.1])) (by(simp_all;done)))))))))))))) kr
theorem J6 (sz ch mo:Int)(lz:Bool)(hS:StyV sz ch mo lz 8)(b:Z1)(n:Nat)(hn:n=b.length):S0 15 [.agg [iD sz,iD ch,iD mo,bD lz],.sl false n 1 (b.map dB)] [] (.tup [dw,iD 8]) []:=by
 refine SpecH.run T_ok ah Tryz.func15 rfl rfl rfl trivial rfl 1000 64 (λ R ok=>(.s 9 (.cl 11 false [] (.fn Ul (@Rx (sz) (ch) (mo) (lz) om)) (.s 18 (.out [] [] (V2 [zS,zI 8]) [] R (ok _ _ wr wr)))))) kr
structure AllV (sz ch mo:Nat)(lz:Bool)(b:Z1)(n:Nat)(X:Z1)(N:Nat):Prop where
 s:S0 15 [.agg [nD sz,nD ch,nD mo,bD lz],.sl false n 1 (b.map dB)] [] (.tup [.ref 0 0 0 N 1,iD 0]) [⟨X.map dB, 5,true⟩]
theorem Ah (sz ch mo:Nat)(lz:Bool)(b:Z1)(n:Nat)(X:Z1)(N:Nat)(h:AllV sz ch mo lz b n X N):S0 15 [.agg [nD sz,nD ch,nD mo,bD lz],.sl false n 1 (b.map dB)] [] (.tup [.ref 0 0 0 N 1,iD 0]) [⟨X.map dB, 5,true⟩]:=h.s
structure InfV (B:Z1)(n:Nat)(most:Int)(y:Z1)(q e:Nat):Prop where
 s:S0 30 [.sl false n 1 (B.map dB),iD 0,iD most] [] (.tup [.ref 0 0 0 y.length 1,nD q,nD e]) [⟨y.map dB, 5,true⟩]
theorem Ai (B:Z1)(n:Nat)(most:Int)(y:Z1)(q e:Nat)(h:InfV B n most y q e):S0 30 [.sl false n 1 (B.map dB),iD 0,iD most] [] (.tup [.ref 0 0 0 y.length 1,nD q,nD e]) [⟨y.map dB, 5,true⟩]:=h.s
theorem M1 (sz ch mo:Nat)(lz:Bool)(hs:1<=sz∧sz<=32768)(hc:ch<=256)(hmo:1<=mo∧mo<=65535)(b:Z1)(n:Nat)(hn:n=b.length)(hn2:n<=300)(more:Z1)(m:Nat)(hm:m=more.length)(hm2:m<=300)(X:Z1)(N:Nat)(hN:N=X.length)(hN2:N<=2000)(hA:AllV sz ch mo lz b n X N)(most:Int)(h0:0<=most∧most<=3000)(h1:(n:Int)<=most)(q:Nat)(hI:InfV (X++more) (N+m) most b q 0)(hq:8*((N:Int)-1)<q∧q<=8*N):S0 8 [.agg [nD sz,nD ch,nD mo,bD lz],.sl false n 1 (b.map dB),.sl false m 1 (more.map dB),iD most] [] (.v (.bool true)) []:=by
 refine SpecH.run T_ok ah Tryz.func8 rfl rfl rfl trivial rfl 1000 64 (λ R ok=>(.s 4 (.cl 28 false [] (.fn N1 (@vV)) (.s 7 (.f (decide (300<(n:Int))) jh (.s 8 (.f (decide (300<(m:Int))) jh (.s 6 (.f (decide (3000<most)) jh (.s 18 (.cl 15 false [] (.fn M9 (@Ah (sz) (ch) (mo) (lz) (b) (n) (X) (N) aF)) (.s 13 (.chk (true&&(true&&U7 (0+N*1) (length (map dB X)))&&true&&true&&U7 ((0+N)*1) 140737488355328) (by(simp <;>(omega))) (.s 2 (.chk (true&&U5 (N*1) (length (bif true&&U5 (N*1) (length (map dB X))then map dB X else take (N*1) (drop 0 (map dB X))))&&true&&true&&true&&true&&U7 ((N+m)*1) 140737488355328) (by(simp_all<;>omega)) (.s 2 (.call 30 false [] (true&&(true&&U7 (0+(N+m)*1) (length ((bif true&&U5 (N*1) (length (map dB X))then map dB X else take (N*1) (drop 0 (map dB X)))++map dB more))&&true&&ab (bif true&&U5 ((N+m)*1) (length ((bif true&&U5 (N*1) (length (map dB X))then map dB X else take (N*1) (drop 0 (map dB X)))++map dB more))then(bif true&&U5 (N*1) (length (map dB X))then map dB X else take (N*1) (drop 0 (map dB X)))++map dB more else take ((N+m)*1) (drop 0 ((bif true&&U5 (N*1) (length (map dB X))then map dB X else take (N*1) (drop 0 (map dB X)))++map dB more))))&&true) (by(simp_all;done)) ([Vl (U7 1 (N+m)) (N+m) 1 (bif true&&U5 ((N+m)*1) (length ((bif true&&U5 (N*1) (length (map dB X))then map dB X else take (N*1) (drop 0 (map dB X)))++map dB more))then(bif true&&U5 (N*1) (length (map dB X))then map dB X else take (N*1) (drop 0 (map dB X)))++map dB more else take ((N+m)*1) (drop 0 ((bif true&&U5 (N*1) (length (map dB X))then map dB X else take (N*1) (drop 0 (map dB X)))++map dB more))),zI 0,zI most]) _ Hx (true) wr _ _ _ (VC (az.of Tryz.func30 rfl rfl) (@Ai (X++more) (N+m) (most) (b) (q) (0) aF)) (.s 15 (.f (decide (most<0)) jh (.s 4 (.f (decide (131072<most)) jh (.s 5 (.f (decide (most<(n:Int))) jh (.s 13 (.chk (true&&U7 (0+length b*1) (length (map dB b))&&true&&true) (by(simp;done)) (.byt (bif true&&U5 (length b*1) (length (map dB b))then map dB b else take (length b*1) (drop 0 (map dB b))) (b) (bW (by(simp;done))|>.trans rfl) (.s 5 (.byt (map dB b) (b) rfl (.s 5 (.t (ByteArray.toList (ByteArray.mk (Xy b))==ByteArray.toList (ByteArray.mk (Xy b))) (by(simp;done)) (.s 7 (.ow (N-1) (.s 3 (.ow (8*((N:Int)-1)) (.s 6 (.t (decide (8*((N:Int)-1)<q)) Bl (.s 7 (.ow (8*(N:Int)) (.s 5 (.out [] [] (D.v (.bool (decide ((q:Int)<=8*N)))) [] R (ok _ _ (by(simp <;>(omega))) wr))))))))))))))))))))))))))))))))))))))))) kr
theorem M2 (sz ch mo:Nat)(lz:Bool)(hs:1<=sz∧sz<=32768)(hc:ch<=256)(hmo:1<=mo∧mo<=65535)(b:Z1)(n:Nat)(hn:n=b.length)(hn2:n<=300)(more:Z1)(m:Nat)(hm:m=more.length)(hm2:m<=300)(X:Z1)(N:Nat)(hN:N=X.length)(hN2:N<=2000)(hA:AllV sz ch mo lz b n X N)(most:Int)(h0:0<=most∧most<=3000)(h1:most<(n:Int))(hI:InfV (X++more) (N+m) most [] 0 140):S0 8 [.agg [nD sz,nD ch,nD mo,bD lz],.sl false n 1 (b.map dB),.sl false m 1 (more.map dB),iD most] [] (.v (.bool true)) []:=by
 refine SpecH.run T_ok ah Tryz.func8 rfl rfl rfl trivial rfl 1000 64 (λ R ok=>(.s 4 (.cl 28 false [] (.fn N1 (@vV)) (.s 7 (.f (decide (300<(n:Int))) jh (.s 8 (.f (decide (300<(m:Int))) jh (.s 6 (.f (decide (3000<most)) jh (.s 18 (.cl 15 false [] (.fn M9 (@Ah (sz) (ch) (mo) (lz) (b) (n) (X) (N) aF)) (.s 13 (.chk (true&&(true&&U7 (0+N*1) (length (map dB X)))&&true&&true&&U7 ((0+N)*1) 140737488355328) (by(simp <;>(omega))) (.s 2 (.chk (true&&U5 (N*1) (length (bif true&&U5 (N*1) (length (map dB X))then map dB X else take (N*1) (drop 0 (map dB X))))&&true&&true&&true&&true&&U7 ((N+m)*1) 140737488355328) (by(simp_all<;>omega)) (.s 2 (.call 30 false [] (true&&(true&&U7 (0+(N+m)*1) (length ((bif true&&U5 (N*1) (length (map dB X))then map dB X else take (N*1) (drop 0 (map dB X)))++map dB more))&&true&&ab (bif true&&U5 ((N+m)*1) (length ((bif true&&U5 (N*1) (length (map dB X))then map dB X else take (N*1) (drop 0 (map dB X)))++map dB more))then(bif true&&U5 (N*1) (length (map dB X))then map dB X else take (N*1) (drop 0 (map dB X)))++map dB more else take ((N+m)*1) (drop 0 ((bif true&&U5 (N*1) (length (map dB X))then map dB X else take (N*1) (drop 0 (map dB X)))++map dB more))))&&true) (by(simp_all;done)) ([Vl (U7 1 (N+m)) (N+m) 1 (bif true&&U5 ((N+m)*1) (length ((bif true&&U5 (N*1) (length (map dB X))then map dB X else take (N*1) (drop 0 (map dB X)))++map dB more))then(bif true&&U5 (N*1) (length (map dB X))then map dB X else take (N*1) (drop 0 (map dB X)))++map dB more else take ((N+m)*1) (drop 0 ((bif true&&U5 (N*1) (length (map dB X))then map dB X else take (N*1) (drop 0 (map dB X)))++map dB more))),zI 0,zI most]) _ Hx (true) wr _ _ _ (VC (az.of Tryz.func30 rfl rfl) (@Ai (X++more) (N+m) (most) ([]) (0) (140) aF)) (.s 15 (.f (decide (most<0)) jh (.s 4 (.f (decide (131072<most)) jh (.s 5 (.t (decide (most<(n:Int))) Bl (.s 18 (.out [] [] (D.v (.bool true)) [] R (ok _ _ wr wr)))))))))))))))))))))))))) kr
theorem M3 (sz ch mo:Nat)(lz:Bool)(hs:1<=sz∧sz<=32768)(hc:ch<=256)(hmo:1<=mo∧mo<=65535)(b:Z1)(n:Nat)(hn:n=b.length)(hn2:n<=300)(more:Z1)(m:Nat)(hm:m=more.length)(hm2:m<=300)(X:Z1)(N:Nat)(hN:N=X.length)(hN2:N<=2000)(hA:AllV sz ch mo lz b n X N)(most:Int)(h0:most<0∨131072<most)(hI:InfV (X++more) (N+m) most [] 0 2):S0 8 [.agg [nD sz,nD ch,nD mo,bD lz],.sl false n 1 (b.map dB),.sl false m 1 (more.map dB),iD most] [] (.v (.bool true)) []:=by
 refine SpecH.run T_ok ah Tryz.func8 rfl rfl rfl trivial rfl 1000 64 (λ R ok=>(.s 4 (.cl 28 false [] (.fn N1 (@vV)) (.s 7 (.f (decide (300<(n:Int))) jh (.s 8 (.f (decide (300<(m:Int))) jh (.s 6 (.bd (3000<most) (λ p0 Z7=>(.s 8 (.f (decide (most<=131072)) jh (.s 10 (.cl 15 false [] (.fn M9 (@Ah (sz) (ch) (mo) (lz) (b) (n) (X) (N) aF)) (.s 13 (.chk (true&&(true&&U7 (0+N*1) (length (map dB X)))&&true&&true&&U7 ((0+N)*1) 140737488355328) (by(simp <;>(omega))) (.s 2 (.chk (true&&U5 (N*1) (length (bif true&&U5 (N*1) (length (map dB X))then map dB X else take (N*1) (drop 0 (map dB X))))&&true&&true&&true&&true&&U7 ((N+m)*1) 140737488355328) (by(simp_all<;>omega)) (.s 2 (.call 30 false [] (true&&(true&&U7 (0+(N+m)*1) (length ((bif true&&U5 (N*1) (length (map dB X))then map dB X else take (N*1) (drop 0 (map dB X)))++map dB more))&&true&&ab (bif true&&U5 ((N+m)*1) (length ((bif true&&U5 (N*1) (length (map dB X))then map dB X else take (N*1) (drop 0 (map dB X)))++map dB more))then(bif true&&U5 (N*1) (length (map dB X))then map dB X else take (N*1) (drop 0 (map dB X)))++map dB more else take ((N+m)*1) (drop 0 ((bif true&&U5 (N*1) (length (map dB X))then map dB X else take (N*1) (drop 0 (map dB X)))++map dB more))))&&true) (by(simp_all;done)) ([Vl (U7 1 (N+m)) (N+m) 1 (bif true&&U5 ((N+m)*1) (length ((bif true&&U5 (N*1) (length (map dB X))then map dB X else take (N*1) (drop 0 (map dB X)))++map dB more))then(bif true&&U5 (N*1) (length (map dB X))then map dB X else take (N*1) (drop 0 (map dB X)))++map dB more else take ((N+m)*1) (drop 0 ((bif true&&U5 (N*1) (length (map dB X))then map dB X else take (N*1) (drop 0 (map dB X)))++map dB more))),zI 0,zI most]) _ Hx (true) wr _ _ _ (VC (az.of Tryz.func30 rfl rfl) (@Ai (X++more) (N+m) (most) ([]) (0) (2) aF)) (.s 15 (.f (decide (most<0)) jh (.s 4 (.t (decide (131072<most)) Bl (.s 9 (.out [] [] (D.v (.bool true)) [] R (ok _ _ wr wr)))))))))))))))))) (λ p0 Z7=>(.s 18 (.cl 15 false [] (.fn M9 (@Ah (sz) (ch) (mo) (lz) (b) (n) (X) (N) aF)) (.s 13 (.chk (true&&(true&&U7 (0+N*1) (length (map dB X)))&&true&&true&&U7 ((0+N)*1) 140737488355328) (by(simp <;>(omega))) (.s 2 (.chk (true&&U5 (N*1) (length (bif true&&U5 (N*1) (length (map dB X))then map dB X else take (N*1) (drop 0 (map dB X))))&&true&&true&&true&&true&&U7 ((N+m)*1) 140737488355328) (by(simp_all<;>omega)) (.s 2 (.call 30 false [] (true&&(true&&U7 (0+(N+m)*1) (length ((bif true&&U5 (N*1) (length (map dB X))then map dB X else take (N*1) (drop 0 (map dB X)))++map dB more))&&true&&ab (bif true&&U5 ((N+m)*1) (length ((bif true&&U5 (N*1) (length (map dB X))then map dB X else take (N*1) (drop 0 (map dB X)))++map dB more))then(bif true&&U5 (N*1) (length (map dB X))then map dB X else take (N*1) (drop 0 (map dB X)))++map dB more else take ((N+m)*1) (drop 0 ((bif true&&U5 (N*1) (length (map dB X))then map dB X else take (N*1) (drop 0 (map dB X)))++map dB more))))&&true) (by(simp_all;done)) ([Vl (U7 1 (N+m)) (N+m) 1 (bif true&&U5 ((N+m)*1) (length ((bif true&&U5 (N*1) (length (map dB X))then map dB X else take (N*1) (drop 0 (map dB X)))++map dB more))then(bif true&&U5 (N*1) (length (map dB X))then map dB X else take (N*1) (drop 0 (map dB X)))++map dB more else take ((N+m)*1) (drop 0 ((bif true&&U5 (N*1) (length (map dB X))then map dB X else take (N*1) (drop 0 (map dB X)))++map dB more))),zI 0,zI most]) _ Hx (true) wr _ _ _ (VC (az.of Tryz.func30 rfl rfl) (@Ai (X++more) (N+m) (most) ([]) (0) (2) aF)) (.s 15 (.t (decide (most<0)) Bl (.s 13 (.out [] [] (D.v (.bool true)) [] R (ok _ _ wr wr))))))))))))))))))))))) kr
theorem M4 (sz ch mo:Int)(lz:Bool)(hS:StyV sz ch mo lz 8)(b:Z1)(n:Nat)(hn:n=b.length)(hn2:n<=300)(more:Z1)(m:Nat)(hm:m=more.length)(hm2:m<=300)(most:Int)(h0:most<=3000∨131072<most):S0 8 [.agg [iD sz,iD ch,iD mo,bD lz],.sl false n 1 (b.map dB),.sl false m 1 (more.map dB),iD most] [] (.v (.bool true)) []:=by
 refine SpecH.run T_ok ah Tryz.func8 rfl rfl rfl trivial rfl 1000 64 (λ R ok=>(.s 4 (.cl 28 false [] (.fn N1 (@vV)) (.s 7 (.f (decide (300<(n:Int))) jh (.s 8 (.f (decide (300<(m:Int))) jh (.s 6 (.bd (3000<most) (λ p0 Z7=>(.s 8 (.f (decide (most<=131072)) jh (.s 10 (.cl 15 false [] (.fn M9 (@J6 (sz) (ch) (mo) (lz) om (b) (n) om)) (.s 20 (.cl 29 false [] (.fn Na (@EK (sz) (ch) (mo) (lz) (8) aF)) (.s 7 (.out [] [] (D.v (.bool true)) [] R (ok _ _ wr wr)))))))))) (λ p0 Z7=>(.s 18 (.cl 15 false [] (.fn M9 (@J6 (sz) (ch) (mo) (lz) om (b) (n) om)) (.s 20 (.cl 29 false [] (.fn Na (@EK (sz) (ch) (mo) (lz) (8) aF)) (.s 7 (.out [] [] (D.v (.bool true)) [] R (ok _ _ wr wr))))))))))))))))) kr
theorem M5 (sz ch mo:Int)(lz:Bool)(b:Z1)(n:Nat)(hn:n=b.length)(more:Z1)(m:Nat)(hm:m=more.length)(most:Int)(hG:300<n∨300<m∨3000<most∧most<=131072):S0 8 [.agg [iD sz,iD ch,iD mo,bD lz],.sl false n 1 (b.map dB),.sl false m 1 (more.map dB),iD most] [] (.v (.bool true)) []:=by
 refine SpecH.run T_ok ah Tryz.func8 rfl rfl rfl trivial rfl 1000 64 (λ R ok=>(.s 4 (.cl 28 false [] (.fn N1 (@vV)) (.s 7 (.bd (300<(n:Int)) (λ p0 Z7=>(.s 26 (.out [] [] (D.v (.bool true)) [] R (ok _ _ wr wr)))) (λ p0 Z7=>(.s 8 (.bd (300<(m:Int)) (λ p1 Z6=>(.s 18 (.out [] [] (D.v (.bool true)) [] R (ok _ _ wr wr)))) (λ p1 Z6=>(.s 6 (.t (decide (3000<most)) Bl (.s 8 (.t (decide (most<=131072)) Bl (.s 6 (.out [] [] (D.v (.bool true)) [] R (ok _ _ wr wr)))))))))))))))) kr
theorem M6 {B:Z1}{n:Nat}(hn:n=B.length)(hN:n<=131072){most:Int}(h:most<0∨131072<most):InfV B n most [] 0 2:=⟨vR B n hn hN 0 most ([],0,2) (JM om h)⟩
theorem M7 {B:Z1}{n:Nat}(hn:n=B.length)(hN:n<=131072){most:Int}(h:0<=most∧most<=131072)(h2:(gn B most 0).1.e=140):InfV B n most [] 0 140:=by
 have q:=JN (b:=B) (x:=0) (most:=most) om om (by show(gn B most 0).1.e≠0;omega);have q:qi B 0 most=([],0,(gn B most 0).1.e):=q;rw[h2]at q;exact⟨vR B n hn hN 0 most _ q⟩
theorem M8 {B:Z1}{n:Nat}(hn:n=B.length)(hN:n<=131072){most:Int}(h:0<=most∧most<=131072){y:Z1}{q:Nat}(h2:gn B most 0=(⟨q,0⟩,y)):InfV B n most y q 0:=by
 have z:=JO (b:=B) (x:=0) (most:=most) om om (by show¬(gn B most 0).1.e≠0;rw[h2];exact λ y=>y rfl);have z:qi B 0 most=((gn B most 0).2,(gn B most 0).1.p,0):=z;rw[h2]at z;exact⟨vR B n hn hN 0 most _ z⟩
theorem back_ (sz ch mo:Int)(lz:Bool)(b more:Z1)(most:Int):S0 8 [.agg [iD sz,iD ch,iD mo,bD lz],.sl false b.length 1 (b.map dB),.sl false more.length 1 (more.map dB),iD most] [] (.v (.bool true)) []:=by
 by_cases hG:300<b.length∨300<more.length∨3000<most∧most<=131072
 ·exact M5 sz ch mo lz b _ rfl more _ rfl most hG
 obtain⟨e,hS,s1,s2⟩:=MY sz ch mo lz;rcases s2 with rfl|rfl
 ·have c1:=s1.1 rfl
  obtain⟨a,rfl⟩:=V5 (show 0<=sz by omega);obtain⟨c,rfl⟩:=V5 (show 0<=ch by omega);obtain⟨d,rfl⟩:=V5 (show 0<=mo by omega);have hs:1<=a∧a<=32768:=by omega
  have hc:c<=256:=by omega
  have hmo:1<=d∧d<=65535:=by omega
  have hA:AllV a c d lz b b.length (tU a c d lz b) (tU a c d lz b).length:=⟨Ry a c d lz hs hc hmo b _ rfl om⟩
  have hL:=(rH (sz:=a) (ch:=c) (lz:=lz) (b:=b) hmo.1).2;have hn:(tU a c d lz b).length+more.length=(tU a c d lz b++more).length:=List.length_append.symm
  by_cases h1:most<0∨131072<most
  ·exact M3 a c d lz hs hc hmo b _ rfl om more _ rfl om _ _ rfl om hA most h1 (M6 hn om h1)
  ·by_cases h2:most<((b.length:Nat):Int)
   ·exact M2 a c d lz hs hc hmo b _ rfl om more _ rfl om _ _ rfl om hA most om h2 (M7 hn om om (M0 hs hmo om h2))
   ·have q:=ES (ch:=c) (lz:=lz) (b:=b) (more:=more) (most:=most) hs hmo om
    have e:=congrArg Ym (J5 (sz:=a) (ch:=c) (lz:=lz) (b:=b) hmo.1);rw[am]at e;exact M1 a c d lz hs hc hmo b _ rfl om more _ rfl om _ _ rfl om hA most om om _ (M8 hn om om q) om
 ·exact M4 sz ch mo lz hS b _ rfl om more _ rfl om most om
end Vp
end Go.Proofs.YtefjnofhgkjpmaaGreat
namespace Go.Bw
open Go.RowKit Go.ChangeShapes Go.WideShapes Go.ChangeAt
section
variable {H:Type} {enc:TypeId×Value->H} {P:Program} {w:World} {base:Nat} {r:Reach} {t e:TypeId} {v:Value} {d:DataW H} {p:List MemPlace}

def Tr (enc:TypeId×Value->H)(P:Program)(w:World)(t:TypeId)(v:Value):Prop:=∃d p,DataW.Trod enc P w 0 (λ _=>true) true t v d p

theorem Aj (n:Int)(h:(Ze .u8 n).wf=true):((V6 n.toNat).toNat:Int)=n:=by
 obtain⟨h1,h2⟩:=bounds_u8 h;rw[jj _ (by omega)];omega

theorem pY {fuel:Nat}{x:DataW H×List MemPlace}(ht:P.underlying t=some (.slice e))(he:P.underlying e=some (.int .u8))(hc:P.cellsOf e=1)(h:aaT enc P w 0 (λ _=>true) true fuel t [v]=some x):
  ∃a cap bs,v= .slice a bs.length cap∧Bt w a cap bs:=by
 rcases open_ints ht he hc h with⟨hcs,_⟩|⟨x,len,cap,zs,hcs,_,hl,hm,hz,_,hcell,hwz⟩
 ·simp at hcs
  subst hcs;exact⟨none,0,[],rfl,Bt.nil w⟩
 ·simp at hcs
  subst hcs;simp at hz;have hlen:((zs.take len).map λ n=>V6 n.toNat).length=len:=by simp;omega
  refine⟨some x,cap,(zs.take len).map λ n=>V6 n.toNat,by rw[hlen],?_⟩;unfold maxLen at hm;refine⟨by simp,by rw[hlen];exact hl,by omega,(λ h=>by cases h),?_⟩;rw[hlen];rcases Xh len with h0|h0
  ·exact .inl h0
  ·have hc0:=hcell 0 (by omega)
   obtain⟨b,off,spot⟩:=x;have hspot:spot=none:=by simpa[Addr.add]using World.cell?_spot hc0
   subst hspot;refine .inr ⟨b,off,rfl,block_lt_of_cell (by simpa[Addr.add]using hc0),λ i u hu=>?_⟩;rw[List.map_map,Vu,Wk]at hu;obtain⟨n,hn,rfl⟩:=hu;rw[V0]at hn
   split at hn
   ·rename_i hi
    have hci:=hcell i (by omega);rw[Addr.add_mid]at hci;rw[hci];have hg:zs.getD i 0=n:=by simp[hn]
    rw[hg];simp only[Function.comp,bv];rw[Aj n (hwz n (List.mem_of_getElem? hn))]
   ·cases hn

theorem xM {n:Nat}{k:IntKind}(ht:P.underlying t=some (.array n e))(he:P.underlying e=some (.int k))(hc:P.cellsOf e=1)(hn:P.cellsOf t=n)(ho:Value.okWide P w r base t v)(h:Tr enc P w t v):
  ∃zs:List Int,v= .agg (zs.map λ z=>Value.int k z).toArray∧zs.length=n∧∀z∈zs,(Ze k z).wf=true:=by
 simp only[Value.okWide,ht]at ho;obtain⟨cs,rfl,hs,_⟩:=ho;obtain⟨d,p,fuel,hf⟩:=h;obtain⟨xs,m,_,_,hl,hx,hel⟩:=aay ht hf;have each:∀i,i<n->∃z,cs[i]? =some (.int k z)∧(Ze k z).wf=true:=by
  intro i hi;have:=hel i hi;rw[hc,VG,U4 (by omega)]at this;obtain⟨z,hz,_,hw⟩:=ZH he this;refine⟨z,?_,hw⟩;have h1:(VW i (Value.agg cs).cells.toList)[0]? =some (.int k z):=by
   have:(VX 1 (VW i (Value.agg cs).cells.toList))[0]? =some (.int k z):=by rw[hz];rfl
   rw[V0]at this;simpa using this
  simpa[Value.cells]using h1
 let num:Value->Int:=λ v=>match v with| .int _ z=>z|_=>0
 refine⟨cs.toList.map num,?_,by simp;omega,?_⟩
 ·congr 1
  apply Array.ext_getElem?;intro i
  by_cases hi:i<n
  ·obtain⟨z,hz,_⟩:=each i hi
   simp[hz,num]
  ·rw[Array.getElem?_eq_none (by omega),Array.getElem?_eq_none (by simp;omega)]
 ·intro z hz
  simp only[Yo]at hz;obtain⟨v,hv,rfl⟩:=hz;obtain⟨i,hi⟩:=Wc hv;have hin:i<n:=by
   have:=(List.getElem?_eq_some_iff.1 hi).1;simp at this;omega
  obtain⟨z,hz,hw⟩:=each i hin;have:v= .int k z:=by
   have:cs[i]? =some v:=by simpa using hi
   rw[hz]at this;exact(Option.some.inj this).symm
  subst this;exact hw

end
end Go.Bw
namespace Go.Vx
open Go.RowKit Go.Bw Go.ChangeShapes Go.WideShapes Go.ChangeAt

inductive Sh
 |int (k:IntKind)
 |bool
 |str
 |bytes
 |sl (e:Sh) (sz:Nat)
 |arr (k:IntKind) (n:Nat)
 |st (l:Sh)
 |nil
 |cons (a b:Sh)
def Sh.size:Sh->Nat
 | .int _=>1
 | .bool=>1
 | .str=>1
 | .bytes=>1
 | .sl _ _=>1
 | .arr _ n=>n
 | .st l=>l.size
 | .nil=>0
 | .cons a b=>a.size+b.size
def Sh.has:Sh->List D->Prop
 | .int k,ds=>∃n,ds=[.v (.int k n)]∧(Ze k n).wf=true
 | .bool,ds=>∃b,ds=[.v (.bool b)]
 | .str,ds=>∃s:ByteArray,ds=[.v (.string s)]∧s.size<=maxLen
 | .bytes,ds=>∃bs:Z1,ds=[.sl false bs.length 1 (bs.map dB)]∧bs.length<=maxLen
 | .sl e sz,ds=>∃els:List (List D),ds=[.sl false els.length sz els.flatten]∧(∀el∈els,e.has el)∧els.length<=maxLen
 | .arr k n,ds=>∃zs:List Int,ds=zs.map (λ z=>D.v (.int k z))∧zs.length=n∧∀z∈zs,(Ze k z).wf=true
 | .st l,ds=>l.has ds
 | .nil,ds=>ds=[]
 | .cons a b,ds=>∃d1 d2,ds=d1++d2∧a.has d1∧b.has d2
mutual
def Sh.ty (P:Program):Sh->TypeId->Prop
 | .int k,t=>P.underlying t=some (.int k)
 | .bool,t=>P.underlying t=some .bool
 | .str,t=>P.underlying t=some .string
 | .bytes,t=>∃te,P.underlying t=some (.slice te)∧P.cellsOf te=1∧P.underlying te=some (.int .u8)
 | .sl e sz,t=>∃te,P.underlying t=some (.slice te)∧P.cellsOf te=sz∧0<sz∧e.size=sz∧e.ty P te
 | .arr k n,t=>∃te,P.underlying t=some (.array n te)∧P.cellsOf te=1∧P.cellsOf t=n∧P.underlying te=some (.int k)
 | .st l,t=>∃fs,P.underlying t=some (.struct fs)∧P.cellsOf t=l.size∧l.fty P 0 fs.toList
 | .nil,_=>False
 | .cons _ _,_=>False
def Sh.fty (P:Program):Sh->Nat->List Field->Prop
 | .nil,_,[]=>True
 | .cons a b,off,f::r=>f.offset=off∧P.cellsOf f.type=a.size∧a.ty P f.type∧b.fty P (off+a.size) r
 |_,_,_=>False
end
def CR (E:Env)(w:World)(ds:List D)(us:List Value):Prop:=us.length=ds.length∧∀(i:Nat) d u,ds[i]? =some d->us[i]? =some u->RD E w d u∧u.oneCell'=true
theorem CR.append {E:Env}{w:World}{d1 d2:List D}{u1 u2:List Value}(h1:CR E w d1 u1)(h2:CR E w d2 u2):CR E w (d1++d2) (u1++u2):=by
 refine⟨by simp[h1.1,h2.1],λ i d u hd hu=>?_⟩
 by_cases hi:i<d1.length
 ·rw[Vz hi]at hd
  rw[Vz (by have:=h1.1;omega)]at hu;exact h1.2 i d u hd hu
 ·rw[Vs (by omega)]at hd
  rw[Vs (by have:=h1.1;omega),h1.1]at hu;exact h2.2 _ d u hd hu
theorem CR.one {E:Env}{w:World}{d:D}{u:Value}(h:RD E w d u)(h1:u.oneCell'=true):CR E w [d] [u]:=⟨rfl,λ i d' u' hd hu=>by
 cases i with
 |zero=>simp at hd hu;subst hd hu;exact⟨h,h1⟩
 |succ i=>simp at hd⟩
theorem CR.nil (E:Env)(w:World):CR E w [] []:=⟨rfl,λ i d u hd=>by simp at hd⟩
theorem CR.flatten {E:Env}{w:World}:∀{els:List (List D)} {vs:List (List Value)},els.length=vs.length->(∀(i:Nat) el v,els[i]? =some el->vs[i]? =some v->CR E w el v)->CR E w els.flatten vs.flatten
 |[],[],_,_=>CR.nil E w
 |e::els,v::vs,hl,h=>by
  rw[X0,X0];exact(h 0 e v rfl rfl).append (CR.flatten (by simpa using hl) λ i el v' h1 h2=>h (i+1) el v' (by simpa using h1) (by simpa using h2))
 |[],_::_,hl,_=>by simp at hl
 |_::_,[],hl,_=>by simp at hl

section
variable {H:Type} {enc:TypeId×Value->H} {P:Program} {w:World}
theorem eM {α:Type}{sz:Nat}(hs:0<sz):∀{l:List (List α)},(∀x∈l,x.length=sz)->∀i:Nat,l.flatten[i]? =(l[i/sz]?).bind (·[i%sz]?)
 |[],_,i=>by simp
 |x::l,h,i=>by
  rw[X0];have hx:=h x Vr
  by_cases hi:i<sz
  ·rw[Vz (by omega),Nat.div_eq_of_lt hi,Wq hi];rfl
  ·rw[Vs (by omega),eM hs (λ y hy=>h y (Vy _ hy)) (i-x.length),hx]
   have e1:i/sz=(i-sz)/sz+1:=by
    rw[<-Nat.add_div_right _ hs];congr 1;omega
   have e2:i%sz=(i-sz)%sz:=by
    conv=>lhs;rw[show i=(i-sz)+sz by omega,Nat.add_mod_right]
   rw[e1,e2,List.getElem?_cons_succ]
theorem dH {α:Type}{sz:Nat}:∀{l:List (List α)},(∀x∈l,x.length=sz)->l.flatten.length=l.length*sz
 |[],_=>by simp
 |x::l,h=>by
  rw[X0,U2,h x Vr,dH (λ y hy=>h y (Vy _ hy)),VE,Nat.add_mul];omega
theorem xN {E:Env}(hE:∀b,¬E.own b){a:Option Addr}{cap:Nat}{bs:Z1}(h:Bt w a cap bs):RD E w (.sl false bs.length 1 (bs.map dB)) (.slice a bs.length cap):=by
 obtain⟨h1,h2,h3,h4,h5⟩:=h;refine .sl false bs.length 1 _ a cap (bs.map bv) (by simp) (λ i d u hd hu=>?_) (λ u hu=>?_) (by simp) (Xt) ⟨h2,h3⟩ (λ h=>⟨h4 h,rfl⟩) ?_
 ·rw[Vu,Wk]at hd hu
  obtain⟨x,hx,rfl⟩:=hd;obtain⟨y,hy,rfl⟩:=hu;rw[hx]at hy;cases hy;exact .v _ rfl
 ·simp only[Yo]at hu
  obtain⟨x,_,rfl⟩:=hu;rfl
 ·rcases h5 with h|⟨b,off,e,hb,hc⟩
  ·exact .inl h
  ·exact .inr ⟨b,off,e,hb,hE b,hc⟩
theorem gM {α β:Type}{R:α->β->Prop}:∀(l:List α),(∀x∈l,∃y,R x y)->∃m:List β,m.length=l.length∧∀(i:Nat) x y,l[i]? =some x->m[i]? =some y->R x y
 |[],_=>⟨[],rfl,λ i x y h=>by simp at h⟩
 |x::l,h=>by
  obtain⟨y,hy⟩:=h x Vr;obtain⟨m,hl,hm⟩:=gM l λ x hx=>h x (Vy _ hx)
  refine⟨y::m,by simp[hl],λ i a b h1 h2=>?_⟩
  cases i with
  |zero=>simp at h1 h2;subst h1 h2;exact hy
  |succ i=>exact hm i a b (by simpa using h1) (by simpa using h2)
theorem tP:∀(els:List (List D)),(∀el∈els,(Sh.int .u8).has el)->∃bs:Z1,bs.length=els.length∧els.flatten=bs.map dB
 |[],_=>⟨[],rfl,rfl⟩
 |e::r,h=>by
  obtain⟨bs,h1,h2⟩:=tP r λ el hel=>h el (Vy _ hel)
  obtain⟨n,rfl,hw⟩:=h e Vr;refine⟨V6 n.toNat::bs,by simp[h1],?_⟩;rw[X0,h2,WM];show D.v (.int .u8 n)::bs.map dB=_;unfold dB;rw[Aj n hw]
theorem Hy {α:Type}{f:α->List D}{p:α->Prop}:∀(els:List (List D)),(∀el∈els,∃x,el=f x∧p x)->∃xs:List α,els=xs.map f∧∀x∈xs,p x
 |[],_=>⟨[],rfl,λ x h=>by cases h⟩
 |e::r,h=>by
  obtain⟨xs,h1,h2⟩:=Hy r λ el hel=>h el (Vy _ hel)
  obtain⟨x,rfl,hx⟩:=h e Vr;exact⟨x::xs,by simp[h1],λ y hy=>by
   rcases List.mem_cons.1 hy with rfl|hy
   ·exact hx
   ·exact h2 y hy⟩
mutual
theorem Sh.openT:∀(sh:Sh) (t:TypeId) (fuel:Nat) (cs:List Value) (x:DataW H×List MemPlace) (E:Env),(∀b,¬E.own b)->sh.ty P t->aaT enc P w 0 (λ _=>true) true fuel t cs=some x->∃ds,sh.has ds∧ds.length=sh.size∧CR E w ds cs
 | .int k,t,fuel,cs,x,E,hE,ht,h=>by
  obtain⟨n,rfl,_,hw⟩:=ZH ht h;exact⟨_,⟨n,rfl,hw⟩,rfl,CR.one (.v _ rfl) rfl⟩
 | .bool,t,fuel,cs,x,E,hE,ht,h=>by
  obtain⟨b,rfl,_⟩:=DataW.trod_bool ht h;exact⟨_,⟨b,rfl⟩,rfl,CR.one (.v _ rfl) rfl⟩
 | .str,t,fuel,cs,x,E,hE,ht,h=>by
  obtain⟨s,rfl,_,hm⟩:=DataW.trod_string ht h;exact⟨_,⟨s,rfl,hm⟩,rfl,CR.one (.v _ rfl) rfl⟩
 | .bytes,t,fuel,cs,x,E,hE,ht,h=>by
  obtain⟨te,ht,hc,he⟩:=ht;rcases Y6 ht h with⟨rfl,_⟩|⟨a,len,cap,elems,rest,n,_,rfl,_⟩
  ·obtain⟨a,cap,bs,hv,hr⟩:=pY (v:=.slice none 0 0) ht he hc h
   exact⟨[.sl false 0 1 []],⟨[],rfl,VI _⟩,rfl,CR.one (.sl false 0 1 [] none 0 [] rfl (λ i d u h=>by simp at h) (λ u h=>by cases h) (by simp) Xt ⟨Vd _,by decide⟩ (λ _=>⟨rfl,rfl⟩) (.inl rfl)) rfl⟩
  ·obtain⟨a,cap,bs,hv,hr⟩:=pY (v:=.slice (some a) len cap) ht he hc h
   cases hv
   have hmx:bs.length<=maxLen:=by
    obtain⟨_,h2,h3,_⟩:=hr;exact Vq h2 h3
   exact⟨[.sl false bs.length 1 (bs.map dB)],⟨bs,rfl,hmx⟩,rfl,CR.one (xN hE hr) rfl⟩
 | .sl e sz,t,fuel,cs,x,E,hE,ht,h=>by
  obtain⟨te,ht,hsz,hpos,hes,hte⟩:=ht;rcases Y6 ht h with⟨rfl,_⟩|⟨a,len,cap,elems,rest,n,_,rfl,_,_,hlc,hm,hlen,hel,_,_⟩
  ·refine⟨[.sl false 0 sz []],⟨[],rfl,(λ el h=>by cases h),VI _⟩,rfl,CR.one ?_ rfl⟩
   exact .sl false 0 sz [] none 0 [] rfl (λ i d u h=>by simp at h) (λ u h=>by cases h) (by simp) hpos ⟨Vd _,by decide⟩ (λ _=>⟨rfl,rfl⟩) (.inl rfl)
  ·have hspot0:len=0∨a.spot=none:=by
    rcases Xh len with h0|h0
    ·exact .inl h0
    ·right
     have h1:=hel 0 h0;rw[hsz,U4 (by omega),Yn]at h1;obtain⟨us,hus,_⟩:=h1;obtain⟨_,q1,q2⟩:=World.cells?_some hus;have:=q2 0 hpos;rw[U4 (by omega)]at this;simpa[Addr.add]using World.cell?_spot this
   rcases hspot0 with rfl|hspot
   ·have hcap:cap<=f9:=hm
    refine⟨[.sl false 0 sz []],⟨[],rfl,(λ el h=>by cases h),VI _⟩,rfl,CR.one ?_ rfl⟩;exact .sl false 0 sz [] (some a) cap [] rfl (λ i d u h=>by simp at h) (λ u h=>by cases h) (by simp) hpos ⟨VI _,hcap⟩ (λ h=>by cases h) (.inl rfl)
   obtain⟨b,off,spot⟩:=a;have hspot:spot=none:=hspot;subst hspot;have each:∀i,i<len->∃us:List Value,us.length=sz∧(∀j,j<sz->w.cell? ⟨b,off+(i*sz+j),none⟩=us[j]?)∧∃ds,e.has ds∧ds.length=sz∧CR E.cl w ds us:=λ i hi=>by
    have h1:=hel i hi;have hi':i<elems.length:=by omega
    rw[hsz,U4 hi',Yn]at h1;obtain⟨us,hus,hr⟩:=h1;obtain⟨_,q1,q2⟩:=World.cells?_some hus;obtain⟨ds,q3,q4,q5⟩:=Sh.openT e te n us _ E.cl hE hte hr;refine⟨us,q1,λ j hj=>?_,ds,q3,q4.trans hes,q5⟩;rw[<-q2 j hj,Addr.add_mid,Addr.add_mid,Wh]
   obtain⟨usl,hl1,hu⟩:=gM (Wa len) (R:=λ i us=>us.length=sz∧(∀j,j<sz->w.cell? ⟨b,off+(i*sz+j),none⟩=us[j]?)∧∃ds,e.has ds∧ds.length=sz∧CR E.cl w ds us) λ i hi=>each i (List.mem_range.1 hi)
   obtain⟨els,hl2,hd⟩:=gM usl (R:=λ us ds=>e.has ds∧ds.length=sz∧CR E.cl w ds us) λ us hus=>by
    obtain⟨i,hi⟩:=Wc hus;have hlt:i<len:=by have:=(List.getElem?_eq_some_iff.1 hi).1;simp at hl1;omega
    exact(hu i i us (by simp[hlt]) hi).2.2
   rw[WH]at hl1;have hul:∀x∈usl,x.length=sz:=λ us hus=>by
    obtain⟨i,hi⟩:=Wc hus;have hlt:i<len:=by have:=(List.getElem?_eq_some_iff.1 hi).1;omega
    exact(hu i i us (by simp[hlt]) hi).1
   have hfind:∀{i el},els[i]? =some el->∃us,usl[i]? =some us∧e.has el∧el.length=sz∧CR E.cl w el us:=fun{i el} hi=>by
    have hlt:i<usl.length:=by have:=(List.getElem?_eq_some_iff.1 hi).1;omega
    exact⟨usl[i],U4 hlt,hd i _ el (U4 hlt) hi⟩
   have hel2:∀x∈els,e.has x∧x.length=sz:=λ el hel=>by
    obtain⟨i,hi⟩:=Wc hel;obtain⟨us,_,q1,q2,_⟩:=hfind hi;exact⟨q1,q2⟩
   have hcr:CR E.cl w els.flatten usl.flatten:=CR.flatten hl2 λ i el us h1 h2=>(hd i us el h2 h1).2.2
   refine⟨_,⟨els,rfl,λ el hel=>(hel2 el hel).1,by omega⟩,rfl,CR.one ?_ rfl⟩;have hlen':els.length=len:=by omega
   rw[show els.length=len from hlen'];have hcap:cap<=f9:=hm;refine .sl false len sz els.flatten (some ⟨b,off,none⟩) cap usl.flatten hcr.1 (λ i d u h1 h2=>(hcr.2 i d u h1 h2).1) (λ u hu=>?_) (by rw[dH λ x hx=>(hel2 x hx).2,hlen']) hpos ⟨hlc,hcap⟩ (λ h=>by cases h) ?_
   ·obtain⟨i,hi⟩:=Wc hu
    have hlt:i<els.flatten.length:=by have:=(List.getElem?_eq_some_iff.1 hi).1;rw[hcr.1]at this;exact this
    exact(hcr.2 i _ u (U4 hlt) hi).2
   ·rcases Xh len with h0|h0
    ·exact .inl h0
    ·right
     have cellat:∀(i:Nat) u,usl.flatten[i]? =some u->w.cell? ⟨b,off+i,none⟩=some u:=λ i u hi=>by
      rw[eM hpos hul,Yn]at hi;obtain⟨us,h1,h2⟩:=hi;have hlt:i/sz<len:=by have:=(List.getElem?_eq_some_iff.1 h1).1;omega
      have:=(hu (i/sz) (i/sz) us (by simp[hlt]) h1).2.1 (i%sz) (Yw _ hpos);rw[h2]at this;rw[<-this];congr 2;have:=Nat.div_add_mod i sz;rw[WR]at this;omega
     have hlt0:0<usl.flatten.length:=by rw[dH hul,hl1];exact Nat.mul_pos h0 hpos
     have hc0:=cellat 0 _ (U4 hlt0);exact⟨b,off,rfl,block_lt_of_cell hc0,hE b,cellat⟩
 | .arr k n,t,fuel,cs,x,E,hE,ht,h=>by
  obtain⟨te,ht,hc,hn,he⟩:=ht;obtain⟨xs,m,_,_,hl,hx,hel⟩:=aay ht h;obtain⟨zs,h1,h2⟩:=gM (Wa n) (R:=λ i z=>cs[i]? =some (.int k z)∧(Ze k z).wf=true) λ i hi=>by
   have hi:=List.mem_range.1 hi;have:=hel i hi;rw[hc,VG,U4 (by omega)]at this;obtain⟨z,hz,_,hw⟩:=ZH he this;refine⟨z,?_,hw⟩;have h3:(VX 1 (VW i cs))[0]? =some (.int k z):=by rw[hz];rfl
   rw[V0]at h3;simpa using h3
  rw[WH]at h1;refine⟨zs.map λ z=>.v (.int k z),⟨zs,rfl,h1,λ z hz=>?_⟩,by rw[Vj,h1];rfl,by rw[Vj];omega,λ i d u hd hu=>?_⟩
  ·obtain⟨i,hi⟩:=Wc hz
   have hlt:i<n:=by have:=(List.getElem?_eq_some_iff.1 hi).1;omega
   exact(h2 i i z (by simp[hlt]) hi).2
  ·rw[Vu,Wk]at hd
   obtain⟨z,hz,rfl⟩:=hd;have hlt:i<n:=by have:=(List.getElem?_eq_some_iff.1 hz).1;omega
   have:=(h2 i i z (by simp[hlt]) hz).1;rw[hu]at this
   cases this
   exact⟨.v _ rfl,rfl⟩
 | .st l,t,fuel,cs,x,E,hE,ht,h=>by
  obtain⟨fs,ht,hc,hf⟩:=ht;obtain⟨xs,n,_,_,hl,hxl,hfs⟩:=DataW.trod_struct ht h;obtain⟨ds,q1,q2,q3⟩:=Sh.openF l 0 fs.toList n cs E hE hf (by omega) λ f hf=>by
   obtain⟨i,hi⟩:=Wc hf;have hi':fs[i]? =some f:=by simpa using hi
   have hlt:i<xs.length:=by have:=(List.getElem?_eq_some_iff.1 hi).1;simp at this;omega
   exact⟨_,(hfs i f hi').trans (U4 hlt)⟩
  exact⟨ds,q1,q2,by simpa using q3⟩
 | .nil,_,_,_,_,_,_,ht,_=>ht.elim
 | .cons _ _,_,_,_,_,_,_,ht,_=>ht.elim
theorem Sh.openF:∀(l:Sh) (off:Nat) (fs:List Field) (n:Nat) (cs:List Value) (E:Env),(∀b,¬E.own b)->l.fty P off fs->cs.length=off+l.size->(∀f∈fs,∃x,aaT enc P w 0 (λ _=>true) true n f.type ((cs.drop f.offset).take (P.cellsOf f.type))=some x)->∃ds,l.has ds∧ds.length=l.size∧CR E w ds (cs.drop off)
 | .nil,off,[],n,cs,E,hE,hf,hl,h=>⟨[],rfl,rfl,by rw[Wv (by simp only[Sh.size]at hl;omega)];exact CR.nil E w⟩
 | .cons a b,off,f::r,n,cs,E,hE,hf,hl,h=>by
  obtain⟨ho,hc,ha,hb⟩:=hf;simp only[Sh.size]at hl;obtain⟨x,hx⟩:=h f Vr;rw[ho,hc]at hx;obtain⟨d1,p1,p2,p3⟩:=Sh.openT a f.type n _ x E hE ha hx;obtain⟨d2,q1,q2,q3⟩:=Sh.openF b (off+a.size) r n cs E hE hb (by omega) λ g hg=>h g (Vy _ hg)
  refine⟨d1++d2,⟨d1,d2,rfl,p1,q1⟩,by simp only[U2,p2,q2,Sh.size],?_⟩;have e:cs.drop off=(cs.drop off).take a.size++cs.drop (off+a.size):=by rw[<-Zz];exact(WK _ _).symm
  rw[e];exact p3.append q3
 | .nil,_,_::_,_,_,_,_,hf,_,_=>hf.elim
 | .cons _ _,_,[],_,_,_,_,hf,_,_=>hf.elim
 | .int _,_,_,_,_,_,_,hf,_,_=>by cases hf
 | .bool,_,_,_,_,_,_,hf,_,_=>by cases hf
 | .str,_,_,_,_,_,_,hf,_,_=>by cases hf
 | .bytes,_,_,_,_,_,_,hf,_,_=>by cases hf
 | .sl _ _,_,_,_,_,_,_,hf,_,_=>by cases hf
 | .arr _ _,_,_,_,_,_,_,hf,_,_=>by cases hf
 | .st _,_,_,_,_,_,_,hf,_,_=>by cases hf
end
def Sh.simple:Sh->Bool
 | .arr _ _=>false
 | .st _=>false
 | .nil=>false
 | .cons _ _=>false
 |_=>true
def Sh.hasV:Sh->D->Prop
 | .st l,d=>∃ds,d= .agg ds∧l.has ds
 | .arr k n,d=>∃zs:List Int,d= .agg (zs.map (λ z=>D.v (.int k z)))∧zs.length=n∧∀z∈zs,(Ze k z).wf=true
 | .int k,d=>∃n,d= .v (.int k n)∧(Ze k n).wf=true
 | .bool,d=>∃b,d= .v (.bool b)
 | .str,d=>∃s:ByteArray,d= .v (.string s)∧s.size<=maxLen
 | .bytes,d=>∃bs:Z1,d= .sl false bs.length 1 (bs.map dB)∧bs.length<=maxLen
 | .sl e sz,d=>∃els:List (List D),d= .sl false els.length sz els.flatten∧(∀el∈els,e.has el)∧els.length<=maxLen
 |_,_=>False
theorem Sh.hasV_of {sh:Sh}{d:D}(h:sh.has [d])(hs:sh.size=1)(hn:sh.simple=true):sh.hasV d:=by
 cases sh with
 |int k=>obtain⟨n,e,h⟩:=h;exact⟨n,(List.cons.inj e).1,h⟩
 |bool=>obtain⟨n,e⟩:=h;exact⟨n,(List.cons.inj e).1⟩
 |str=>obtain⟨n,e,h⟩:=h;exact⟨n,(List.cons.inj e).1,h⟩
 |bytes=>obtain⟨n,e,h⟩:=h;exact⟨n,(List.cons.inj e).1,h⟩
 |sl e sz=>obtain⟨n,e,h⟩:=h;exact⟨n,(List.cons.inj e).1,h⟩
 |_=>cases hn
theorem Sh.openV {sh:Sh}{t:TypeId}{v:Value}{r:Reach}{base:Nat}(ht:sh.ty P t)(o:Value.okWide P w r base t v)(h:Bw.Tr enc P w t v){E:Env}(hE:∀b,¬E.own b):∃d,sh.hasV d∧RD E w d v:=by
 obtain⟨dd,p,fuel,hf⟩:=h;have one:∀{sh:Sh},v.cells= #[v]->sh.size=1->sh.simple=true->sh.ty P t->∃d,sh.hasV d∧RD E w d v:=fun{sh} hv hs hn ht=>by
  obtain⟨ds,h1,h2,h3⟩:=Sh.openT sh t fuel _ _ E hE ht hf;rw[hv]at h3;rw[hs]at h2
  match ds,h2 with
  |[d],_=>exact⟨d,Sh.hasV_of h1 hs hn,(h3.2 0 d v rfl rfl).1⟩
 cases sh with
 |int k=>obtain⟨n,rfl⟩:=okWide_int ht o;exact one (sh:=.int k) rfl rfl rfl ht
 |bool=>obtain⟨b,rfl⟩:=okWide_bool ht o;exact one (sh:=.bool) rfl rfl rfl ht
 |str=>obtain⟨b,rfl⟩:=okWide_string ht o;exact one (sh:=.str) rfl rfl rfl ht
 |bytes=>
  obtain⟨te,h1,h2⟩:=ht;obtain⟨a,len,cap,rfl⟩:=okWide_slice h1 o;exact one (sh:=.bytes) rfl rfl rfl ⟨te,h1,h2⟩
 |sl e sz=>
  obtain⟨te,h1,h2⟩:=ht;obtain⟨a,len,cap,rfl⟩:=okWide_slice h1 o;exact one (sh:=.sl e sz) rfl rfl rfl ⟨te,h1,h2⟩
 |arr k n=>
  obtain⟨te,g1,g2,g3,g4⟩:=ht;obtain⟨zs,rfl,q1,q2⟩:=xM g1 g4 g2 g3 o ⟨dd,p,fuel,hf⟩;refine⟨.agg (zs.map λ z=>.v (.int k z)),⟨zs,rfl,q1,q2⟩,?_⟩;exact RD.agg (E:=E) (w:=w) _ (zs.map λ z=>Value.int k z) (by simp) (λ i d u a b=>by
   rw[Vu,Wk]at a b;obtain⟨z,hz,rfl⟩:=a;obtain⟨y,hy,rfl⟩:=b;rw[hz]at hy;cases hy;exact .v _ rfl) λ u hu=>by
   obtain⟨z,_,rfl⟩:=List.mem_map.1 hu;rfl
 |st l=>
  obtain⟨fs,h1,h2⟩:=ht;obtain⟨cs,rfl,_⟩:=okWide_struct h1 o;obtain⟨ds,q1,q2,q3⟩:=Sh.openT (.st l) t fuel _ _ E hE ⟨fs,h1,h2⟩ hf;refine⟨.agg ds,⟨ds,rfl,q1⟩,?_⟩;have:=RD.agg (E:=E) (w:=w) ds cs.toList q3.1 (λ i d u a b=>(q3.2 i d u a b).1) λ u hu=>by
   obtain⟨i,hi⟩:=Wc hu;have hlt:i<ds.length:=by have:=(List.getElem?_eq_some_iff.1 hi).1;have:=q3.1;simp[Value.cells]at this;simp at *;omega
   exact(q3.2 i _ u (U4 hlt) hi).2
  simpa using this
 |nil=>exact ht.elim
 |cons a b=>exact ht.elim
def E0:Env:=eT (λ _=>False) (λ _=>none) 0
theorem E0_own:∀b,¬E0.own b:=λ b h=>by
 rcases h with h|⟨j,hj,_⟩
 ·exact h
 ·cases hj
theorem rd_nil (w:World):∀(j:Nat) d u,([]:List D)[j]? =some d->([]:List Value)[j]? =some u->RD E0 w d u:=λ j d u h=>by simp at h
theorem rd_cons {d:D}{v:Value}{ds:List D}{vs:List Value}(h:RD E0 w d v)(k:∀(j:Nat) d u,ds[j]? =some d->vs[j]? =some u->RD E0 w d u):∀(j:Nat) d' u,(d::ds)[j]? =some d'->(v::vs)[j]? =some u->RD E0 w d' u:=λ j d' u h1 h2=>by
 cases j with
 |zero=>simp at h1 h2;subst h1 h2;exact h
 |succ j=>exact k j d' u (by simpa using h1) (by simpa using h2)
theorem SpecH.gives {f:FuncId}{ds:List D}{c:Value}(h:SpecH false P f ds [] (.v c) []){args:List Value}(hl:args.length=ds.length)(ha:∀(j:Nat) d u,ds[j]? =some d->args[j]? =some u->RD E0 w d u):Calls P f args.toArray w (Gives w c):=by
 refine(h.2 (λ _=>False) (λ _=>none) w args (λ x hx=>hx.elim) (λ j b hb=>by simp at hb) (λ i j x hi=>by cases hi) hl ha).mono ?_;rintro e w' ⟨u,rfl,hfr,φ,_,hr,_⟩
 cases hr with
 |v c h=>exact⟨rfl,(hfr.mono (M':=λ k=>w.heap.size<=k) λ x hx=>by
   rcases hx with hx|⟨j,hj,_⟩
   ·exact hx
   ·cases hj).below⟩
theorem Nq {ts:List TypeId}{ds:List (DataW H)}(h:(DataW.weightsEach P ts ds).all (· <=reachBytes)=true){j:Nat}{t e:TypeId}{d:DataW H}{v:Value}{p:List MemPlace}(ht:ts[j]? =some t)(hd:ds[j]? =some d)(hu:P.underlying t=some (.slice e))
  (hr:DataW.Trod enc P w 0 (λ _=>true) true t v d p) {a:Option Addr} {len cap:Nat} (hv:v= .slice a len cap):len*P.bytesOf e<=reachBytes:=by
 subst hv;obtain⟨fuel,hf⟩:=hr;rcases Y6 hu hf with⟨h0,_⟩|⟨a',len',cap',elems,rest,n,_,hcs,hx,_,_,_,hlen,_⟩
 ·have h0:Value.slice a len cap= .slice none 0 0:=(List.cons.inj h0).1
  cases h0
  omega
 ·have hcs:Value.slice a len cap= .slice (some a') len' cap':=(List.cons.inj hcs).1
  cases hcs
  have hd':d= .slice (elems.map (·.1)) (rest.map (·.1)):=congrArg Prod.fst hx;subst hd';have:=sized_slice h ht hd hu;simp only[Vj,hlen]at this;have h2:len*P.bytesOf e<=(len+rest.length)*P.bytesOf e:=Nat.mul_le_mul_right _ (XF _ _);omega
end
end Go.Vx

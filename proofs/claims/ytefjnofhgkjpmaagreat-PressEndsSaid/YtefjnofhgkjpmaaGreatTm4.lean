/- Part 4. -/
import Derived.Test.YtefjnofhgkjpmaaGreatTm3
import Derived.Test.YtefjnofhgkjpmaaGreatTm2
set_option linter.unusedVariables false
set_option linter.unusedSimpArgs false
set_option maxRecDepth 100000
set_option maxHeartbeats 4000000
open And renaming intro → V4
open Bool renaming and_eq_true → VO, and_true → Wf, true_and → V8
open ByteArray renaming mk → W8, toList → Wt
open Go.Fn renaming func → WG
open Go.IntKind renaming i64 → VV, u32 → Wn, wrap → VU
open Go.LoopState renaming ready → Yw
open Go.Vx.Blk renaming mk → VF
open Go.Vx.CallOk renaming fn → V0
open Go.Vx.CutS renaming mk → VZ
open Go.Vx.D renaming agg → Wu, fn → XG, ptr → V7, ref → VJ, sl → V3, tup → WL
open Inhabited renaming default → lh
open Int renaming eq_ofNat_of_zero_le → WM, natAbs → aaK, tdiv → WZ, tmod → WW, toNat → zq, toNat_natCast → XB, toNat_of_nonneg → XM
open List renaming append_assoc → Wc, append_nil → WN, count_append → Yn, count_singleton → aas, drop → Wx, eq_nil_of_length_eq_zero → Wq, eq_replicate_iff → Y7, ext_getElem? → WD, flatMap_append → WH, flatMap_cons → W9, flatMap_singleton → Yc, getD_eq_getElem?_getD → VH, getElem?_append_left → Wi, getElem?_append_right → We, getElem?_drop → WR, getElem?_eq_getElem → VG, getElem?_eq_none → Wh, getElem?_map → V6, getElem?_of_mem → WO, getElem?_range → W0, getElem?_replicate → Xd, getElem?_set → W7, getElem?_take → WA, getElem_mem → WE, length_append → VI, length_cons → Wj, length_drop → Wr, length_map → VP, length_nil → XJ, length_replicate → Wk, length_singleton → Wv, length_take → VW, map_append → Wz, map_replicate → XU, mem_append_left → XW, mem_cons_of_mem → Wa, mem_cons_self → Wb, mem_of_getElem? → W4, mem_of_mem_take → WU, not_mem_nil → Yq, range → WP, replicate → V1, take → Ws, take_of_length_le → Wm, take_succ_eq_append_getElem → Wo, toArray → Xm
open Nat renaming add_assoc → Xr, add_zero → Xw, beq → VK, beq_eq → Xa, beq_refl → WK, ble → VN, ble_eq → WT, ble_eq_true_of_le → VL, div_le_self → XK, le_of_ble_eq_true → VS, le_refl → VT, le_trans → VR, lt_irrefl → Zi, lt_of_lt_of_le → Wp, lt_or_ge → Wl, mul_assoc → Xn, mul_le_mul_right → Ww, mul_one → V5, not_lt_zero → Xi, pow_le_pow_right → WF, pow_succ → Xj, sub_self → W5, sub_zero → YJ, succ_le_succ → Yg, testBit_eq_decide_div_mod_eq → XF, two_pow_pos → XT, zero_add → Wd, zero_le → Wy
open Prod renaming fst → V2, snd → VM
open UInt8 renaming ofNat → WI, toNat → VE, toNat_lt → WB
namespace Go.Proofs.YtefjnofhgkjpmaaGreat
open Go.RowKit Go.Bw Go.Vx
open List (length getD map take drop flatMap replicate)
namespace Vp
theorem U2 {p:Prop}(h:p:=by rw[VP,VW,VP];omega):p:=h
def jM (f:Nat->Nat):List Nat->Nat
 |[]=>0
 |i::r=>f i+jM f r
theorem xR (f:Nat->Nat)(a b:List Nat):jM f (a++b)=jM f a+jM f b:=by
 induction a with
 |nil=>simp[jM]
 |cons x a ih=>rw[List.cons_append,jM,jM,ih,Xr]
theorem ub {f:Nat->Nat}{a b:List Nat}(h:a.Perm b):jM f a=jM f b:=by
 induction h with
 |nil=>rfl
 |cons x _ ih=>rw[jM,jM,ih]
 |swap x y l=>rw[jM,jM,jM,jM];omega
 |trans _ _ h1 h2=>exact h1.trans h2
theorem rE {f:Nat->Nat}{p:Nat->Bool}:∀l:List Nat,(∀i∈l,p i=false->f i=0)->jM f l=jM f (l.filter p)
 |[],_=>rfl
 |x::r,h=>by
  have ih:=rE r λ i hi=>h i (Wa _ hi)
  cases hp:p x
  ·rw[List.filter_cons_of_neg (by simp[hp]),jM,h x Wb hp,ih,Wd]
  ·rw[List.filter_cons_of_pos hp,jM,jM,ih]
def kf (o:Z4)(i:Nat):Nat:=if(o.getD i lh).toNat=0 then 0 else 2^(15-(o.getD i lh).toNat)
def uf (o:Z4)(i:Nat):Nat:=if(o.getD i lh).toNat=0 then 0 else 1
theorem ud (o:Z4):∀k,k<=o.length->bl (o.take k)=jM (kf o) (WP k)∧bH (o.take k)=jM (uf o) (WP k)
 |0,_=>⟨rfl,rfl⟩
 |k+1,h=>by
  have ih:=ud o k om;rw[im om,jV om,List.range_succ,xR,xR,ih.1,ih.2];exact⟨rfl,rfl⟩
theorem B5 {W:List Nat}{o:Z4}(hl:o.length=W.length)(h0:∀i,i<W.length->W.getD i lh=0->o.getD i lh=0):bl o=jM (kf o) (cM W)∧bH o=jM (uf o) (cM W):=by
 have h:=ud o o.length (VT _);rw[List.take_length,hl]at h;have hz:∀i,i<W.length->decide (0<W.getD i lh)=false->(o.getD i lh).toNat=0:=λ i hi hp=>by
  have hp:=of_decide_eq_false hp;rw[h0 i hi om];rfl
 rw[ub (dr W),ub (dr W),fO,h.1,h.2];exact⟨rE _ λ i hi hp=>by unfold kf;rw[ZF (hz i (List.mem_range.1 hi) hp)],rE _ λ i hi hp=>by unfold uf;rw[ZF (hz i (List.mem_range.1 hi) hp)]⟩
theorem Ic (W:List Nat):(cM W).Nodup:=by
 rw[(dr W).nodup_iff,fO];exact List.Nodup.sublist List.filter_sublist List.nodup_range
theorem v8 {W:List Nat}{i:Nat}:i∈cM W↔i<W.length∧0<W.getD i lh:=by
 rw[(dr W).mem_iff,fO,List.mem_filter,List.mem_range,decide_eq_true_eq]
theorem rF {o:Z4}{i j:Nat}{v:UInt8}(hi:i<o.length):(o.set i v).getD j lh=if i=j then v else o.getD j lh:=by
 rw[VH,VH,W7]
 by_cases h:i=j
 ·rw[ZF h,ZF h,ZF om];rfl
 ·rw[ZE h,ZE h]
theorem OR {S:List Nat}(hN:S.Nodup){i j:Nat}(hi:i<S.length)(hj:j<S.length)(h:i≠j):S.getD i lh≠S.getD j lh:=by
 rw[VH,VH,VG hi,VG hj];rcases Nat.lt_or_gt_of_ne h with q|q
 ·exact List.pairwise_iff_getElem.1 hN _ _ hi hj q
 ·exact(List.pairwise_iff_getElem.1 hN _ _ hj hi q).symm
theorem B6 {S:List Nat}(hN:S.Nodup){o:Z4}(hA:bP o.length S):∀j,j<=S.length->(∀t,t<S.length->(cJ o S j).getD (S.getD t lh) lh=if t<j then o.getD (S.getD t lh) lh+1 else o.getD (S.getD t lh) lh)∧∀i,i∉S->(cJ o S j).getD i lh=o.getD i lh
 |0,_=>⟨λ t _=>by rw[oD,ZE (Xi t)],λ i _=>by rw[oD]⟩
 |j+1,h=>by
  have ih:=B6 hN hA j om;have hb:=hA.at (t:=j) om;refine⟨λ t ht=>?_,λ i hi=>?_⟩
  ·rw[oE om,rF (by rw[cK];exact hb)]
   by_cases e:j=t
   ·subst e;rw[ZF rfl,ih.1 j ht,ZE (Zi j),ZF (Nat.lt_succ_self j)]
   ·rw[ZE (OR hN om ht e),ih.1 t ht]
    by_cases q:t<j
    ·rw[ZF q,ZF om]
    ·rw[ZE q,ZE om]
  ·rw[oE om,rF (by rw[cK];exact hb),ZE (λ q=>hi (by rw[<-q,VH,VG om];exact WE _)),ih.2 i hi]
def rG (S:List Nat)(o:Z4):List Nat:=S.map λ i=>(o.getD i lh).toNat
theorem Fq {S:List Nat}(hN:S.Nodup){o:Z4}(hA:bP o.length S){j:Nat}(hj:j<=S.length)(hb:∀x∈rG S o,x<255):rG S (cJ o S j)=Ib (rG S o) j:=by
 have h:=(B6 hN hA j hj).1;unfold rG Ib at *;apply WD;intro t;rcases Wl t S.length with q|q
 ·have e:S[t]=S.getD t lh:=by rw[VH,VG q];rfl
  have hx:=hb ((o.getD (S.getD t lh) lh).toNat) (List.mem_map.2 ⟨S[t],WE q,by rw[e]⟩);rw[V6,VG q,e];show some ((cJ o S j).getD (S.getD t lh) lh).toNat=_;rw[h t q]
  by_cases z:t<j
  ·rw[ZF z,Wi U2,V6,WA,ZF z,V6,VG q,e]
   show some _=some ((o.getD (S.getD t lh) lh).toNat+1);rw[UInt8.toNat_add];show some ((_+1)%256)=_
   congr 1;omega
  ·rw[ZE z,We U2,VP,VW,VP,WR,show j+(t-min j S.length)=t from by omega,V6,VG q,e];rfl
 ·rw[Wh (by rw[VP];exact q),Wh (by rw[VI,VP,VW,Wr,VP];omega)]
theorem B7 {ws S:List Nat}{m:Nat}(hm:m<=15)(hN:S.Nodup)(hw:ws.length=S.length):∀(k n a:Nat) (o:Z4),bP o.length S->KrI ws m k n a (rG S o)->rG S (xI ws S k n o)=Fp ws k n (rG S o)∧∀i,i∉S->(xI ws S k n o).getD i lh=o.getD i lh
 |0,n,a,o,hA,h=>⟨rfl,λ _ _=>rfl⟩
 |k+1,n,a,o,hA,h=>by
  have hn:=(LnI.next h.i).2.2.1;rw[hw]at hn;have hb:∀x∈rG S o,x<255:=λ x hx=>by
   obtain⟨r,hr,hx2⟩:=h.sh;rw[hr]at hx;rcases List.mem_append.1 hx with q|q
   ·have:=(List.mem_replicate.1 q).2;omega
   ·have:=hx2 x q;omega
  have e:=Fq hN hA hn hb;have ih:=B7 hm hN hw k _ _ (cJ o S (n-dg (ax ws k) n)) (by rw[cK];exact hA) (by rw[e];exact h.next);rw[xI,Fp,<-e];exact⟨ih.1,λ i hi=>(ih.2 i hi).trans ((B6 hN hA _ hn).2 i hi)⟩
theorem oI (W:List Nat)(hL:W.length<=320)(m:Nat)(hm:1<=m∧m<=15)(hNm:(eZ W W.length).length<=2^m):dI (bK W m) m=0:=by
 have hp:=dr W;have hA:bP W.length (cM W):=ox.perm hp;have hlen:=kM W m;have hl:=hp.length_eq;have fin:(∀i,i<W.length->((bK W m).getD i lh).toNat<=m)->(bl (bK W m)=32768∨bH (bK W m)=0∨bH (bK W m)=1∧bl (bK W m)=16384)->bl (bK W m)<=32768->dI (bK W m) m=0:=λ h1 h2 h3=>by
  rw[kA];unfold vQ;rw[hlen,ZE om,mZ (λ i hi=>h1 i (by rw[hlen]at hi;exact hi)),ZE (by decide),ZE om,ZF h2]
 have zero:∀i,W.length<=i∨True->(V1 W.length (0:UInt8)).getD i lh=0:=λ i _=>by
  rw[VH,Xd];split<;>rfl
 rw[ir,rB]at fin ⊢
 by_cases c0:(cM W).length=0
 ·rw[ZF c0]at fin ⊢
  have s:=B5 (W:=W) (o:=V1 W.length 0) Wk (λ i _ _=>zero i (.inr trivial));rw[Wq c0]at s;exact fin (λ i _=>by rw[zero i (.inr trivial)];exact Wy _) (.inr (.inl s.2)) (by rw[s.1];exact Wy _)
 ·rw[ZE c0]at fin ⊢
  by_cases c1:(cM W).length=1
  ·rw[ZF c1]at fin ⊢
   obtain⟨i0,h0⟩:∃i0,cM W=[i0]:=List.length_eq_one_iff.1 c1;rw[h0]at fin hA ⊢;have hi:i0<W.length:=hA i0 (List.mem_singleton.2 rfl);have at':∀j,((V1 W.length (0:UInt8)).set i0 (WI 1)).getD j lh=if i0=j then WI 1 else 0:=λ j=>by
    rw[rF (by rw[Wk];exact hi),zero j (.inr trivial)]
   have s:=B5 (W:=W) (o:=(V1 W.length 0).set i0 (WI 1)) (by rw[List.length_set,Wk]) (λ i hi2 hz=>by
    rw[at',ZE (λ q=>by
     have:=(v8 (W:=W) (i:=i0)).1 (by rw[h0];exact List.mem_singleton.2 rfl);rw[q]at this;omega)])
   rw[h0]at s;have e1:jM (kf ((V1 W.length 0).set i0 (WI 1))) [i0]=16384:=by
    rw[jM,jM,kf,at',ZF rfl];rfl
   have e2:jM (uf ((V1 W.length 0).set i0 (WI 1))) [i0]=1:=by
    rw[jM,jM,uf,at',ZF rfl];rfl
   rw[e1,e2]at s;refine fin (λ i _=>?_) (.inr (.inr ⟨s.2,s.1⟩)) (by show bl ((V1 W.length 0).set i0 (WI 1))<=_;rw[s.1];decide);show(((V1 W.length 0).set i0 (WI 1)).getD i lh).toNat<=m;rw[at'];split
   ·exact hm.1
   ·exact Wy _
  ·rw[ZE c1]at fin ⊢
   have hw:(nc W (cM W) (cM W).length).length=(cM W).length:=kK (VT _);have hS:=Ic W;have hlast:2*(cM W).length-2≠0:=by omega
   generalize hSS:cM W=S at *;generalize nc W S S.length=ws at *;have hv:rG S (V1 W.length 0)=V1 S.length 0:=by
    unfold rG;rw[Y7];refine⟨by rw[VP],λ b hb=>?_⟩;obtain⟨i,_,rfl⟩:=List.mem_map.1 hb;rw[zero i (.inr trivial)];rfl
   have hI:LnI ws m (2*S.length-2):=by
    have:=LnI.first (ws:=ws) hm.1 (by rw[hw];omega) (by rw[hw];omega)
    rwa [hw]at this
   have hK:KrI ws m m (2*S.length-2) S.length (rG S (V1 W.length 0)):=by
    refine⟨hI,VT _,λ q=>by omega,λ q=>?_,⟨[],by rw[hv,W5,WN],λ x hx=>by cases hx⟩,?_⟩
    ·have:=(hI.nextk om (m-1) rfl).2.2
     rwa [hw]at this
    ·rw[hv,kN,YJ]
     generalize 2^m=P;rw[Nat.sub_mul,Xn];have:1*P<=S.length*P:=Ww _ om;omega
   have hA0:bP (V1 W.length (0:UInt8)).length S:=by rw[Wk];exact hA
   have r:=B7 hm.2 hS hw m _ _ _ hA0 hK;have q:=KrI.last m _ _ _ hK;rw[<-r.1]at q;generalize hO:xI ws S m (2*S.length-2) (V1 W.length 0)=O at *;have hOl:O.length=W.length:=by rw[<-hO,nh,Wk]
   have hp2:=xQ q.1 (by unfold rG;rw[VP];omega);have s:=B5 (W:=W) (o:=O) hOl (λ i hi hz=>by
    rw[r.2 i (λ hm2=>by rw[<-hSS]at hm2;have:=v8.1 hm2;omega),zero i (.inr trivial)])
   rw[hSS]at s;have e1:∀l:List Nat,(∀i∈l,(O.getD i lh).toNat≠0)->jM (kf O) l=oH 15 (rG l O):=λ l=>by
    induction l with
    |nil=>intro _;rfl
    |cons x l ih=>
     intro h;have hx:=h x Wb;show kf O x+jM (kf O) l=2^(15-_)+oH 15 (rG l O);rw[ih λ i hi=>h i (Wa _ hi),kf,ZE hx]
   have e2:=e1 S λ i hi=>hp2 _ (List.mem_map.2 ⟨i,hi,rfl⟩)
   have e3:=B4 hm.2 (rG S O) q.2.1;rw[q.1,<-Nat.pow_add,show 15-m+m=15 from by omega]at e3;have hk:bl O=32768:=by rw[s.1,e2,e3]
   refine fin (λ i hi=>?_) (.inl hk) (Nat.le_of_eq hk)
   by_cases hi2:i∈S
   ·exact q.2.1 _ (List.mem_map.2 ⟨i,hi2,rfl⟩)
   ·rw[r.2 i hi2,zero i (.inr trivial)];exact Wy _
def aQ (k:Nat)(S:List Nat):List Nat:=lk S ((WP k).map λ i=>S.count i)
theorem lD (k:Nat)(S:List Nat):aQ k S=(WP k).map λ i=>S.count i:=aP _ _
theorem cT (k:Nat)(S:List Nat):(aQ k S).length=k:=by rw[lD,VP,List.length_range]
theorem xS (k:Nat)(S:List Nat)(i:Nat):(aQ k S)[i]? =if i<k then some (S.count i)else none:=by
 rw[lD,V6];rcases Wl i k with h|h
 ·rw[W0 h,ZF h];rfl
 ·rw[Wh (by simpa using h),ZE om];rfl
theorem v9 (k:Nat)(S:List Nat)(i:Nat):(aQ k S).getD i lh=if i<k then S.count i else 0:=by
 rw[VH,xS];split<;>rfl
theorem dK (k:Nat)(S:List Nat)(i:Nat):(aQ k S).getD i lh<=S.length:=by
 rw[v9];split
 ·exact List.count_le_length
 ·exact Wy _
theorem xT (k:Nat):aQ k []=V1 k 0:=by
 apply WD;intro i;rw[xS,Xd];rfl
theorem OS {k:Nat}{S:List Nat}{i:Nat}(h:i<k):aQ k (S++[i])=(aQ k S).set i ((aQ k S).getD i lh+1):=by
 apply WD;intro j;rw[W7,cT,xS,xS]
 by_cases e:i=j
 ·subst e;rw[ZF h,ZF rfl,ZF h,v9,ZF h,Yn,aas,beq_self_eq_true];rfl
 ·rw[ZE e];split
  ·rw[Yn,aas,beq_eq_false_iff_ne.2 (λ q=>e q)];rfl
  ·rfl
theorem oJ {k:Nat}{S:List Nat}{i a b:Nat}{x:Int}(h:i<k)(ha:a=i)(hb:b=i)(hx:x=(((aQ k S).getD b lh:Nat):Int)+1):ag ((aQ k S).map nD) a [D.v (.int .i64 x)]=(aQ k (S++[i])).map nD:=by
 subst ha hb hx;rw[OS h];exact J2 (by rw[cT];exact h)
def Ie (T1:List Sy)(t:Tn):Nat:=if t.long=0 then t.lit.toNat else 257+ak T1 t.long
def Kh (T2:List Sy)(t:Tn):List Nat:=if t.long=0 then[]else[ak T2 t.dist]
def ce (T1:List Sy)(l:List Tn)(i:Nat):List Nat:=lk l ((l.take i).map (Ie T1))
def du (T2:List Sy)(l:List Tn)(i:Nat):List Nat:=lk l ((l.take i).flatMap (Kh T2))
section
variable {T1 T2:List Sy} {l:List Tn} {i:Nat}
theorem ue:ce T1 l i=(l.take i).map (Ie T1):=aP _ _
theorem xU:du T2 l i=(l.take i).flatMap (Kh T2):=aP _ _
theorem OT:ce T1 l 0=[]:=ue
theorem Ki:du T2 l 0=[]:=xU
theorem lE:(ce T1 l i).length<=i:=by rw[ue,VP,VW];omega
theorem Kj (h:i<l.length):du T2 l (i+1)=du T2 l i++Kh T2 (l.getD i lh):=by
 have e1:l.take (i+1)=l.take i++[l.getD i lh]:=by
  rw[Wo h,VH,VG h];rfl
 rw[xU,xU,e1,WH,Yc]
theorem OU (h:i<l.length):ce T1 l (i+1)=ce T1 l i++[Ie T1 (l.getD i lh)]:=by
 have e1:l.take (i+1)=l.take i++[l.getD i lh]:=by
  rw[Wo h,VH,VG h];rfl
 rw[ue,ue,e1,Wz];rfl
theorem rH:∀i,i<=l.length->(du T2 l i).length<=i
 |0,_=>by rw[Ki];exact VT _
 |i+1,h=>by
  rw[Kj om,VI];have:=rH i om;unfold Kh;split<;>simp <;>omega
theorem xV (h:i<l.length)(h0:(l.getD i lh).long=0):ce T1 l (i+1)=ce T1 l i++[(l.getD i lh).lit.toNat]∧du T2 l (i+1)=du T2 l i:=by
 rw[OU h,Kj h,Ie,Kh,ZF h0,ZF h0,WN];exact⟨rfl,rfl⟩
theorem xW (h:i<l.length)(h0:(l.getD i lh).long≠0):ce T1 l (i+1)=ce T1 l i++[257+ak T1 (l.getD i lh).long]∧du T2 l (i+1)=du T2 l i++[ak T2 (l.getD i lh).dist]:=by
 rw[OU h,Kj h,Ie,Kh,ZE h0,ZE h0];exact⟨rfl,rfl⟩
end
theorem B8:∀(l:Z4) (n:Nat),(∀i,n<=i->(l.getD i lh).toNat=0)->bl (l.take n)=bl l∧bH (l.take n)=bH l
 |[],n,_=>by rw[List.take_nil];exact⟨rfl,rfl⟩
 |x::r,0,h=>by
  have ih:=B8 r 0 λ i _=>h (i+1) (Wy _)
  have h0:x.toNat=0:=h 0 (VT _);rw[List.take_zero]at ih ⊢;rw[bl,bl,bH,bH,ZF h0,ZF h0,<-ih.1,<-ih.2];exact⟨rfl,rfl⟩
 |x::r,n+1,h=>by
  have ih:=B8 r n λ i hi=>h (i+1) (Yg hi)
  rw[List.take_succ_cons,bl,bl,bH,bH,ih.1,ih.2];exact⟨rfl,rfl⟩
theorem xX {l:Z4}{m:Nat}:∀n,∀i,jX l m n<=i->i<n->l.getD i lh=0
 |0,i,_,h=>absurd h (Xi _)
 |n+1,i,h,h2=>by
  rw[jX]at h
  split at h
  ·next q=>
   rcases Wl i n with r|r
   ·exact xX n i h r
   ·rw[show i=n from by omega];exact q.2
  ·omega
theorem ni {l:Z4}{i:Nat}(h:l.length<=i):l.getD i lh=0:=by
 rw[VH,Wh h];rfl
def u7 (l:Z4)(m:Nat):Z4:=lk l (l.take (gS l m))
theorem lG (l:Z4)(m:Nat):u7 l m=l.take (gS l m):=aP _ _
theorem nj (l:Z4)(m:Nat):(u7 l m).length=gS l m:=by
 rw[lG,VW];have:=(lv l m).1;omega
theorem Kk (l:Z4)(m i:Nat):(u7 l m).getD i lh=l.getD i lh:=by
 rw[lG,VH,WA]
 split
 ·rw[VH]
 ·rcases Wl i l.length with q|q
  ·rw[xX (m:=m) l.length i (by rw[<-jY];omega) q];rfl
  ·rw[ni q];rfl
theorem xY {l:Z4}{m q:Nat}(h:dI l m=0):dI (u7 l q) m=0:=by
 have h0:=gi h;have hk:=B8 l (gS l q) (λ i hi=>by
  rcases Wl i l.length with r|r
  ·rw[xX (m:=q) l.length i (by rw[<-jY];exact hi) r];rfl
  ·rw[ni r];rfl)
 have hl:(u7 l q).length<=320:=by rw[nj];have:=(lv l q).1;omega
 have ho:ew (u7 l q) m=false:=mZ λ i hi=>by
  rw[Kk];exact f8 h0.2.1 (by rw[nj]at hi;have:=(lv l q).1;omega)
 rw[kA]at h ⊢;unfold vQ at h ⊢;rw[ZE om,h0.2.1]at h;rw[ZE om,ho,show bl (u7 l q)=bl l from by rw[lG];exact hk.1,show bH (u7 l q)=bH l from by rw[lG];exact hk.2];exact h
def cO {α:Type}(H:List Nm)(g:α->List Nm)(l:List α)(i:Nat):List Nm:=lk l (H++(l.take i).flatMap g)
section
variable {α:Type} {H:List Nm} {g:α->List Nm} {l:List α} {i:Nat}
theorem gv:cO H g l i=H++(l.take i).flatMap g:=aP _ _
theorem kO:cO H g l 0=H:=by rw[gv];exact WN _
theorem kP [Inhabited α](h:i<l.length):cO H g l (i+1)=cO H g l i++g (l.getD i lh):=by
 have e1:l.take (i+1)=l.take i++[l.getD i lh]:=by
  rw[Wo h,VH,VG h];rfl
 rw[gv,gv,e1,WH,<-Wc,Yc]
theorem iu [Inhabited α]{c:Nat}(hc:∀x,(g x).length=c):∀i,i<=l.length->(cO H g l i).length=H.length+c*i
 |0,_=>by rw[kO];rfl
 |i+1,h=>by
  rw[kP om,VI,iu hc i om,hc,Nat.mul_add,V5,Xr]
end
def gO (x:UInt8):List Nm:=[⟨x.toNat,3⟩]
def iv (C:List (Nat×Nat))(r:Rn):List Nm:=iF C r.s (rb r.s) r.x
def qk:List Nat:=[16,17,18,0,8,7,9,6,10,5,11,4,12,3,13,2,14,1,15]
theorem OV:∀i,i<19->qk.getD i lh<19:=by decide
def iJ (C:Z4)(i:Nat):Z4:=lk C ((qk.take i).map λ s=>C.getD s lh)
theorem oK (C:Z4)(i:Nat):iJ C i=(qk.take i).map λ s=>C.getD s lh:=aP _ _
theorem If (C:Z4):iJ C 0=[]:=oK C 0
theorem rJ (C:Z4){i:Nat}(h:i<=19):(iJ C i).length=i:=by
 rw[oK,VP,VW,show qk.length=19 from rfl];omega
theorem Ig (C:Z4){i:Nat}(h:i<19):iJ C (i+1)=iJ C i++[C.getD (qk.getD i lh) lh]:=by
 have e1:qk.take (i+1)=qk.take i++[qk.getD i lh]:=by
  rw[Wo (show i<qk.length from h),VH,VG (show i<qk.length from h)];rfl
 rw[oK,oK,e1,Wz];rfl
theorem TB (i:Nat)(h:i<19):(qk.map nD)[i]? =some (nD (qk.getD i lh)):=by
 rw[V6,VG (show i<qk.length from h),VH,VG (show i<qk.length from h)];rfl
theorem oM {l:Z4}(ho:∀i,(l.getD i lh).toNat<=15):∀(f a:Nat),∀r∈jJ l f a,r.s<=18∧r.x<2^rb r.s
 |0,_=>λ r hr=>absurd hr Yq
 |f+1,a=>by
  rw[jJ]
  split
  ·exact λ r hr=>absurd hr Yq
  ·split
   ·intro r hr
    rcases List.mem_cons.1 hr with e|e
    ·subst e;refine⟨VT _,?_⟩;show min (bN l a) 138-11<2^7;omega
    ·exact oM ho f _ r e
   ·split
    ·intro r hr
     rcases List.mem_cons.1 hr with e|e
     ·subst e;refine⟨Nat.le_succ _,?_⟩;show bN l a-3<2^3;omega
     ·exact oM ho f _ r e
    ·split
     ·intro r hr
      rcases List.mem_cons.1 hr with e|e
      ·subst e;refine⟨show(16:Nat)<=18 from by decide,?_⟩;show min (bN l a) 6-3<2^2;omega
      ·exact oM ho f _ r e
     ·intro r hr
      rcases List.mem_cons.1 hr with e|e
      ·subst e
       have h1:=ho a;refine⟨VR h1 (by decide),?_⟩;show 0<2^rb _;exact XT _
      ·exact oM ho f _ r e
theorem Kl {l:Z4}(ho:∀i,(l.getD i lh).toNat<=15)(i:Nat):((xh l).getD i lh).s<=18∧((xh l).getD i lh).x<2^rb ((xh l).getD i lh).s:=by
 rw[VH];rcases Wl i (xh l).length with h|h
 ·rw[VG h]
  have hm:(xh l)[i]∈jJ l l.length 0:=by rw[<-rg];exact WE h
  exact oM ho _ _ _ hm
 ·rw[Wh h];exact⟨Wy _,by decide⟩
theorem Fs (l:Z4):(xh l).length<=l.length:=by rw[rg];exact kB _ _ _
theorem Km (l:Z4)(j:Nat)(ho:ew l 15=false):(ab l).getD j lh=if j<l.length∧(l.getD j lh).toNat≠0 then(sJ l j,(l.getD j lh).toNat)else(0,0):=by
 rw[<-HD ho,ol,VH,V6];rcases Wl j l.length with h|h
 ·rw[W0 h];exact rfl
 ·rw[Wh (by simpa using h),ZE om];rfl
theorem B9 {l:Z4}{s:Nat}(h:s<l.length):(fg l (l.getD s lh).toNat s).length<(fg l (l.getD s lh).toNat l.length).length:=by
 obtain⟨r,hr⟩:=oi l (l.getD s lh).toNat (s+1) (l.length-(s+1));rw[show s+1+(l.length-(s+1))=l.length from by omega,fA,ZF rfl]at hr;rw[hr,VI,VI,Wv];omega
theorem eI {l:Z4}(h:dI l 15=0):jZ (ab l):=λ s=>by
 have h0:=gi h;rw[Km l s h0.2.1]
 split
 ·next q=>
  have h1:=f8 h0.2.1 q.1;refine⟨h1,?_⟩;have h2:=HE h h1;have h3:=Hy rfl q.2 h1;have h4:=B9 q.1;show sJ l s<2^(l.getD s lh).toNat;rw[n9]at h2;unfold Bc at h2;rw[ZE q.2]at h2;omega
 ·exact⟨Wy _,by decide⟩
theorem ug (W:List Nat)(hL:W.length<=320)(m:Nat)(hm:1<=m∧m<=15)(hNm:(eZ W W.length).length<=2^m){i:Nat}(hi0:0<W.getD i lh):((bK W m).getD i lh).toNat≠0:=by
 have hp:=dr W;have hA:bP W.length (cM W):=ox.perm hp;have hl:=hp.length_eq;have hiW:i<W.length:=by
  rcases Wl i W.length with q|q
  ·exact q
  ·rw[VH,Wh q]at hi0;exact absurd hi0 (Zi 0)
 have hiS:i∈cM W:=v8.2 ⟨hiW,hi0⟩;have zero:∀i,(V1 W.length (0:UInt8)).getD i lh=0:=λ i=>by
  rw[VH,Xd];split<;>rfl
 rw[ir,rB]
 by_cases c0:(cM W).length=0
 ·rw[Wq c0]at hiS;exact absurd hiS Yq
 ·rw[ZE c0]
  by_cases c1:(cM W).length=1
  ·rw[ZF c1]
   obtain⟨i0,h0⟩:∃i0,cM W=[i0]:=List.length_eq_one_iff.1 c1;rw[h0]at hiS ⊢;have e:i=i0:=List.mem_singleton.1 hiS;subst e;show(((V1 W.length (0:UInt8)).set i (WI 1)).getD i lh).toNat≠0;rw[rF (by rw[Wk];exact hiW),ZF rfl];decide
  ·rw[ZE c1]
   have hw:(nc W (cM W) (cM W).length).length=(cM W).length:=kK (VT _);have hS:=Ic W;generalize hSS:cM W=S at *;generalize nc W S S.length=ws at *;have hv:rG S (V1 W.length 0)=V1 S.length 0:=by
    unfold rG;rw[Y7];refine⟨by rw[VP],λ b hb=>?_⟩;obtain⟨i,_,rfl⟩:=List.mem_map.1 hb;rw[zero i];rfl
   have hI:LnI ws m (2*S.length-2):=by
    have:=LnI.first (ws:=ws) hm.1 (by rw[hw];omega) (by rw[hw];omega)
    rwa [hw]at this
   have hK:KrI ws m m (2*S.length-2) S.length (rG S (V1 W.length 0)):=by
    refine⟨hI,VT _,λ q=>by omega,λ q=>?_,⟨[],by rw[hv,W5,WN],λ x hx=>by cases hx⟩,?_⟩
    ·have:=(hI.nextk om (m-1) rfl).2.2
     rwa [hw]at this
    ·rw[hv,kN,YJ]
     generalize 2^m=P;rw[Nat.sub_mul,Xn];have:1*P<=S.length*P:=Ww _ om;omega
   have hA0:bP (V1 W.length (0:UInt8)).length S:=by rw[Wk];exact hA
   have r:=B7 hm.2 hS hw m _ _ _ hA0 hK;have q:=KrI.last m _ _ _ hK;rw[<-r.1]at q;have hp2:=xQ q.1 (by unfold rG;rw[VP];omega);exact hp2 _ (List.mem_map.2 ⟨i,hiS,rfl⟩)
theorem Ca {l:Z4}{m s:Nat}(h:(l.getD s lh).toNat≠0):s<gS l m:=by
 rcases Wl s (gS l m)with q|q
 ·exact q
 ·exfalso
  rcases Wl s l.length with r|r
  ·rw[xX (m:=m) l.length s (by rw[<-jY];exact q) r]at h;exact h rfl
  ·rw[ni r]at h;exact h rfl
theorem xZ {k:Nat}{S:List Nat}{s:Nat}(h:s<k)(hm:s∈S):0<(aQ k S).getD s lh:=by
 rw[v9,ZF h];exact List.count_pos_iff.2 hm
theorem Cb {T1:List Sy}{l:List Tn}{i k:Nat}(hk:k=l.length)(h:i<k):Ie T1 (l.getD i lh)∈ce T1 l k:=by
 rw[ue,hk,Wm (VT _),VH,VG om];exact List.mem_map_of_mem (WE _)
theorem Kn {T2:List Sy}{l:List Tn}{i k:Nat}(hk:k=l.length)(h:i<k)(h0:(l.getD i lh).long≠0):ak T2 (l.getD i lh).dist∈du T2 l k:=by
 rw[xU,hk,Wm (VT _)];have hi:i<l.length:=by omega
 rw[VH,VG hi]at h0 ⊢;refine List.mem_flatMap.2 ⟨l[i],WE hi,?_⟩;unfold Kh;rw[ZE (show¬l[i].long=0 from h0)];exact List.mem_singleton.2 rfl
theorem nk (k:Nat)(S:List Nat)(i:Nat){a b:Nat}(h:i<k)(ha:a=i)(hb:b=i):ag ((aQ k S).map nD) a [D.v (.int .i64 ((((aQ k S).getD b lh:Nat):Int)+1))]=(aQ k (S++[i])).map nD:=oJ h ha hb rfl
theorem kQ (k:Nat)(S:List Nat)(i:Nat){o:Nat}(h:i<k)(ho:o=i):((aQ k S).map nD)[o]? =some (nD ((aQ k S).getD i lh)):=by
 subst ho;rw[V6,VH,VG (by rw[cT];exact h)];rfl
theorem OW (k:Nat)(S:List Nat)(i:Nat)(W:List Nat)(hW:aQ k (S++[i])=W){a b:Nat}(h:i<k)(ha:a=i)(hb:b=i):ag ((aQ k S).map nD) a [D.v (.int .i64 ((((aQ k S).getD b lh:Nat):Int)+1))]=W.map nD:=by rw[<-hW];exact oJ h ha hb rfl
def zH (C:Z4)(i:Nat):Nat:=lk C (qk.getD i lh)
theorem rK (C:Z4)(i:Nat):zH C i=qk.getD i lh:=aP _ _
theorem rL (C:Z4)(i:Nat)(h:i<19):zH C i<19:=by rw[rK];exact OV i h
theorem Ih (C:Z4)(i:Nat)(h:i<19):(qk.map nD)[i]? =some (nD (zH C i)):=by rw[rK];exact TB i h
theorem x4 {l:Z4}{n i:Nat}(h:i<n):(l.take n).getD i lh=l.getD i lh:=by
 rw[VH,WA,ZF h,<-VH]
theorem OX {e n1 n2 n3:Nat}{x y z:Int}(hx:x=((n1-257:Nat):Int))(hy:y=((n2-1:Nat):Int))(hz:z=((n3-4:Nat):Int)):[D.v (.int .u32 (e:Int)),D.v (.int .i64 1),D.v (.int .u32 2),D.v (.int .i64 2),D.v (.int .u32 x),D.v (.int .i64 5),D.v (.int .u32 y),D.v (.int .i64 5),D.v (.int .u32 z),D.v (.int .i64 4)]=(k6 e 2++([⟨n1-257,5⟩,⟨n2-1,5⟩,⟨n3-4,4⟩]:List Nm)).flatMap aD:=by
 subst hx hy hz;rfl

end Vp
end Go.Proofs.YtefjnofhgkjpmaaGreat
namespace Go.Proofs.YtefjnofhgkjpmaaGreat
open Go.RowKit Go.Bw Go.Vx
open List (length getD map take drop flatMap replicate)
namespace Vt
abbrev iD (i:Int):D:=.v (.int .i64 i)
abbrev aY:D:=.v (.slice none 0 0)
structure Tok where
 lit:UInt8
 dist:Int
 long:Int
 deriving Inhabited
abbrev tokD (t:Tok):List D:=[dB t.lit,iD t.dist,iD t.long]
end Vt
end Go.Proofs.YtefjnofhgkjpmaaGreat
namespace Go.Proofs.YtefjnofhgkjpmaaGreat
open Go.RowKit Go.Bw Go.Vx
open List (length getD map take drop flatMap replicate)
namespace Vm
theorem oN {p:Prop}(h:p:=by(refine aG ?_;(omega))):p:=h
theorem zJ {p:Prop}(h:p:=by((refine aC ?_ ?_)<;>(repeat' (first|(refine aC ?_ ?_)|(with_reducible rfl)|(refine decide_eq_true ?_)|(refine VL ?_)|(refine dA ?_)))<;>(omega))):p:=h
theorem zK {p:Prop}(h:p:=by(exact dR _ (by decide) (by decide))):p:=h
theorem Ft {p:Prop}(h:p:=by(refine yb hh ?_ ?_ ?_<;>(omega))):p:=h
theorem Fu {p:Prop}(h:p:=by show j-1<j;clear ZB ZD;omega):p:=h
abbrev iD (i:Int):D:=.v (.int .i64 i)
abbrev aY:D:=.v (.slice none 0 0)
theorem TC (x:Int):VU .u32 x=x%4294967296:=rfl
abbrev bI (l:Z4)(i:Nat):Int:=((l.getD i lh).toNat:Int)
def cw (l:Z4)(i:Nat):Int:=((bI l (i+2)*16777619+bI l (i+1))*16777619+bI l i)%4294967296
abbrev Ko:Int:=1055306571
theorem qm (l:Z4)(i:Nat):0<=bI l i∧bI l i<256:=by
 have h:=(l.getD i lh).toNat_lt;unfold bI;constructor<;>omega
def hR (p:Z4):Nat->Int
 |0=>0
 |k+1=>((((hR p k*16777619)%4294967296)+bI p (2-k))%4294967296)
theorem Fv {p:Z4}{k j:Nat}{h:Int}(hh:h=hR p k)(hj:j=2-k):((((h*16777619)%4294967296)+bI p j)%4294967296)=hR p (k+1):=by rw[hh,hj,hR]
theorem TD (p:Z4):hR p 3=cw p 0:=by
 have h0:=qm p 0;have h1:=qm p 1;have h2:=qm p 2;simp only[hR,TC,cw,show 2-0=2 from rfl,show 2-1=1 from rfl,show 2-2=0 from rfl,show 0+2=2 from rfl,show 0+1=1 from rfl];omega
theorem hash (p:Z4)(hp:p.length=3)(H:Int)(hH:H=cw p 0):S0 198 [.sl false 3 1 (p.map dB)] [] (.tup [.v (.int .u32 H),.v (.int .u32 Ko)]) []:=SpR Tryz.func198 rfl rfl rfl trivial rfl 1000 64 (λ R ok=>.s 9<|Hn.inl T_ok ah false 41 0 (aq Tryz.prog 198 0) (λ(x:(k:Nat)×'(hk:k<=3)×'(h:Int)×'(hh:h=hR p k)×'Unit)=>match x with|⟨k,hk,h,hh,_⟩=>VZ [(0,V3 false 3 1 (map dB p)),(4,.v (.int .u32 h)),(5,iD (2-(k:Int)))] [] 0) (λ(x:(k:Nat)×'(hk:k<=3)×'(h:Int)×'(hh:h=hR p k)×'Unit)=>match x with|⟨k,hk,h,hh,_⟩=>3-k) [⟨Unit,.exit 0,λ x=>match x with|()=>VZ [(0,V3 false 3 1 (map dB p)),(4,.v (.int .u32 H))] [] 0⟩] 1000 64 (fun|⟨k,hk,h,hh,_⟩,Q,ZB,ZD=>.B 3 (0<=2-(k:Int)) (λ p0 Z9=>.O 3 (ay .u32 (h*16777619)) (uI (h*16777619%4294967296)) (aE _ _)<|.K 3 (decide (0<=2-(k:Int))&&decide (2-(k:Int)<(↑3:Int))&&true) zJ<|.O 2 ((map dB p)[zq (2-(k:Int))*1]?) (dB (getD p (zq (2-(k:Int))*1) lh)) (am _ _ om)<|.O 1 (ay .u32 (↑(VE (getD p (zq (2-(k:Int))*1) lh)):Int)) (ai (VE (getD p (zq (2-(k:Int))*1) lh))) (aA zK)<|.O 2 (ay .u32 (h*16777619%4294967296+(↑(VE (getD p (zq (2-(k:Int))*1) lh)):Int))) (uI ((h*16777619%4294967296+(↑(VE (getD p (zq (2-(k:Int))*1) lh)):Int))%4294967296)) (aE _ _)<|.W 4 (2-(k:Int)-1)<|.V 1 4 (uI ((h*16777619%4294967296+(↑(VE (getD p (zq (2-(k:Int))*1) lh)):Int))%4294967296)) (uI ((h*16777619%4294967296+bI p (2-k))%4294967296)) (by(refine aG (congrArg (λ z=>((((h*16777619)%4294967296)+bI p z)%4294967296)) ?_);(omega)))<|.val 5 (zI (2-(k:Int)-1)) (zI (2-(↑(k+1):Int))) oN<|Hn.next ZB ⟨(k+1),om,(((((h*16777619)%4294967296)+bI p (2-k))%4294967296)),(by(refine Fv hh ?_;(omega))),⟨⟩⟩ (by show 3-(k+1)<3-k;clear ZB ZD;omega) [] ro) (λ p0 Z9=>.val 4 (uI h) (uI H) (by(refine aG ?_;rw[hh,hH,show k=3 from by(omega),TD]))<|Hn.last ZD 0 (():Unit) rfl [] ro)) (fun|⟨k,hk,h,hh,_⟩=>by kernel_rfl) ⟨(0),om,(0),(by exact rfl),⟨⟩⟩ [] ro (bM (fun|()=>.Y 70 [] [] (WL [uI H,uI 1055306571]) [] ok))) kr
def az (s p:Z4):Nat->Int
 |0=>-1
 |k+1=>if(s.drop k).take 3=p then(k:Int)else az s p k
theorem Cc {s p:Z4}{i:Nat}(h:(s.drop i).take 3=p)(hi:i+3<=s.length):cw s i=cw p 0:=by
 have e:∀j,j<3->bI p j=bI s (i+j):=λ j hj=>by
  unfold bI;rw[<-h];simp only[VH,WA,WR,hj,if_true]
 unfold cw;rw[e 0 (by decide),e 1 (by decide),e 2 (by decide)];rfl
theorem TE (s:Z4)(i:Nat):((((((cw s (i+1)*16777619)%4294967296)+bI s i)%4294967296)-((Ko*bI s (i+3))%4294967296))%4294967296)=cw s i:=by
 simp only[Ko,TC,cw,show i+1+2=i+3 from rfl,show i+1+1=i+2 from rfl];omega
def hW (s:Z4)(i:Nat):Nat->Int
 |0=>0
 |k+1=>((((hW s i k*16777619)%4294967296)+bI s (i+(2-k)))%4294967296)
theorem Fw {s:Z4}{i k j:Nat}{h:Int}(hh:h=hW s i k)(hj:j=i+(2-k)):((((h*16777619)%4294967296)+bI s j)%4294967296)=hW s i (k+1):=by rw[hh,hj,hW]
theorem TF (s:Z4)(i:Nat):hW s i 3=cw s i:=by
 have h0:=qm s i;have h1:=qm s (i+1);have h2:=qm s (i+2);simp only[hW,TC,cw,show 2-0=2 from rfl,show 2-1=1 from rfl,show 2-2=0 from rfl,Xw];omega
theorem uh {s p:Z4}{k m:Nat}(hm:m=k+1)(h:(s.drop k).take 3=p):az s p m=k:=by rw[hm,az,ZF h]
theorem lI {s p:Z4}{k m:Nat}(hm:m=k+1)(h:(s.drop k).take 3≠p):az s p m=az s p k:=by rw[hm,az,ZE h]
theorem qn {s p:Z4}{k m:Nat}{h H:Int}(hm:m=k+1)(hl:m+2<=s.length)(hh:h=cw s k)(hH:H=cw p 0)(hne:h≠H):az s p m=az s p k:=
 lI hm λ e=>hne (by rw[hh,hH];exact Cc e om)
theorem Kp {l p:Z4}(e:(Wt {data:=l.toArray}==Wt {data:=p.toArray})=true):l=p:=by rw[gK,gK]at e;exact eq_of_beq e
theorem Kq {l p:Z4}(e:(Wt {data:=l.toArray}==Wt {data:=p.toArray})=false):l≠p:=by rw[gK,gK]at e;exact ap e
theorem ya {s:Z4}{n j:Nat}(hn:n=s.length)(h3:3<=n)(hj:j=n-3):s.drop j=(s.drop (n-3)).take 3:=by
 rw[hj,Wm (by rw[Wr];omega)]
theorem qo {s p:Z4}{a:Int}{j:Nat}(hl:a=az s p j)(hj:j=0):a= -1:=by rw[hl,hj];rfl
theorem yb {s:Z4}{j a b:Nat}{h:Int}(hh:h=cw s j)(hj:0<j)(ha:a=j-1)(hb:b=j+2):((((((h*16777619)%4294967296)+((s.getD a lh).toNat:Int))%4294967296)-((1055306571*((s.getD b lh).toNat:Int))%4294967296))%4294967296)=cw s (j-1):=by
 have e1:cw s j=cw s (a+1):=congrArg (cw s) om;have e2:b=a+3:=by omega
 have e3:=TE s a;rw[hh,e1,e2,<-ha];exact e3
theorem Cd {s:Z4}{j:Nat}(hj:0<j):Ws (((j:Int)-1+3).toNat-((j:Int)-1).toNat) (Wx ((j:Int)-1).toNat s)=(s.drop (j-1)).take 3:=by
 rw[show((j:Int)-1+3).toNat-((j:Int)-1).toNat=3 from by omega,show((j:Int)-1).toNat=j-1 from by omega]
theorem yc {s p:Z4}{j:Nat}{a:Int}(hl:a=az s p j)(hj:0<j)(e:(Wt {data:=(Ws (((j:Int)-1+3).toNat-((j:Int)-1).toNat) (Wx ((j:Int)-1).toNat s)).toArray}==Wt {data:=p.toArray})=false):a=az s p (j-1):=by
 rw[hl];refine lI om ?_;rw[<-Cd hj];exact Kq e
theorem Ce {s p:Z4}{j:Nat}{a:Int}(hl:a=az s p j)(hj:0<j)(e:(Wt {data:=(Ws (((j:Int)-1+3).toNat-((j:Int)-1).toNat) (Wx ((j:Int)-1).toNat s)).toArray}==Wt {data:=p.toArray})=true):(j:Int)-1=a:=by
 rw[hl,uh (k:=j-1) om (by rw[<-Cd hj];exact Kp e)];omega
theorem yd {s p:Z4}{j:Nat}{a h H:Int}(hl:a=az s p j)(hj:0<j)(hb:j+2<=s.length)(hh:h=cw s j)(hH:H=cw p 0)(e:(((((((h*16777619)%4294967296)+((s.getD (((j:Int)-1).toNat*1) lh).toNat:Int))%4294967296)-((1055306571*((s.getD (((j:Int)-1+3).toNat*1) lh).toNat:Int))%4294967296))%4294967296)==H)=false):a=az s p (j-1):=
 hl.trans (qn om hb (yb hh hj om om) hH (ap e))
theorem Fx {s p:Z4}{n:Nat}(hn:n=s.length)(h3:3<=n)(e:(Wt {data:=(Wx ((n:Int)-3).toNat s).toArray}==Wt {data:=p.toArray})=true):(n:Int)-3=az s p (n-2):=by
 rw[uh (k:=n-3) om (by rw[<-ya hn h3 rfl,<-Kp e];exact congrArg (Wx · s) om)];omega
theorem rk (s p:Z4)(n:Nat)(hn:n=s.length)(hp:p.length=3)(h3:4<=n)(h4:n<=1000000)(H:Int)(hH:H=cw p 0):S0 193 [.sl false n 1 (s.map dB),.sl false 3 1 (p.map dB)] [] (iD (az s p (n-2))) []:=SpR Tryz.func193 rfl rfl rfl trivial rfl 1000 64 (λ R ok=>.C 3 198 false [] (.fn SC (@Go.Proofs.YtefjnofhgkjpmaaGreat.Vm.hash (p) om (H) aO))<|.W 15 (n-3)<|.W 6 (n-1)<|.V 1 10 (zI (n-1)) (zI (n-1-0)) oN<|Hn.inl T_ok ah false 94 0 (aq Tryz.prog 193 0) (λ(x:(k:Nat)×'(hk:k<=3)×'(h:Int)×'(hh:h=hW s (n-3) k)×'Unit)=>match x with|⟨k,hk,h,hh,_⟩=>VZ [(0,V3 false n 1 (map dB s)),(1,V3 false 3 1 (map dB p)),(5,uI H),(6,uI 1055306571),(7,zI 3),(8,zI (n-3)),(9,.v (.int .u32 h)),(10,iD ((n:Int)-1-k))] [] 0) (λ(x:(k:Nat)×'(hk:k<=3)×'(h:Int)×'(hh:h=hW s (n-3) k)×'Unit)=>match x with|⟨k,hk,h,hh,_⟩=>3-k) [⟨(h2:Int)×'(hh2:h2=cw s (n-3))×'Unit,.exit 0,λ x=>match x with|⟨h2,hh2,_⟩=>VZ [(0,V3 false n 1 (map dB s)),(1,V3 false 3 1 (map dB p)),(5,uI H),(6,uI 1055306571),(7,zI 3),(8,zI (n-3)),(9,.v (.int .u32 h2))] [] 0⟩] 1000 64 (fun|⟨k,hk,h,hh,_⟩,Q,ZB,ZD=>.B 4 ((n:Int)-3<=n-1-k) (λ p0 Z9=>.O 3 (ay .u32 (h*16777619)) (uI (h*16777619%4294967296)) (aE _ _)<|.K 3 (decide (0<=(n:Int)-1-k)&&decide ((n:Int)-1-k<n)&&true) zJ<|.O 2 ((map dB s)[zq ((n:Int)-1-k)*1]?) (dB (getD s (zq ((n:Int)-1-k)*1) lh)) (am _ _ om)<|.O 1 (ay .u32 (↑(VE (getD s (zq ((n:Int)-1-k)*1) lh)):Int)) (ai (VE (getD s (zq ((n:Int)-1-k)*1) lh))) (aA zK)<|.O 2 (ay .u32 (h*16777619%4294967296+(↑(VE (getD s (zq ((n:Int)-1-k)*1) lh)):Int))) (uI ((h*16777619%4294967296+(↑(VE (getD s (zq ((n:Int)-1-k)*1) lh)):Int))%4294967296)) (aE _ _)<|.W 4 (n-1-k-1)<|.V 1 9 (uI ((h*16777619%4294967296+(↑(VE (getD s (zq ((n:Int)-1-k)*1) lh)):Int))%4294967296)) (uI ((h*16777619%4294967296+bI s (n-1-k))%4294967296)) (by(refine aG (congrArg (λ z=>((((h*16777619)%4294967296)+bI s z)%4294967296)) ?_);(omega)))<|.val 10 (zI (n-1-k-1)) (zI (n-1-(↑(k+1):Int))) oN<|Hn.next ZB ⟨(k+1),om,(((((h*16777619)%4294967296)+bI s (n-1-k))%4294967296)),(by(refine Fw hh ?_;(omega))),⟨⟩⟩ (by show 3-(k+1)<3-k;clear ZB ZD;omega) [] ro) (λ p0 Z9=>(Hn.last ZD 0 (⟨(h),(by(rw[hh,show k=3 from by(omega),TF])),⟨⟩⟩:(h2:Int)×'(hh2:h2=cw s (n-3))×'Unit) rfl [] ro))) (fun|⟨k,hk,h,hh,_⟩=>by kernel_rfl) ⟨(0),om,(0),(by exact rfl),⟨⟩⟩ [] ro (bM (fun|⟨h2,hh2,_⟩=>.R 7 (h2==H) (λ p1=>have Z8:=eq_of_beq p1;.K 4 (aT (some ((n:Int)-3)) none none n&&true) (by(simp <;>(omega)))<|.s 3<|.byt (drop (zq ((n:Int)-3)*1) (map dB s)) (drop (zq ((n:Int)-3)) s) (by(simp;done))<|.s 5<|.byt (map dB p) (p) rfl<|.R 3 (Wt (W8 (Xm (drop (zq ((n:Int)-3)) s)))==Wt (W8 (Xm p))) (λ p2=>have Z7:=eq_of_beq p2;.U 2 [] [] (zI (n-3)) [] R (ok _ _ (by(exact aG (Fx hn (by(omega)) aO))) wr)) (λ p2=>have Z7:=ap p2;.W 3 (n-3-1)<|.V 1 11 (zI (n-3-1)) (zI ((↑(n-3):Int)-1)) oN<|Hn.inl T_ok ah false 94 0 (aq Tryz.prog 193 1) (λ(x:(j:Nat)×'(hj:j<=n-3)×'(h:Int)×'(hh:h=cw s j)×'(hl:az s p (n-2)=az s p j)×'Unit)=>match x with|⟨j,hj,h,hh,hl,_⟩=>VZ [(0,V3 false n 1 (map dB s)),(1,V3 false 3 1 (map dB p)),(5,uI H),(6,uI 1055306571),(7,zI 3),(9,.v (.int .u32 h)),(11,iD ((j:Int)-1))] [] 0) (λ(x:(j:Nat)×'(hj:j<=n-3)×'(h:Int)×'(hh:h=cw s j)×'(hl:az s p (n-2)=az s p j)×'Unit)=>match x with|⟨j,hj,h,hh,hl,_⟩=>j) [⟨(hz:az s p (n-2)= -1)×'Unit,.exit 2,λ x=>match x with|⟨hz,_⟩=>VZ [(0,V3 false n 1 (map dB s)),(1,V3 false 3 1 (map dB p)),(5,uI H),(6,uI 1055306571),(7,zI 3)] [] 0⟩,⟨Unit,.ret,λ x=>match x with|()=>VZ [(4,iD (az s p (n-2)))] [] 0⟩] 1000 64 (fun|⟨j,hj,h,hh,hl,_⟩,Q,ZB,ZD=>.B 3 (0<=(j:Int)-1) (λ p3 Z6=>.O 3 (ay .u32 (h*16777619)) (uI (h*16777619%4294967296)) (aE _ _)<|.K 5 (decide (0<=(j:Int)-1)&&decide ((j:Int)-1<n)&&true) zJ<|.O 2 ((map dB s)[zq ((j:Int)-1)*1]?) (dB (getD s (zq ((j:Int)-1)*1) lh)) (am _ _ om)<|.O 1 (ay .u32 (↑(VE (getD s (zq ((j:Int)-1)*1) lh)):Int)) (ai (VE (getD s (zq ((j:Int)-1)*1) lh))) (aA zK)<|.O 2 (ay .u32 (h*16777619%4294967296+(↑(VE (getD s (zq ((j:Int)-1)*1) lh)):Int))) (uI ((h*16777619%4294967296+(↑(VE (getD s (zq ((j:Int)-1)*1) lh)):Int))%4294967296)) (aE _ _)<|.W 8 (j-1+3)<|.K 1 (decide (0<=(j:Int)-1+3)&&decide ((j:Int)-1+3<n)&&true) zJ<|.O 2 ((map dB s)[zq ((j:Int)-1+3)*1]?) (dB (getD s (zq ((j:Int)-1+3)*1) lh)) (am _ _ om)<|.O 1 (ay .u32 (↑(VE (getD s (zq ((j:Int)-1+3)*1) lh)):Int)) (ai (VE (getD s (zq ((j:Int)-1+3)*1) lh))) (aA zK)<|.O 2 (ay .u32 (1055306571*(↑(VE (getD s (zq ((j:Int)-1+3)*1) lh)):Int))) (uI (1055306571*(↑(VE (getD s (zq ((j:Int)-1+3)*1) lh)):Int)%4294967296)) (aE _ _)<|.O 2 (ay .u32 ((h*16777619%4294967296+(↑(VE (getD s (zq ((j:Int)-1)*1) lh)):Int))%4294967296-1055306571*(↑(VE (getD s (zq ((j:Int)-1+3)*1) lh)):Int)%4294967296)) (uI (((h*16777619%4294967296+(↑(VE (getD s (zq ((j:Int)-1)*1) lh)):Int))%4294967296-1055306571*(↑(VE (getD s (zq ((j:Int)-1+3)*1) lh)):Int)%4294967296)%4294967296)) (aE _ _)<|.R 8 (((h*16777619%4294967296+(↑(VE (getD s (zq ((j:Int)-1)*1) lh)):Int))%4294967296-1055306571*(↑(VE (getD s (zq ((j:Int)-1+3)*1) lh)):Int)%4294967296)%4294967296==H) (λ p4=>have Z5:=eq_of_beq p4;.W 9 (j-1+3)<|.K 2 (aT (some ((j:Int)-1)) (some ((j:Int)-1+3)) none n&&true) (by(simp <;>(omega)))<|.s 3<|.byt (take ((zq ((j:Int)-1+3)-zq ((j:Int)-1))*1) (drop (zq ((j:Int)-1)*1) (map dB s))) (take (zq ((j:Int)-1+3)-zq ((j:Int)-1)) (drop (zq ((j:Int)-1)) s)) (by(simp;done))<|.s 5<|.byt (map dB p) (p) rfl<|.R 3 (Wt (W8 (Xm (take (zq ((j:Int)-1+3)-zq ((j:Int)-1)) (drop (zq ((j:Int)-1)) s))))==Wt (W8 (Xm p))) (λ p5=>have p5f:=eq_of_beq p5;.V 2 4 (zI (j-1)) (zI (az s p (n-2))) (by(exact aG (Ce hl (by(omega)) aO)))<|Hn.last ZD 1 (():Unit) rfl [] ro) (λ p5=>have p5f:=ap p5;.W 3 (j-1-1)<|.V 1 11 (zI (j-1-1)) (zI ((↑(j-1):Int)-1)) oN<|Hn.next ZB ⟨(j-1),om,(((((((h*16777619)%4294967296)+((s.getD (((j:Int)-1).toNat*1) lh).toNat:Int))%4294967296)-((1055306571*((s.getD (((j:Int)-1+3).toNat*1) lh).toNat:Int))%4294967296))%4294967296)),Ft,(by(exact yc hl (by(omega)) aO)),⟨⟩⟩ Fu [] ro)) (λ p4=>have Z5:=ap p4;.W 23 (j-1-1)<|.V 1 11 (zI (j-1-1)) (zI ((↑(j-1):Int)-1)) oN<|Hn.next ZB ⟨(j-1),om,(((((((h*16777619)%4294967296)+((s.getD (((j:Int)-1).toNat*1) lh).toNat:Int))%4294967296)-((1055306571*((s.getD (((j:Int)-1+3).toNat*1) lh).toNat:Int))%4294967296))%4294967296)),Ft,(by(exact yd hl (by(omega)) (by(omega)) hh hH aO)),⟨⟩⟩ Fu [] ro)) (λ p3 Z6=>(Hn.last ZD 0 (⟨(by(exact qo hl (by(omega)))),⟨⟩⟩:(hz:az s p (n-2)= -1)×'Unit) rfl [] ro))) (fun|⟨j,hj,h,hh,hl,_⟩=>by kernel_rfl) ⟨(n-3),om,(h2),om,(by(refine lI om ?_;rw[<-ya hn om rfl];refine λ e=>Kq p2 ?_;refine Eq.trans ?_ e;exact congrArg (drop · s) om)),⟨⟩⟩ [] ro (gw (fun|⟨hz,_⟩=>.U 1 [] [] (zI (-1)) [] R (ok _ _ oN wr)) (fun|()=>.out [] [] (zI (az s p (n-2))) [] R (ok _ _ wr wr))))) (λ p1=>have Z8:=ap p1;.W 17 (n-3-1)<|.V 1 11 (zI (n-3-1)) (zI ((↑(n-3):Int)-1)) oN<|Hn.inl T_ok ah false 94 0 (aq Tryz.prog 193 1) (λ(x:(j:Nat)×'(hj:j<=n-3)×'(h:Int)×'(hh:h=cw s j)×'(hl:az s p (n-2)=az s p j)×'Unit)=>match x with|⟨j,hj,h,hh,hl,_⟩=>VZ [(0,V3 false n 1 (map dB s)),(1,V3 false 3 1 (map dB p)),(5,uI H),(6,uI 1055306571),(7,zI 3),(9,.v (.int .u32 h)),(11,iD ((j:Int)-1))] [] 0) (λ(x:(j:Nat)×'(hj:j<=n-3)×'(h:Int)×'(hh:h=cw s j)×'(hl:az s p (n-2)=az s p j)×'Unit)=>match x with|⟨j,hj,h,hh,hl,_⟩=>j) [⟨(hz:az s p (n-2)= -1)×'Unit,.exit 2,λ x=>match x with|⟨hz,_⟩=>VZ [(0,V3 false n 1 (map dB s)),(1,V3 false 3 1 (map dB p)),(5,uI H),(6,uI 1055306571),(7,zI 3)] [] 0⟩,⟨Unit,.ret,λ x=>match x with|()=>VZ [(4,iD (az s p (n-2)))] [] 0⟩] 1000 64 (fun|⟨j,hj,h,hh,hl,_⟩,Q,ZB,ZD=>.B 3 (0<=(j:Int)-1) (λ p6 p6f=>.O 3 (ay .u32 (h*16777619)) (uI (h*16777619%4294967296)) (aE _ _)<|.K 5 (decide (0<=(j:Int)-1)&&decide ((j:Int)-1<n)&&true) zJ<|.O 2 ((map dB s)[zq ((j:Int)-1)*1]?) (dB (getD s (zq ((j:Int)-1)*1) lh)) (am _ _ om)<|.O 1 (ay .u32 (↑(VE (getD s (zq ((j:Int)-1)*1) lh)):Int)) (ai (VE (getD s (zq ((j:Int)-1)*1) lh))) (aA zK)<|.O 2 (ay .u32 (h*16777619%4294967296+(↑(VE (getD s (zq ((j:Int)-1)*1) lh)):Int))) (uI ((h*16777619%4294967296+(↑(VE (getD s (zq ((j:Int)-1)*1) lh)):Int))%4294967296)) (aE _ _)<|.W 8 (j-1+3)<|.K 1 (decide (0<=(j:Int)-1+3)&&decide ((j:Int)-1+3<n)&&true) zJ<|.O 2 ((map dB s)[zq ((j:Int)-1+3)*1]?) (dB (getD s (zq ((j:Int)-1+3)*1) lh)) (am _ _ om)<|.O 1 (ay .u32 (↑(VE (getD s (zq ((j:Int)-1+3)*1) lh)):Int)) (ai (VE (getD s (zq ((j:Int)-1+3)*1) lh))) (aA zK)<|.O 2 (ay .u32 (1055306571*(↑(VE (getD s (zq ((j:Int)-1+3)*1) lh)):Int))) (uI (1055306571*(↑(VE (getD s (zq ((j:Int)-1+3)*1) lh)):Int)%4294967296)) (aE _ _)<|.O 2 (ay .u32 ((h*16777619%4294967296+(↑(VE (getD s (zq ((j:Int)-1)*1) lh)):Int))%4294967296-1055306571*(↑(VE (getD s (zq ((j:Int)-1+3)*1) lh)):Int)%4294967296)) (uI (((h*16777619%4294967296+(↑(VE (getD s (zq ((j:Int)-1)*1) lh)):Int))%4294967296-1055306571*(↑(VE (getD s (zq ((j:Int)-1+3)*1) lh)):Int)%4294967296)%4294967296)) (aE _ _)<|.R 8 (((h*16777619%4294967296+(↑(VE (getD s (zq ((j:Int)-1)*1) lh)):Int))%4294967296-1055306571*(↑(VE (getD s (zq ((j:Int)-1+3)*1) lh)):Int)%4294967296)%4294967296==H) (λ p7=>have p7f:=eq_of_beq p7;.W 9 (j-1+3)<|.K 2 (aT (some ((j:Int)-1)) (some ((j:Int)-1+3)) none n&&true) (by(simp <;>(omega)))<|.s 3<|.byt (take ((zq ((j:Int)-1+3)-zq ((j:Int)-1))*1) (drop (zq ((j:Int)-1)*1) (map dB s))) (take (zq ((j:Int)-1+3)-zq ((j:Int)-1)) (drop (zq ((j:Int)-1)) s)) (by(simp;done))<|.s 5<|.byt (map dB p) (p) rfl<|.R 3 (Wt (W8 (Xm (take (zq ((j:Int)-1+3)-zq ((j:Int)-1)) (drop (zq ((j:Int)-1)) s))))==Wt (W8 (Xm p))) (λ p8=>have p8f:=eq_of_beq p8;.V 2 4 (zI (j-1)) (zI (az s p (n-2))) (by(exact aG (Ce hl (by(omega)) aO)))<|Hn.last ZD 1 (():Unit) rfl [] ro) (λ p8=>have p8f:=ap p8;.W 3 (j-1-1)<|.V 1 11 (zI (j-1-1)) (zI ((↑(j-1):Int)-1)) oN<|Hn.next ZB ⟨(j-1),om,(((((((h*16777619)%4294967296)+((s.getD (((j:Int)-1).toNat*1) lh).toNat:Int))%4294967296)-((1055306571*((s.getD (((j:Int)-1+3).toNat*1) lh).toNat:Int))%4294967296))%4294967296)),Ft,(by(exact yc hl (by(omega)) aO)),⟨⟩⟩ Fu [] ro)) (λ p7=>have p7f:=ap p7;.W 23 (j-1-1)<|.V 1 11 (zI (j-1-1)) (zI ((↑(j-1):Int)-1)) oN<|Hn.next ZB ⟨(j-1),om,(((((((h*16777619)%4294967296)+((s.getD (((j:Int)-1).toNat*1) lh).toNat:Int))%4294967296)-((1055306571*((s.getD (((j:Int)-1+3).toNat*1) lh).toNat:Int))%4294967296))%4294967296)),Ft,(by(exact yd hl (by(omega)) (by(omega)) hh hH aO)),⟨⟩⟩ Fu [] ro)) (λ p6 p6f=>(Hn.last ZD 0 (⟨(by(exact qo hl (by(omega)))),⟨⟩⟩:(hz:az s p (n-2)= -1)×'Unit) rfl [] ro))) (fun|⟨j,hj,h,hh,hl,_⟩=>by kernel_rfl) ⟨(n-3),om,(h2),om,(by(refine qn om om hh2 hH (ap p1))),⟨⟩⟩ [] ro (gw (fun|⟨hz,_⟩=>.U 1 [] [] (zI (-1)) [] R (ok _ _ oN wr)) (fun|()=>.out [] [] (zI (az s p (n-2))) [] R (ok _ _ wr wr))))))) kr
theorem uj {s p:Z4}{n:Nat}(hn:n=s.length)(h3:n=3):az s p (n-2)=if s=p then 0 else -1:=by
 rw[show n-2=0+1 from by omega,az,List.drop_zero,Wm om];rfl
theorem OY {s p:Z4}{n:Nat}(hn:n=s.length)(h3:n=3)(e:(Wt {data:=s.toArray}==Wt {data:=p.toArray})=true):0=az s p (n-2):=by rw[uj hn h3,ZF (Kp e)]
theorem OZ {s p:Z4}{n:Nat}(hn:n=s.length)(h3:n=3)(e:(Wt {data:=s.toArray}==Wt {data:=p.toArray})=false):-1=az s p (n-2):=by rw[uj hn h3,ZE (Kq e)]
theorem O0 {s p:Z4}{n:Nat}(h:n<=2):-1=az s p (n-2):=by rw[show n-2=0 from by omega];rfl
theorem Kr (s p:Z4)(n:Nat)(hn:n=s.length)(hp:p.length=3)(h4:n<=1000000):S0 179 [.sl false n 1 (s.map dB),.sl false 3 1 (p.map dB)] [] (iD (az s p (n-2))) []:=by
 have hH:cw p 0=cw p 0:=rfl;refine SpR Tryz.func179 rfl rfl rfl trivial rfl 1000 64 (λ R ok=>.R 20 (3==(n:Int)) (λ p0=>have Z9:=eq_of_beq p0;.s 8<|.byt (map dB s) (s) rfl<|.s 3<|.byt (map dB p) (p) rfl<|.R 2 (Wt (W8 (Xm s))==Wt (W8 (Xm p))) (λ p1=>have Z8:=eq_of_beq p1;.U 1 [] [] (zI 0) [] R (ok _ _ (by(exact aG (OY hn (by(omega)) aO))) wr)) (λ p1=>have Z8:=ap p1;.U 1 [] [] (zI (-1)) [] R (ok _ _ (by(exact aG (OZ hn (by(omega)) aO))) wr))) (λ p0=>have Z9:=ap p0;.B 6 ((n:Int)<3) (λ p2 Z7=>.U 1 [] [] (zI (-1)) [] R (ok _ _ (by(exact aG (O0 (by(omega))))) wr)) (λ p2 Z7=>.C 3 193 false [] (.fn SB (@Go.Proofs.YtefjnofhgkjpmaaGreat.Vm.rk (s) (p) (n) om om om om (cw p 0) aO))<|.Y 1 [] [] (zI (az s p (n-2))) [] ok))) kr
def ba (b:Z4)(i j:Nat):Nat->Nat
 |0=>0
 |k+1=>if i<b.length∧b.getD j lh=b.getD i lh then ba b (i+1) (j+1) k+1 else 0
theorem ye (b:Z4):∀(k i j:Nat),ba b i j k<=k
 |0,i,j=>VT 0
 |k+1,i,j=>by
  unfold ba
  split
  ·exact Yg (ye b k (i+1) (j+1))
  ·omega
theorem kR (b:Z4):∀(k i j:Nat),i<=b.length->i+ba b i j k<=b.length
 |0,i,j,h=>h
 |k+1,i,j,h=>by
  unfold ba
  split
  ·next e=>have:=kR b k (i+1) (j+1) e.1;omega
  ·exact h
theorem Fz {b:Z4}{i j m a:Nat}(hs:a=m+ba b (i+m) (j+m) (258-m))(h1:m<258)(h2:i+m<b.length)(h3:b.getD (j+m) lh=b.getD (i+m) lh):a=(m+1)+ba b (i+(m+1)) (j+(m+1)) (258-(m+1)):=by
 rw[hs,show 258-m=(258-(m+1))+1 from by omega,ba,ZF ⟨h2,h3⟩];rw[show i+m+1=i+(m+1)from by omega,show j+m+1=j+(m+1)from by omega];omega
theorem rM {b:Z4}{i j m a:Nat}(hs:a=m+ba b (i+m) (j+m) (258-m))(h:m=258∨¬i+m<b.length∨b.getD (j+m) lh≠b.getD (i+m) lh):a=m:=by
 rw[hs];rcases h with h|h|h
 ·rw[h];rfl
 ·cases k:258-m with
  |zero=>rfl
  |succ k=>rw[ba,ZE (λ e=>h e.1)];rfl
 ·cases k:258-m with
  |zero=>rfl
  |succ k=>rw[ba,ZE (λ e=>h e.2)];rfl
theorem yf {b:Z4}{i m:Nat}:b.getD (((i:Int)+(m:Int)).toNat*1) lh=b.getD (i+m) lh:=congrArg (b.getD · lh) om
theorem O1 {x y:UInt8}(h:(x.toNat:Int)=(y.toNat:Int)):x=y:=UInt8.toNat_inj.1 (Int.ofNat.inj h)
theorem vU {b:Z4}{i j m a:Nat}(hs:a=m+ba b (i+m) (j+m) (258-m))(h1:m<258)(h2:i+m<b.length)(e:(((b.getD (((j:Int)+(m:Int)).toNat*1) lh).toNat:Int)==((b.getD (((i:Int)+(m:Int)).toNat*1) lh).toNat:Int))=true):a=m+1+ba b (i+(m+1)) (j+(m+1)) (258-(m+1)):=by
 rw[yf,yf]at e;exact Fz hs h1 h2 (O1 (eq_of_beq e))
theorem Cf {b:Z4}{i j m a:Nat}(hs:a=m+ba b (i+m) (j+m) (258-m))(e:(((b.getD (((j:Int)+(m:Int)).toNat*1) lh).toNat:Int)==((b.getD (((i:Int)+(m:Int)).toNat*1) lh).toNat:Int))=false):(m:Int)=(a:Int):=by
 rw[yf,yf]at e;rw[rM hs (.inr (.inr λ h=>ap e (by rw[h])))]
theorem yg {b:Z4}{i j m a n:Nat}(hs:a=m+ba b (i+m) (j+m) (258-m))(hn:n=b.length)(e:decide ((i:Int)+(m:Int)<(n:Int))=false):(m:Int)=(a:Int):=by
 have:=of_decide_eq_false e;rw[rM hs (.inr (.inl om))]
theorem yh {b:Z4}{i j m a:Nat}(hs:a=m+ba b (i+m) (j+m) (258-m))(hm:m<=258)(e:decide ((m:Int)<258)=false):(m:Int)=(a:Int):=by
 have:=of_decide_eq_false e;rw[rM hs (.inl om)]
theorem long (b:Z4)(n i j:Nat)(hn:n=b.length)(hN:n<=1000000)(hi:i<=n)(hj:j<i):S0 155 [.sl false n 1 (b.map dB),iD i,iD j] [] (iD (ba b i j 258:Nat)) []:=SpR Tryz.func155 rfl rfl rfl trivial rfl 1000 64 (λ R ok=>.s 1<|Hn.inl T_ok ah false 35 0 (aq Tryz.prog 155 0) (λ(x:(m:Nat)×'(hm:m<=258)×'(hi2:i+m<=n)×'(hs:ba b i j 258=m+ba b (i+m) (j+m) (258-m))×'Unit)=>match x with|⟨m,hm,hi2,hs,_⟩=>VZ [(0,V3 false n 1 (map dB b)),(1,zN i),(2,zN j),(6,iD (m:Nat))] [] 0) (λ(x:(m:Nat)×'(hm:m<=258)×'(hi2:i+m<=n)×'(hs:ba b i j 258=m+ba b (i+m) (j+m) (258-m))×'Unit)=>match x with|⟨m,hm,hi2,hs,_⟩=>258-m) [⟨Unit,.exit 0,λ x=>match x with|()=>VZ [(0,V3 false n 1 (map dB b)),(1,zN i),(2,zN j),(6,iD (ba b i j 258:Nat))] [] 0⟩] 1000 64 (fun|⟨m,hm,hi2,hs,_⟩,Q,ZB,ZD=>.B 6 ((m:Int)<258) (λ p0 Z9=>.W 5 (i+m)<|.B 10 ((i:Int)+m<n) (λ p1 Z8=>.W 7 (j+m)<|.K 2 (true&&decide ((j:Int)+m<n)&&true) zJ<|.O 3 ((map dB b)[zq ((j:Int)+m)*1]?) (dB (getD b (zq ((j:Int)+m)*1) lh)) (am _ _ om)<|.W 9 (i+m)<|.K 2 (true&&decide ((i:Int)+m<n)&&true) zJ<|.O 3 ((map dB b)[zq ((i:Int)+m)*1]?) (dB (getD b (zq ((i:Int)+m)*1) lh)) (am _ _ om)<|.R 4 ((↑(VE (getD b (zq ((j:Int)+m)*1) lh)):Int)==(↑(VE (getD b (zq ((i:Int)+m)*1) lh)):Int)) (λ p2=>have Z7:=eq_of_beq p2;.W 3 (m+1)<|.V 1 6 (zI (m+1)) (zN (m+1)) (by(simp;done))<|Hn.next ZB ⟨(m+1),om,om,(by(exact vU hs (by(omega)) (by(omega)) aO)),⟨⟩⟩ (by show 258-(m+1)<258-m;clear ZB ZD;omega) [] ro) (λ p2=>have Z7:=ap p2;.val 6 (zN m) (zN (ba b i j 258)) (by(exact aG (Cf hs aO)))<|Hn.last ZD 0 (():Unit) rfl [] ro)) (λ p1 Z8=>.V 26 6 (zN m) (zN (ba b i j 258)) (by(exact aG (yg hs hn aO)))<|Hn.last ZD 0 (():Unit) rfl [] ro)) (λ p0 Z9=>.V 40 6 (zN m) (zN (ba b i j 258)) (by(exact aG (yh hs hm aO)))<|Hn.last ZD 0 (():Unit) rfl [] ro)) (fun|⟨m,hm,hi2,hs,_⟩=>by kernel_rfl) ⟨(0),om,om,(by(simp only[Xw,Wd,YJ];done)),⟨⟩⟩ [] ro (bM (fun|()=>.Y 2 [] [] (zN (ba b i j 258)) [] ok))) kr
theorem TG (b:Z4)(n i j:Nat)(hn:n=b.length)(hN:n<=1000000)(hi:i<=n)(hj:j<i):S0 128 [.sl false n 1 (b.map dB),iD i,iD j] [] (iD (ba b i j 258:Nat)) []:=SpR Tryz.func128 rfl rfl rfl trivial rfl 1000 64 (λ R ok=>.s 2<|Hn.inl T_ok ah false 36 0 (aq Tryz.prog 128 0) (λ(x:(m:Nat)×'(hm:m<=258)×'(hi2:i+m<=n)×'(hs:ba b i j 258=m+ba b (i+m) (j+m) (258-m))×'Unit)=>match x with|⟨m,hm,hi2,hs,_⟩=>VZ [(0,V3 false n 1 (map dB b)),(1,zN i),(2,zN j),(7,iD (m:Nat))] [] 0) (λ(x:(m:Nat)×'(hm:m<=258)×'(hi2:i+m<=n)×'(hs:ba b i j 258=m+ba b (i+m) (j+m) (258-m))×'Unit)=>match x with|⟨m,hm,hi2,hs,_⟩=>258-m) [⟨Unit,.exit 0,λ x=>match x with|()=>VZ [(0,V3 false n 1 (map dB b)),(1,zN i),(2,zN j),(7,iD (ba b i j 258:Nat))] [] 0⟩] 1000 64 (fun|⟨m,hm,hi2,hs,_⟩,Q,ZB,ZD=>.B 6 ((m:Int)<258) (λ p0 Z9=>.W 5 (i+m)<|.B 10 ((i:Int)+m<n) (λ p1 Z8=>.W 7 (j+m)<|.K 2 (true&&decide ((j:Int)+m<n)&&true) zJ<|.O 3 ((map dB b)[zq ((j:Int)+m)*1]?) (dB (getD b (zq ((j:Int)+m)*1) lh)) (am _ _ om)<|.W 9 (i+m)<|.K 2 (true&&decide ((i:Int)+m<n)&&true) zJ<|.O 3 ((map dB b)[zq ((i:Int)+m)*1]?) (dB (getD b (zq ((i:Int)+m)*1) lh)) (am _ _ om)<|.R 4 ((↑(VE (getD b (zq ((j:Int)+m)*1) lh)):Int)==(↑(VE (getD b (zq ((i:Int)+m)*1) lh)):Int)) (λ p2=>have Z7:=eq_of_beq p2;.W 3 (m+1)<|.V 1 7 (zI (m+1)) (zN (m+1)) (by(simp;done))<|Hn.next ZB ⟨(m+1),om,om,(by(exact vU hs (by(omega)) (by(omega)) aO)),⟨⟩⟩ (by show 258-(m+1)<258-m;clear ZB ZD;omega) [] ro) (λ p2=>have Z7:=ap p2;.val 7 (zN m) (zN (ba b i j 258)) (by(exact aG (Cf hs aO)))<|Hn.last ZD 0 (():Unit) rfl [] ro)) (λ p1 Z8=>.V 26 7 (zN m) (zN (ba b i j 258)) (by(exact aG (yg hs hn aO)))<|Hn.last ZD 0 (():Unit) rfl [] ro)) (λ p0 Z9=>.V 40 7 (zN m) (zN (ba b i j 258)) (by(exact aG (yh hs hm aO)))<|Hn.last ZD 0 (():Unit) rfl [] ro)) (fun|⟨m,hm,hi2,hs,_⟩=>by kernel_rfl) ⟨(0),om,om,(by(simp only[Xw,Wd,YJ];done)),⟨⟩⟩ [] ro (bM (fun|()=>.Y 2 [] [] (zN (ba b i j 258)) [] ok))) kr
theorem longX (b:Z4)(n:Nat)(x y:Int)(hn:n=b.length)(hN:n<=1000000)(hx:x<=n)(hy:0<=y)(hxy:y<x):S0 155 [.sl false n 1 (b.map dB),iD x,iD y] [] (iD (ba b x.toNat y.toNat 258:Nat)) []:=by
 obtain⟨i,rfl⟩:=WM (show 0<=x by omega);obtain⟨j,rfl⟩:=WM hy;exact long b n i j hn hN om om
theorem SameX (b:Z4)(n:Nat)(x y:Int)(hn:n=b.length)(hN:n<=1000000)(hx:x<=n)(hy:0<=y)(hxy:y<x):S0 128 [.sl false n 1 (b.map dB),iD x,iD y] [] (iD (ba b x.toNat y.toNat 258:Nat)) []:=by
 obtain⟨i,rfl⟩:=WM (show 0<=x by omega);obtain⟨j,rfl⟩:=WM hy;exact TG b n i j hn hN om om
theorem mJ {p:Prop}(h:p:=by(have h9:=gP (take (((k:Int)+2).toNat-(max 0 (q-size)).toNat) (drop (max 0 (q-size)).toNat b)) (take ((q+3).toNat-q.toNat) (drop q.toNat b)) (((k:Int)+2).toNat-(max 0 (q-size)).toNat-2);omega)):p:=h
theorem zM {p:Prop}(h:p:=by(exact Kw (by(omega)) (by(omega)))):p:=h
theorem Ks {p:Prop}(h:p:=by show k-1<k;clear ZB ZD;omega):p:=h
theorem Kt {p:Prop}(h:p:=by(exact aG (wa (uk hg (by(omega)))))):p:=h
theorem Ku {p:Prop}(h:p:=by(exact aG (wb (uk hg (by(omega)))))):p:=h
theorem O2 {p:Prop}(h:p:=by show zq (max 0 (q-size)+az (take (zq ((k:Int)+2)-zq (max 0 (q-size))) (drop (zq (max 0 (q-size))) b)) (take (zq (q+3)-zq q) (drop (zq q) b)) (zq ((k:Int)+2)-zq (max 0 (q-size))-2))<k;clear ZB ZD;(have h9:=gP (take (((k:Int)+2).toNat-(max 0 (q-size)).toNat) (drop (max 0 (q-size)).toNat b)) (take ((q+3).toNat-q.toNat) (drop q.toNat b)) (((k:Int)+2).toNat-(max 0 (q-size)).toNat-2);omega)):p:=h
def bestG (b:Z4)(i:Nat)(size:Int):Nat->Int->Int->Int->Int×Int
 |0,_,d,l=>(d,l)
 |k+1,c,d,l=>
  if(i:Int)-k<=size∧0<c then
   if ba b i k 258<3 then bestG b i size k c d l
   else if l<ba b i k 258 then bestG b i size k (c-1) ((i:Int)-k) (ba b i k 258:Nat)
   else bestG b i size k (c-1) d l
  else(d,l)
theorem kS (b:Z4)(i j:Nat):ba b i j 258<=258:=ye b 258 i j
theorem Cg {b:Z4}{i k:Nat}:((ba b i (((k+1:Nat):Int)-1).toNat 258:Nat):Int)=(ba b i k 258:Nat):=by
 rw[show(((k+1:Nat):Int)-1).toNat=k from by omega]
theorem zO {b:Z4}{i k:Nat}{size c d l:Int}{a:Int×Int}(hg:a=bestG b i size k c d l)(h0:0<k)(h1:(i:Int)-((k:Int)-1)<=size)(hc:0<c)(e:((ba b i ((k:Int)-1).toNat 258:Nat):Int)<3):a=bestG b i size (k-1) c d l:=by
 obtain⟨m,rfl⟩:∃m,k=m+1:=⟨k-1,by omega⟩
 rw[Cg]at e;rw[hg,bestG,ZF ⟨by omega,hc⟩,ZF om];rfl
theorem Ch {b:Z4}{i k:Nat}{size c d l:Int}{a:Int×Int}(hg:a=bestG b i size k c d l)(h0:0<k)(h1:(i:Int)-((k:Int)-1)<=size)(hc:0<c)(e:¬((ba b i ((k:Int)-1).toNat 258:Nat):Int)<3)(f:l<((ba b i ((k:Int)-1).toNat 258:Nat):Int)):a=bestG b i size (k-1) (c-1) ((i:Int)-((k:Int)-1)) ((ba b i ((k:Int)-1).toNat 258:Nat):Int):=by
 obtain⟨m,rfl⟩:∃m,k=m+1:=⟨k-1,by omega⟩
 rw[Cg]at e f ⊢;rw[hg,bestG,ZF ⟨by omega,hc⟩,ZE om,ZF f,show(((m+1:Nat):Int)-1)=(m:Int)from by omega];rfl
theorem Ci {b:Z4}{i k:Nat}{size c d l:Int}{a:Int×Int}(hg:a=bestG b i size k c d l)(h0:0<k)(h1:(i:Int)-((k:Int)-1)<=size)(hc:0<c)(e:¬((ba b i ((k:Int)-1).toNat 258:Nat):Int)<3)(f:¬l<((ba b i ((k:Int)-1).toNat 258:Nat):Int)):a=bestG b i size (k-1) (c-1) d l:=by
 obtain⟨m,rfl⟩:∃m,k=m+1:=⟨k-1,by omega⟩
 rw[Cg]at e f;rw[hg,bestG,ZF ⟨by omega,hc⟩,ZE om,ZE f];rfl
theorem uk {b:Z4}{i k:Nat}{size c d l:Int}{a:Int×Int}(hg:a=bestG b i size k c d l)(h:k=0∨¬(i:Int)-((k:Int)-1)<=size∨¬0<c):a=(d,l):=by
 rw[hg]
 cases k with
 |zero=>rfl
 |succ m=>rw[bestG,ZE om]
theorem wa {x:Int×Int}{d l:Int}(h:x=(d,l)):d=x.1:=by rw[h]
theorem wb {x:Int×Int}{d l:Int}(h:x=(d,l)):l=x.2:=by rw[h]
theorem TH (b:Z4)(n i:Nat)(size chain:Int)(hn:n=b.length)(hN:n<=1000000)(hi:i<=n)(hs:1<=size∧size<=32768)(hc:0<=chain∧chain<=256):S0 97 [.sl false n 1 (b.map dB),iD i,iD size,iD chain] [] (.tup [iD (bestG b i size i chain 0 0).1,iD (bestG b i size i chain 0 0).2]) []:=by
 have hS:=kS b;refine SpR Tryz.func97 rfl rfl rfl trivial rfl 1000 64 (λ R ok=>.W 7 (i-1)<|.s 1<|Hn.inl T_ok ah false 48 0 (aq Tryz.prog 97 0) (λ(x:(k:Nat)×'(hk:k<=i)×'(c:Int)×'(d:Int)×'(l:Int)×'(hc2:0<=c∧c<=256)×'(hd:0<=d∧d<=1000000)×'(hl:0<=l∧l<=258)×'(hg:bestG b i size i chain 0 0=bestG b i size k c d l)×'Unit)=>match x with|⟨k,hk,c,d,l,hc2,hd,hl,hg,_⟩=>VZ [(0,V3 false n 1 (map dB b)),(1,zN i),(2,zI size),(3,iD c),(10,iD d),(11,iD l),(12,iD ((k:Int)-1))] [] 0) (λ(x:(k:Nat)×'(hk:k<=i)×'(c:Int)×'(d:Int)×'(l:Int)×'(hc2:0<=c∧c<=256)×'(hd:0<=d∧d<=1000000)×'(hl:0<=l∧l<=258)×'(hg:bestG b i size i chain 0 0=bestG b i size k c d l)×'Unit)=>match x with|⟨k,hk,c,d,l,hc2,hd,hl,hg,_⟩=>k) [⟨Unit,.exit 0,λ x=>match x with|()=>VZ [(0,V3 false n 1 (map dB b)),(1,zN i),(2,zI size),(10,iD (bestG b i size i chain 0 0).1),(11,iD (bestG b i size i chain 0 0).2)] [] 0⟩] 1000 64 (fun|⟨k,hk,c,d,l,hc2,hd,hl,hg,_⟩,Q,ZB,ZD=>.B 5 (0<=(k:Int)-1) (λ p0 Z9=>.W 5 (i-(k-1))<|.B 8 ((i:Int)-(k-1)<=size) (λ p1 Z8=>.B 4 (0<c) (λ p2 Z7=>.C 4 128 false [] (.fn Si (@Go.Proofs.YtefjnofhgkjpmaaGreat.Vm.SameX (b) (n) ((i:Int)) ((k:Int)-1) om om om om om))<|.B 4 ((↑(ba b (zq (i:Int)) (zq ((k:Int)-1)) 258):Int)<3) (λ p3 Z6=>.W 3 (k-1-1)<|.V 1 12 (zI (k-1-1)) (zI ((↑(k-1):Int)-1)) oN<|Hn.next ZB ⟨(k-1),om,(c),(d),(l),om,om,om,(by(have h8:ba b (i:Int).toNat ((k:Int)-1).toNat 258=ba b i ((k:Int)-1).toNat 258:=rfl;have h9:=hS i ((k:Int)-1).toNat;exact zO hg om om om om)),⟨⟩⟩ Ks [] ro) (λ p3 Z6=>.W 3 (c-1)<|.B 5 (l<(↑(ba b i (zq ((k:Int)-1)) 258):Int)) (λ p4 Z5=>.W 4 (i-(k-1))<|.W 6 (k-1-1)<|.V 1 12 (zI (k-1-1)) (zI ((↑(k-1):Int)-1)) oN<|Hn.next ZB ⟨(k-1),om,(c-1),((i:Int)-(k-1)),(((ba b i ((k:Int)-1).toNat 258:Nat):Int)),om,om,(by(have h8:ba b (i:Int).toNat ((k:Int)-1).toNat 258=ba b i ((k:Int)-1).toNat 258:=rfl;have h9:=hS i ((k:Int)-1).toNat;omega)),(by(have h8:ba b (i:Int).toNat ((k:Int)-1).toNat 258=ba b i ((k:Int)-1).toNat 258:=rfl;have h9:=hS i ((k:Int)-1).toNat;exact Ch hg om om om om om)),⟨⟩⟩ Ks [] ro) (λ p4 Z5=>.W 3 (k-1-1)<|.V 1 12 (zI (k-1-1)) (zI ((↑(k-1):Int)-1)) oN<|Hn.next ZB ⟨(k-1),om,(c-1),(d),(l),om,om,om,(by(have h8:ba b (i:Int).toNat ((k:Int)-1).toNat 258=ba b i ((k:Int)-1).toNat 258:=rfl;have h9:=hS i ((k:Int)-1).toNat;exact Ci hg om om om om om)),⟨⟩⟩ Ks [] ro))) (λ p2 Z7=>.val 10 (zI d) (zI (V2 (bestG b i size i chain 0 0))) Kt<|.val 11 (zI l) (zI (VM (bestG b i size i chain 0 0))) Ku<|Hn.last ZD 0 (():Unit) rfl [] ro)) (λ p1 Z8=>.V 4 10 (zI d) (zI (V2 (bestG b i size i chain 0 0))) Kt<|.val 11 (zI l) (zI (VM (bestG b i size i chain 0 0))) Ku<|Hn.last ZD 0 (():Unit) rfl [] ro)) (λ p0 Z9=>.V 16 10 (zI d) (zI (V2 (bestG b i size i chain 0 0))) Kt<|.val 11 (zI l) (zI (VM (bestG b i size i chain 0 0))) Ku<|Hn.last ZD 0 (():Unit) rfl [] ro)) (fun|⟨k,hk,c,d,l,hc2,hd,hl,hg,_⟩=>by kernel_rfl) ⟨(i),om,(chain),(0),(0),om,om,om,wr,⟨⟩⟩ [] ro (bM (fun|()=>.Y 4 [] [] (WL [zI (V2 (bestG b i size i chain 0 0)),zI (VM (bestG b i size i chain 0 0))]) [] ok))) kr
theorem BestX (b:Z4)(n:Nat)(x size chain:Int)(hn:n=b.length)(hN:n<=1000000)(hx:0<=x∧x<=n)(hs:1<=size∧size<=32768)(hc:0<=chain∧chain<=256):S0 97 [.sl false n 1 (b.map dB),iD x,iD size,iD chain] [] (.tup [iD (bestG b x.toNat size x.toNat chain 0 0).1,iD (bestG b x.toNat size x.toNat chain 0 0).2]) []:=by
 obtain⟨i,rfl⟩:=WM hx.1;exact TH b n i size chain hn hN om hs hc
def um (n:Nat)(x size chain:Int):Prop:=x<0∨(n:Int)<x∨size<1∨32768<size∨chain<0∨256<chain
instance (n:Nat) (x size chain:Int):Decidable (um n x size chain):=by unfold um;infer_instance
def ey (b:Z4)(n:Nat)(x size chain:Int):Int:=if 131072<n then 4 else if um n x size chain then 2 else if(bestG b x.toNat size x.toNat chain 0 0).2=0 then 6 else 0
def qp (b:Z4)(n:Nat)(x size chain:Int):Int:=if ey b n x size chain=0 then(bestG b x.toNat size x.toNat chain 0 0).1 else 0
def mq (b:Z4)(n:Nat)(x size chain:Int):Int:=if ey b n x size chain=0 then(bestG b x.toNat size x.toNat chain 0 0).2 else 0
abbrev jN (b:Z4)(n:Nat)(x size chain:Int):D:=.tup [iD (qp b n x size chain),iD (mq b n x size chain),iD (ey b n x size chain)]
theorem rN {b:Z4}{n:Nat}{x size chain e:Int}(h:ey b n x size chain=e)(he:e≠0):WL [iD 0,iD 0,iD e]=jN b n x size chain:=by
 have h2:¬ey b n x size chain=0:=λ q=>he (h.symm.trans q)
 unfold jN qp mq;rw[ZE h2,ZE h2,h]
theorem Kv {b:Z4}{n:Nat}{x size chain:Int}(h:131072<n):WL [iD 0,iD 0,iD 4]=jN b n x size chain:=rN (ZF h) (by decide)
theorem Kw {b:Z4}{n:Nat}{x size chain:Int}(h:n<=131072)(h2:x<0∨(n:Int)<x∨size<1∨32768<size∨chain<0∨256<chain):WL [iD 0,iD 0,iD 2]=jN b n x size chain:=rN (by rw[ey,ZE om,ZF (show um n x size chain from h2)]) (by decide)
theorem wc {b:Z4}{n:Nat}{x size chain:Int}(h:n<=131072)(h2:¬(x<0∨(n:Int)<x∨size<1∨32768<size∨chain<0∨256<chain))(h3:(bestG b x.toNat size x.toNat chain 0 0).2=0):WL [iD 0,iD 0,iD 6]=jN b n x size chain:=rN (by rw[ey,ZE om,ZE (show¬um n x size chain from h2),ZF h3]) (by decide)
theorem Cj {b:Z4}{n:Nat}{x size chain:Int}(h:n<=131072)(h2:¬(x<0∨(n:Int)<x∨size<1∨32768<size∨chain<0∨256<chain))(h3:¬(bestG b x.toNat size x.toNat chain 0 0).2=0):WL [iD (bestG b x.toNat size x.toNat chain 0 0).1,iD (bestG b x.toNat size x.toNat chain 0 0).2,iD 0]=jN b n x size chain:=by
 have e:ey b n x size chain=0:=by rw[ey,ZE om,ZE (show¬um n x size chain from h2),ZE h3]
 unfold jN qp mq;rw[ZF e,ZF e,e]
theorem gP (s p:Z4):∀k:Nat,-1<=az s p k∧az s p k<k
 |0=>by unfold az;decide
 |k+1=>by
  have:=gP s p k;unfold az
  split<;>omega
theorem un (s p:Z4):∀k:Nat,az s p k<0->∀j,j<k->(s.drop j).take 3≠p
 |0,_,j,h=>absurd h (Xi j)
 |k+1,h,j,hj=>by
  unfold az at h
  split at h
  ·omega
  ·next e=>exact if q:j=k then q▸e else un s p k h j om
theorem uo (s p:Z4):∀k:Nat,0<=az s p k->(s.drop (az s p k).toNat).take 3=p∧∀j:Nat,az s p k<j->j<k->(s.drop j).take 3≠p
 |0,h=>absurd h (by unfold az;decide)
 |k+1,h=>by
  unfold az at h ⊢
  split at h
  ·next e=>
   rw[ZF e];exact⟨e,λ j h1 h2=>by omega⟩
  ·next e=>
   rw[ZE e];have:=uo s p k h;exact⟨this.1,λ j h1 h2=>if q:j=k then q▸e else this.2 j h1 om⟩
theorem Ii (b:Z4)(i:Nat)(h:i+3<=b.length):(b.drop i).take 3=[b.getD i lh,b.getD (i+1) lh,b.getD (i+2) lh]:=by
 have g:∀j,j<3->b[i+j]? =some (b.getD (i+j) lh):=λ j hj=>by
  rw[VH,VG om];rfl
 apply WD;intro j;rw[WA]
 split
 ·next hj=>
  rw[WR,g j hj]
  match j,hj with
  |0,_=>rfl
  |1,_=>rfl
  |2,_=>rfl
 ·next hj=>
  rw[Wh (by simp;omega)]
theorem Kx {b:Z4}{i j k:Nat}(hi:i+3<=b.length)(hj:j<i):3<=ba b i j (k+1+1+1)↔(b.drop j).take 3=(b.drop i).take 3:=by
 rw[Ii b i hi,Ii b j om];simp only[ba,List.cons.injEq,and_true];constructor
 ·intro h
  split at h
  ·next e1=>
   split at h
   ·next e2=>
    split at h
    ·next e3=>exact⟨e1.2,e2.2,e3.2⟩
    ·omega
   ·omega
  ·omega
 ·rintro⟨e1,e2,e3⟩
  rw[ZF ⟨by omega,e1⟩,ZF ⟨by omega,e2⟩,ZF ⟨by omega,e3⟩];omega
theorem Ck {b:Z4}{i j:Nat}(hi:i+3<=b.length)(hj:j<i):3<=ba b i j 258↔(b.drop j).take 3=(b.drop i).take 3:=Kx (k:=255) hi hj
theorem Cl {b:Z4}{i:Nat}{size d l c:Int}(hc:¬0<c):∀k,bestG b i size k c d l=(d,l)
 |0=>rfl
 |k+1=>by rw[bestG,ZE (λ h=>hc h.2)]
theorem lJ {b:Z4}{i m:Nat}{size c d l:Int}(hs:(i:Int)-m<=size)(hc:0<c):∀k,m<=k->(∀j,m<=j->j<k->ba b i j 258<3)->bestG b i size k c d l=bestG b i size m c d l
 |0,h,_=>by rw[show m=0 from by omega]
 |k+1,h,hj=>by
  by_cases q:m=k+1
  ·rw[q]
  ·rw[bestG,ZF ⟨by omega,hc⟩,ZF (hj k om om)]
   exact lJ hs hc k om λ j h1 h2=>hj j h1 om
theorem zP {b:Z4}{i m k:Nat}{size c d l:Int}(hm:(m:Int)=max 0 ((i:Int)-size))(hk:m<=k)(hj:∀j,m<=j->j<k->ba b i j 258<3):bestG b i size k c d l=(d,l):=by
 by_cases hc:0<c
 ·rw[lJ (m:=m) om hc k hk hj]
  cases m with
  |zero=>rfl
  |succ m=>rw[bestG,ZE om]
 ·exact Cl hc k
theorem zQ {b:Z4}{i k:Nat}{size d l:Int}(h:(b.length:Int)<(i:Int)+3):∀c,bestG b i size k c d l=(d,l):=by
 have g:∀j,ba b i j 258<3:=λ j=>by
  by_cases hi:i<=b.length
  ·have:=kR b 258 i j hi;omega
  ·rw[show(258:Nat)=257+1 from rfl,ba,ZE (λ e=>by have:=e.1;omega)];decide
 intro c
 induction k with
 |zero=>rfl
 |succ k ih=>
  rw[bestG]
  split
  ·rw[ZF (g k)];exact ih
  ·rfl
theorem Cm (b:Z4){low m j:Nat}(h:j+3<=m):((((b.drop low).take m).drop j).take 3)=(b.drop (low+j)).take 3:=by
 rw[List.drop_take,List.take_take,List.drop_drop,Nat.min_eq_left om]
theorem TJ {b:Z4}{i k low m:Nat}{size c d l:Int}{a:Int×Int}(hg:a=bestG b i size k c d l)(hlow:(low:Int)=max 0 ((i:Int)-size))(hk:low<=k)(hki:k<=i)(hi:i+3<=b.length)(hm:m=k+2-low)(h:az ((b.drop low).take m) ((b.drop i).take 3) (m-2)<0):a=(d,l):=by
 rw[hg];refine zP hlow hk λ j h1 h2=>?_
 have e:=un _ _ _ h (j-low) om;rw[Cm b om,show low+(j-low)=j from by omega]at e;have:¬3<=ba b i j 258:=λ q=>e ((Ck hi (show j<i by omega)).1 q)
 omega
theorem TK {b:Z4}{i k low m f:Nat}{r size c d l:Int}{a:Int×Int}(hg:a=bestG b i size k c d l)(hlow:(low:Int)=max 0 ((i:Int)-size))(hk:low<=k)(hki:k<=i)(hi:i+3<=b.length)(hm:m=k+2-low)(hr:r=az ((b.drop low).take m) ((b.drop i).take 3) (m-2))(h:0<=r)(hc:0<c)(hf:(f:Int)=low+r):
  a=if l<ba b i f 258 then bestG b i size f (c-1) ((i:Int)-f) (ba b i f 258:Nat)else bestG b i size f (c-1) d l:=by
 have hb:=gP ((b.drop low).take m) ((b.drop i).take 3) (m-2);have hp:=uo ((b.drop low).take m) ((b.drop i).take 3) (m-2) (hr▸h);rw[<-hr]at hb hp;have e1:=hp.1;rw[Cm b om,show low+r.toNat=f from by omega]at e1;have s1:=(Ck hi (show f<i by omega)).2 e1;rw[hg,lJ (m:=f+1) om hc k om (λ j h1 h2=>?_),bestG,ZF ⟨by omega,hc⟩,ZE om];have e:=hp.2 (j-low) om om;rw[Cm b om,show low+(j-low)=j from by omega]at e;have:¬3<=ba b i j 258:=λ q=>e ((Ck hi (show j<i by omega)).1 q)
 omega
theorem lastIxX (s p:Z4)(n m:Nat)(hn:n=s.length)(hp:p.length=m)(hm:m=3)(h4:n<=1000000):S0 179 [.sl false n 1 (s.map dB),.sl false m 1 (p.map dB)] [] (iD (az s p (n-2))) []:=by
 subst hm;exact Kr s p n hn hp h4
theorem FA {x y:Int}{t:TypeId}{r:Bool}(h:x=y):(⟨[D.v (.int .i64 x)],t,r⟩:Blk)=⟨[D.v (.int .i64 y)],t,r⟩:=by rw[h]
abbrev LA (b:Z4)(q size:Int)(k:Nat):Int:=az (Ws (((k:Int)+2).toNat-(max 0 (q-size)).toNat) (Wx (max 0 (q-size)).toNat b)) (Ws ((q+3).toNat-q.toNat) (Wx q.toNat b)) (((k:Int)+2).toNat-(max 0 (q-size)).toNat-2)
theorem Ij {b:Z4}{n k:Nat}{q size c d l:Int}{a:Int×Int}(hn:n=b.length)(h7:q+3<=n)(h1:0<=q)(h3:1<=size)(hlow:max 0 (q-size)<=(k:Int))(hk:k<=q.toNat)(hg:a=bestG b q.toNat size k c d l)(h:LA b q size k<0):a=(d,l):=by
 unfold LA at h;rw[show(q+3).toNat-q.toNat=3 from by omega]at h;exact TJ hg (low:=(max 0 (q-size)).toNat) (m:=((k:Int)+2).toNat-(max 0 (q-size)).toNat) om om om om om h
theorem Ik {b:Z4}{k:Nat}{q size c d l:Int}{a:Int×Int}(hg:a=bestG b q.toNat size k c d l)(h:¬0<c):a=(d,l):=hg.trans (Cl h k)
theorem Il {b:Z4}{n k:Nat}{q size c d l:Int}{a:Int×Int}(hn:n=b.length)(h7:q+3<=n)(h1:0<=q)(h3:1<=size)(hlow:max 0 (q-size)<=(k:Int))(hk:k<=q.toNat)(hg:a=bestG b q.toNat size k c d l)(h:0<=LA b q size k)(hc:0<c):
  a=if l<ba b q.toNat (max 0 (q-size)+LA b q size k).toNat 258 then bestG b q.toNat size (max 0 (q-size)+LA b q size k).toNat (c-1) (q-(max 0 (q-size)+LA b q size k)) (ba b q.toNat (max 0 (q-size)+LA b q size k).toNat 258:Nat)else bestG b q.toNat size (max 0 (q-size)+LA b q size k).toNat (c-1) d l:=by
 have e3:(q+3).toNat-q.toNat=3:=by omega
 have h0:=h;unfold LA at h0;rw[e3]at h0;have key:=TK hg (low:=(max 0 (q-size)).toNat) (m:=((k:Int)+2).toNat-(max 0 (q-size)).toNat) (f:=(max 0 (q-size)+LA b q size k).toNat) (r:=LA b q size k) om om om om om (by unfold LA;rw[e3]) h hc om;rw[show((q.toNat:Nat):Int)-((max 0 (q-size)+LA b q size k).toNat:Nat)=q-(max 0 (q-size)+LA b q size k)from by omega]at key;exact key
theorem FB {b:Z4}{n k:Nat}{q size c d l:Int}{a:Int×Int}(hn:n=b.length)(h7:q+3<=n)(h1:0<=q)(h3:1<=size)(hlow:max 0 (q-size)<=(k:Int))(hk:k<=q.toNat)(hg:a=bestG b q.toNat size k c d l)(h:0<=(az (Ws (((k:Int)+2).toNat-(max 0 (q-size)).toNat) (Wx (max 0 (q-size)).toNat b)) (Ws ((q+3).toNat-q.toNat) (Wx q.toNat b)) (((k:Int)+2).toNat-(max 0 (q-size)).toNat-2)))(hc:0<c)(hl:l<(ba b q.toNat (max 0 (q-size)+(az (Ws (((k:Int)+2).toNat-(max 0 (q-size)).toNat) (Wx (max 0 (q-size)).toNat b)) (Ws ((q+3).toNat-q.toNat) (Wx q.toNat b)) (((k:Int)+2).toNat-(max 0 (q-size)).toNat-2))).toNat 258:Nat)):
  a=bestG b q.toNat size (max 0 (q-size)+(az (Ws (((k:Int)+2).toNat-(max 0 (q-size)).toNat) (Wx (max 0 (q-size)).toNat b)) (Ws ((q+3).toNat-q.toNat) (Wx q.toNat b)) (((k:Int)+2).toNat-(max 0 (q-size)).toNat-2))).toNat (c-1) (q-(max 0 (q-size)+(az (Ws (((k:Int)+2).toNat-(max 0 (q-size)).toNat) (Wx (max 0 (q-size)).toNat b)) (Ws ((q+3).toNat-q.toNat) (Wx q.toNat b)) (((k:Int)+2).toNat-(max 0 (q-size)).toNat-2)))) (ba b q.toNat (max 0 (q-size)+(az (Ws (((k:Int)+2).toNat-(max 0 (q-size)).toNat) (Wx (max 0 (q-size)).toNat b)) (Ws ((q+3).toNat-q.toNat) (Wx q.toNat b)) (((k:Int)+2).toNat-(max 0 (q-size)).toNat-2))).toNat 258:Nat):=by
 rw[Il hn h7 h1 h3 hlow hk hg h hc,ZF hl]
theorem FC {b:Z4}{n k:Nat}{q size c d l:Int}{a:Int×Int}(hn:n=b.length)(h7:q+3<=n)(h1:0<=q)(h3:1<=size)(hlow:max 0 (q-size)<=(k:Int))(hk:k<=q.toNat)(hg:a=bestG b q.toNat size k c d l)(h:0<=(az (Ws (((k:Int)+2).toNat-(max 0 (q-size)).toNat) (Wx (max 0 (q-size)).toNat b)) (Ws ((q+3).toNat-q.toNat) (Wx q.toNat b)) (((k:Int)+2).toNat-(max 0 (q-size)).toNat-2)))(hc:0<c)(hl:¬l<(ba b q.toNat (max 0 (q-size)+(az (Ws (((k:Int)+2).toNat-(max 0 (q-size)).toNat) (Wx (max 0 (q-size)).toNat b)) (Ws ((q+3).toNat-q.toNat) (Wx q.toNat b)) (((k:Int)+2).toNat-(max 0 (q-size)).toNat-2))).toNat 258:Nat)):
  a=bestG b q.toNat size (max 0 (q-size)+(az (Ws (((k:Int)+2).toNat-(max 0 (q-size)).toNat) (Wx (max 0 (q-size)).toNat b)) (Ws ((q+3).toNat-q.toNat) (Wx q.toNat b)) (((k:Int)+2).toNat-(max 0 (q-size)).toNat-2))).toNat (c-1) d l:=by
 rw[Il hn h7 h1 h3 hlow hk hg h hc,ZE hl]
theorem TL (b:Z4)(n:Nat)(q size chain:Int)(hn:n=b.length)(hN:n<=1000000)(hx:-9223372036854775808<=q∧q<=9223372036854775807)(hs:-9223372036854775808<=size∧size<=9223372036854775807)(hc:-9223372036854775808<=chain∧chain<=9223372036854775807):S0 117 [.sl false n 1 (b.map dB),iD q,iD size,iD chain] [] (jN b n q size chain) []:=SpR Tryz.func117 rfl rfl rfl trivial rfl 1000 64 (λ R ok=>.B 24 (131072<(n:Int)) (λ p0 Z9=>.U 18 [] [] (WL [zI 0,zI 0,zI 4]) [] R (ok _ _ (by(exact Kv (by(omega)))) wr)) (λ p0 Z9=>.B 5 (q<0) (λ p1 Z8=>.U 26 [] [] (WL [zI 0,zI 0,zI 2]) [] R (ok _ _ zM wr)) (λ p1 Z8=>.B 8 ((n:Int)<q) (λ p2 Z7=>.U 18 [] [] (WL [zI 0,zI 0,zI 2]) [] R (ok _ _ zM wr)) (λ p2 Z7=>.B 11 (size<1) (λ p3 Z6=>.U 27 [] [] (WL [zI 0,zI 0,zI 2]) [] R (ok _ _ zM wr)) (λ p3 Z6=>.B 6 (32768<size) (λ p4 Z5=>.U 21 [] [] (WL [zI 0,zI 0,zI 2]) [] R (ok _ _ zM wr)) (λ p4 Z5=>.B 8 (chain<0) (λ p5 p5f=>.U 15 [] [] (WL [zI 0,zI 0,zI 2]) [] R (ok _ _ zM wr)) (λ p5 p5f=>.B 6 (256<chain) (λ p6 p6f=>.U 11 [] [] (WL [zI 0,zI 0,zI 2]) [] R (ok _ _ zM wr)) (λ p6 p6f=>.W 23 (q+3)<|.B 6 ((n:Int)<q+3) (λ p7 p7f=>.U 17 [] [] (WL [zI 0,zI 0,zI 6]) [] R (ok _ _ (by(exact wc (by(omega)) (by(omega)) (by rw[zQ (by(omega))]))) wr)) (λ p7 p7f=>.W 11 (q+3)<|.K 1 (aT (some q) (some (q+3)) none n&&true) (by(simp <;>(omega)))<|.W 9 (q-size)<|.O 1 (iE VV true 0 (q-size)) (zI (max 0 (q-size))) (gJ _ _ _)<|.W 6 (q-1)<|.W 2 (q-1+3)<|.V 1 7 (zI (q-1+3)) (zI ((↑(zq q):Int)+2)) oN<|Hn.inl T_ok ah false 47 456 (aq Tryz.prog 178 0) (λ(x:(k:Nat)×'(hk:k<=q.toNat)×'(c:Int)×'(d:Int)×'(l:Int)×'(hc2:0<=c∧c<=256)×'(hd:0<=d∧d<=1000000)×'(hl:0<=l∧l<=258)×'(hlow:max 0 (q-size)<=(k:Int))×'(hg:bestG b q.toNat size q.toNat chain 0 0=bestG b q.toNat size k c d l)×'Unit)=>match x with|⟨k,hk,c,d,l,hc2,hd,hl,hlow,hg,_⟩=>VZ [(0,D.yl 448 448),(2,V7 368 368 0),(5,V3 false (zq (q+3)-zq q) 1 (take ((zq (q+3)-zq q)*1) (drop (zq q*1) (map dB b)))),(6,zI (max 0 (q-size))),(7,iD ((k:Int)+2))] [⟨0,0,0,0,.b ⟨[V3 false n 1 (map dB b)],24,false⟩⟩,⟨8,8,8,8,.b ⟨[zI q],3,false⟩⟩,⟨16,16,16,16,.b ⟨[iD c],3,false⟩⟩,⟨24,24,24,24,.b ⟨[iD d],3,false⟩⟩,⟨32,32,32,32,.b ⟨[iD l],3,false⟩⟩,⟨368,368,368,368,.b ⟨[V3 false n 1 (map dB b)],24,false⟩⟩,⟨376,376,376,376,.b ⟨[zI q],3,false⟩⟩,⟨384,384,384,384,.b ⟨[zI size],3,false⟩⟩,⟨448,448,448,448,.l Yw none (rangeAt Tryz.prog 117 0).1 (rangeAt Tryz.prog 117 0).2.1 (rangeAt Tryz.prog 117 0).2.2 58 [(0,V3 false n 1 (map dB b)),(1,zI q),(3,zI chain),(7,V7 16 16 0),(15,zI q),(31,zI chain),(23,zI size),(11,zI 0),(35,zI q),(27,zI chain),(5,V7 8 8 0),(9,V7 32 32 0),(17,zI 0),(33,D.v (.bool false)),(25,D.v (.bool (decide (32768<size)))),(21,D.v (.bool (decide (size<1)))),(37,XG (WG 178) [] [V7 376 376 0,V7 368 368 0,V7 384 384 0]),(29,D.v (.bool (decide (chain<0)))),(2,zI size),(4,V7 0 0 0),(8,V7 24 24 0),(16,zI 0),(32,D.v (.bool (decide (256<chain)))),(24,D.v (.bool (decide (32768<size)))),(20,zI size),(36,zI size),(28,D.v (.bool (decide (chain<0)))),(10,zI 0),(18,D.v (.bool false)),(34,V3 false n 1 (map dB b)),(26,D.v (.bool false)),(14,V3 false n 1 (map dB b)),(22,D.v (.bool false)),(30,D.v (.bool false))]⟩] 528) (λ(x:(k:Nat)×'(hk:k<=q.toNat)×'(c:Int)×'(d:Int)×'(l:Int)×'(hc2:0<=c∧c<=256)×'(hd:0<=d∧d<=1000000)×'(hl:0<=l∧l<=258)×'(hlow:max 0 (q-size)<=(k:Int))×'(hg:bestG b q.toNat size q.toNat chain 0 0=bestG b q.toNat size k c d l)×'Unit)=>match x with|⟨k,hk,c,d,l,hc2,hd,hl,hlow,hg,_⟩=>k) [⟨Unit,.ret,λ x=>match x with|()=>VZ [] [⟨0,0,0,0,.b ⟨[V3 false n 1 (map dB b)],24,false⟩⟩,⟨8,8,8,8,.b ⟨[zI q],3,false⟩⟩,⟨24,24,24,24,.b ⟨[iD (bestG b q.toNat size q.toNat chain 0 0).1],3,false⟩⟩,⟨32,32,32,32,.b ⟨[iD (bestG b q.toNat size q.toNat chain 0 0).2],3,false⟩⟩,⟨368,368,368,368,.b ⟨[V3 false n 1 (map dB b)],24,false⟩⟩,⟨376,376,376,376,.b ⟨[zI q],3,false⟩⟩,⟨384,384,384,384,.b ⟨[zI size],3,false⟩⟩,⟨448,448,448,448,.l Yw none (rangeAt Tryz.prog 117 0).1 (rangeAt Tryz.prog 117 0).2.1 (rangeAt Tryz.prog 117 0).2.2 58 [(0,V3 false n 1 (map dB b)),(1,zI q),(3,zI chain),(7,V7 16 16 0),(15,zI q),(31,zI chain),(23,zI size),(11,zI 0),(35,zI q),(27,zI chain),(5,V7 8 8 0),(9,V7 32 32 0),(17,zI 0),(33,D.v (.bool false)),(25,D.v (.bool (decide (32768<size)))),(21,D.v (.bool (decide (size<1)))),(37,XG (WG 178) [] [V7 376 376 0,V7 368 368 0,V7 384 384 0]),(29,D.v (.bool (decide (chain<0)))),(2,zI size),(4,V7 0 0 0),(8,V7 24 24 0),(16,zI 0),(32,D.v (.bool (decide (256<chain)))),(24,D.v (.bool (decide (32768<size)))),(20,zI size),(36,zI size),(28,D.v (.bool (decide (chain<0)))),(10,zI 0),(18,D.v (.bool false)),(34,V3 false n 1 (map dB b)),(26,D.v (.bool false)),(14,V3 false n 1 (map dB b)),(22,D.v (.bool false)),(30,D.v (.bool false))]⟩] 528⟩,⟨Unit,.ret,λ x=>match x with|()=>VZ [] [⟨0,0,0,0,.b ⟨[V3 false n 1 (map dB b)],24,false⟩⟩,⟨8,8,8,8,.b ⟨[zI q],3,false⟩⟩,⟨24,24,24,24,.b ⟨[iD (bestG b q.toNat size q.toNat chain 0 0).1],3,false⟩⟩,⟨32,32,32,32,.b ⟨[iD (bestG b q.toNat size q.toNat chain 0 0).2],3,false⟩⟩,⟨368,368,368,368,.b ⟨[V3 false n 1 (map dB b)],24,false⟩⟩,⟨376,376,376,376,.b ⟨[zI q],3,false⟩⟩,⟨384,384,384,384,.b ⟨[zI size],3,false⟩⟩,⟨448,448,448,448,.l LoopState.done (some (Code.exit 0)) (rangeAt Tryz.prog 117 0).1 (rangeAt Tryz.prog 117 0).2.1 (rangeAt Tryz.prog 117 0).2.2 58 [(0,V3 false n 1 (map dB b)),(1,zI q),(3,zI chain),(7,V7 16 16 0),(15,zI q),(31,zI chain),(23,zI size),(11,zI 0),(35,zI q),(27,zI chain),(5,V7 8 8 0),(9,V7 32 32 0),(17,zI 0),(33,D.v (.bool false)),(25,D.v (.bool (decide (32768<size)))),(21,D.v (.bool (decide (size<1)))),(37,XG (WG 178) [] [V7 376 376 0,V7 368 368 0,V7 384 384 0]),(29,D.v (.bool (decide (chain<0)))),(2,zI size),(4,V7 0 0 0),(8,V7 24 24 0),(16,zI 0),(32,D.v (.bool (decide (256<chain)))),(24,D.v (.bool (decide (32768<size)))),(20,zI size),(36,zI size),(28,D.v (.bool (decide (chain<0)))),(10,zI 0),(18,D.v (.bool false)),(34,V3 false n 1 (map dB b)),(26,D.v (.bool false)),(14,V3 false n 1 (map dB b)),(22,D.v (.bool false)),(30,D.v (.bool false))]⟩] 528⟩] 1000 64 (fun|⟨k,hk,c,d,l,hc2,hd,hl,hlow,hg,_⟩,Q,ZB,ZD=>.K 6 (aT (some (max 0 (q-size))) (some ((k:Int)+2)) none n&&true) (by(simp;have h9:=gP (take (((k:Int)+2).toNat-(max 0 (q-size)).toNat) (drop (max 0 (q-size)).toNat b)) (take ((q+3).toNat-q.toNat) (drop q.toNat b)) (((k:Int)+2).toNat-(max 0 (q-size)).toNat-2);omega))<|.L 2 179 false [] (true) wr ([V3 false (zq ((k:Int)+2)-zq (max 0 (q-size))) 1 (take ((zq ((k:Int)+2)-zq (max 0 (q-size)))*1) (drop (zq (max 0 (q-size))*1) (map dB b))),V3 false (zq (q+3)-zq q) 1 (take ((zq (q+3)-zq q)*1) (drop (zq q*1) (map dB b)))]) (by exact(V4 (D.sim.slw rfl (by(simp;done))) (V4 (D.sim.slw rfl (by(simp;done))) trivial))) (V0 (ao.of Tryz.func179 rfl rfl) (@Go.Proofs.YtefjnofhgkjpmaaGreat.Vm.lastIxX (take (zq ((k:Int)+2)-zq (max 0 (q-size))) (drop (zq (max 0 (q-size))) b)) (take (zq (q+3)-zq q) (drop (zq q) b)) (zq ((k:Int)+2)-zq (max 0 (q-size))) (zq (q+3)-zq q) (by(simp only[VW,Wr];(omega))) (by(simp only[VW,Wr];(omega))) om om))<|.B 6 (az (take (zq ((k:Int)+2)-zq (max 0 (q-size))) (drop (zq (max 0 (q-size))) b)) (take (zq (q+3)-zq q) (drop (zq q) b)) (zq ((k:Int)+2)-zq (max 0 (q-size))-2)<0) (λ p8 p8f=>.M 12 24 24 (VF [zI d] 3 false) (VF [zI (V2 (bestG b (zq q) size (zq q) chain 0 0))] 3 false) (by(exact FA (wa (Ij hn (by(omega)) (by(omega)) (by(omega)) hlow hk hg (by(omega))))))<|.blk 32 32 (VF [zI l] 3 false) (VF [zI (VM (bestG b (zq q) size (zq q) chain 0 0))] 3 false) (by(exact FA (wb (Ij hn (by(omega)) (by(omega)) (by(omega)) hlow hk hg (by(omega))))))<|Hn.last ZD 0 (():Unit) rfl [(0,0),(8,8),(24,24),(32,32),(368,368),(376,376),(384,384),(448,448)] ro) (λ p8 p8f=>.I 7 (max 0 (q-size)+az (take (zq ((k:Int)+2)-zq (max 0 (q-size))) (drop (zq (max 0 (q-size))) b)) (take (zq (q+3)-zq q) (drop (zq q) b)) (zq ((k:Int)+2)-zq (max 0 (q-size))-2)) mJ<|.R 8 (c==0) (λ p9=>have p9f:=eq_of_beq p9;.M 4 24 24 (VF [zI d] 3 false) (VF [zI (V2 (bestG b (zq q) size (zq q) chain 0 0))] 3 false) (by(exact FA (wa (Ik hg (by(omega))))))<|.blk 32 32 (VF [zI l] 3 false) (VF [zI (VM (bestG b (zq q) size (zq q) chain 0 0))] 3 false) (by(exact FA (wb (Ik hg (by(omega))))))<|Hn.last ZD 1 (():Unit) rfl [(0,0),(8,8),(24,24),(32,32),(368,368),(376,376),(384,384),(448,448)] ro) (λ p9=>have p9f:=ap p9;.W 5 (c-1)<|.C 11 155 false [] (.fn Sp (@Go.Proofs.YtefjnofhgkjpmaaGreat.Vm.longX (b) (n) (q) (max 0 (q-size)+az (take (zq ((k:Int)+2)-zq (max 0 (q-size))) (drop (zq (max 0 (q-size))) b)) (take (zq (q+3)-zq q) (drop (zq q) b)) (zq ((k:Int)+2)-zq (max 0 (q-size))-2)) om om om om mJ))<|.B 7 (l<(↑(ba b (zq q) (zq (max 0 (q-size)+az (take (zq ((k:Int)+2)-zq (max 0 (q-size))) (drop (zq (max 0 (q-size))) b)) (take (zq (q+3)-zq q) (drop (zq q) b)) (zq ((k:Int)+2)-zq (max 0 (q-size))-2))) 258):Int)) (λ p10 p10f=>.I 6 (q-(max 0 (q-size)+az (take (zq ((k:Int)+2)-zq (max 0 (q-size))) (drop (zq (max 0 (q-size))) b)) (take (zq (q+3)-zq q) (drop (zq q) b)) (zq ((k:Int)+2)-zq (max 0 (q-size))-2))) mJ<|.I 15 (max 0 (q-size)+az (take (zq ((k:Int)+2)-zq (max 0 (q-size))) (drop (zq (max 0 (q-size))) b)) (take (zq (q+3)-zq q) (drop (zq q) b)) (zq ((k:Int)+2)-zq (max 0 (q-size))-2)) mJ<|.I 2 (max 0 (q-size)+az (take (zq ((k:Int)+2)-zq (max 0 (q-size))) (drop (zq (max 0 (q-size))) b)) (take (zq (q+3)-zq q) (drop (zq q) b)) (zq ((k:Int)+2)-zq (max 0 (q-size))-2)+3) mJ<|.I 2 (max 0 (q-size)+az (take (zq ((k:Int)+2)-zq (max 0 (q-size))) (drop (zq (max 0 (q-size))) b)) (take (zq (q+3)-zq q) (drop (zq q) b)) (zq ((k:Int)+2)-zq (max 0 (q-size))-2)+3-1) mJ<|.V 1 7 (zI (max 0 (q-size)+az (take (zq ((k:Int)+2)-zq (max 0 (q-size))) (drop (zq (max 0 (q-size))) b)) (take (zq (q+3)-zq q) (drop (zq q) b)) (zq ((k:Int)+2)-zq (max 0 (q-size))-2)+3-1)) (zI ((↑(zq (max 0 (q-size)+az (take (zq ((k:Int)+2)-zq (max 0 (q-size))) (drop (zq (max 0 (q-size))) b)) (take (zq (q+3)-zq q) (drop (zq q) b)) (zq ((k:Int)+2)-zq (max 0 (q-size))-2))):Int)+2)) oN<|Hn.next ZB ⟨((max 0 (q-size)+(az (take (((k:Int)+2).toNat-(max 0 (q-size)).toNat) (drop (max 0 (q-size)).toNat b)) (take ((q+3).toNat-q.toNat) (drop q.toNat b)) (((k:Int)+2).toNat-(max 0 (q-size)).toNat-2))).toNat),mJ,(c-1),(q-(max 0 (q-size)+(az (take (((k:Int)+2).toNat-(max 0 (q-size)).toNat) (drop (max 0 (q-size)).toNat b)) (take ((q+3).toNat-q.toNat) (drop q.toNat b)) (((k:Int)+2).toNat-(max 0 (q-size)).toNat-2)))),(((ba b q.toNat (max 0 (q-size)+(az (take (((k:Int)+2).toNat-(max 0 (q-size)).toNat) (drop (max 0 (q-size)).toNat b)) (take ((q+3).toNat-q.toNat) (drop q.toNat b)) (((k:Int)+2).toNat-(max 0 (q-size)).toNat-2))).toNat 258:Nat):Int)),om,mJ,(by(exact⟨Int.natCast_nonneg _,Int.ofNat_le.2 (kS _ _ _)⟩)),om,(by(exact FB hn (by(omega)) (by(omega)) (by(omega)) hlow hk hg (by(omega)) (by(omega)) (by(omega)))),⟨⟩⟩ O2 [(0,0),(8,8),(16,16),(24,24),(32,32),(368,368),(376,376),(384,384),(448,448)] ro) (λ p10 p10f=>.I 8 (max 0 (q-size)+az (take (zq ((k:Int)+2)-zq (max 0 (q-size))) (drop (zq (max 0 (q-size))) b)) (take (zq (q+3)-zq q) (drop (zq q) b)) (zq ((k:Int)+2)-zq (max 0 (q-size))-2)) mJ<|.I 2 (max 0 (q-size)+az (take (zq ((k:Int)+2)-zq (max 0 (q-size))) (drop (zq (max 0 (q-size))) b)) (take (zq (q+3)-zq q) (drop (zq q) b)) (zq ((k:Int)+2)-zq (max 0 (q-size))-2)+3) mJ<|.I 2 (max 0 (q-size)+az (take (zq ((k:Int)+2)-zq (max 0 (q-size))) (drop (zq (max 0 (q-size))) b)) (take (zq (q+3)-zq q) (drop (zq q) b)) (zq ((k:Int)+2)-zq (max 0 (q-size))-2)+3-1) mJ<|.V 1 7 (zI (max 0 (q-size)+az (take (zq ((k:Int)+2)-zq (max 0 (q-size))) (drop (zq (max 0 (q-size))) b)) (take (zq (q+3)-zq q) (drop (zq q) b)) (zq ((k:Int)+2)-zq (max 0 (q-size))-2)+3-1)) (zI ((↑(zq (max 0 (q-size)+az (take (zq ((k:Int)+2)-zq (max 0 (q-size))) (drop (zq (max 0 (q-size))) b)) (take (zq (q+3)-zq q) (drop (zq q) b)) (zq ((k:Int)+2)-zq (max 0 (q-size))-2))):Int)+2)) oN<|Hn.next ZB ⟨((max 0 (q-size)+(az (take (((k:Int)+2).toNat-(max 0 (q-size)).toNat) (drop (max 0 (q-size)).toNat b)) (take ((q+3).toNat-q.toNat) (drop q.toNat b)) (((k:Int)+2).toNat-(max 0 (q-size)).toNat-2))).toNat),mJ,(c-1),(d),(l),om,om,om,om,(by(exact FC hn (by(omega)) (by(omega)) (by(omega)) hlow hk hg (by(omega)) (by(omega)) (by(omega)))),⟨⟩⟩ O2 [(0,0),(8,8),(16,16),(24,24),(32,32),(368,368),(376,376),(384,384),(448,448)] ro)))) (fun|⟨k,hk,c,d,l,hc2,hd,hl,hlow,hg,_⟩=>by kernel_rfl) ⟨(q.toNat),om,(chain),(0),(0),om,om,om,om,wr,⟨⟩⟩ [(0,0),(8,8),(16,16),(24,24),(32,32),(368,368),(376,376),(384,384),(448,448)] ro (gw (fun|()=>.R 5 (VM (bestG b (zq q) size (zq q) chain 0 0)==0) (λ p11=>have p11f:=eq_of_beq p11;.U 11 [] [] (WL [zI 0,zI 0,zI 6]) [] R (ok _ _ (by(exact wc (by(omega)) (by(omega)) (eq_of_beq aO))) wr)) (λ p11=>have p11f:=ap p11;.U 18 [] [] (WL [zI (V2 (bestG b (zq q) size (zq q) chain 0 0)),zI (VM (bestG b (zq q) size (zq q) chain 0 0)),zI 0]) [] R (ok _ _ (by(exact Cj (by(omega)) (by(omega)) (ap aO))) wr))) (fun|()=>.R 5 (VM (bestG b (zq q) size (zq q) chain 0 0)==0) (λ p12=>have p12f:=eq_of_beq p12;.U 11 [] [] (WL [zI 0,zI 0,zI 6]) [] R (ok _ _ (by(exact wc (by(omega)) (by(omega)) (eq_of_beq aO))) wr)) (λ p12=>have p12f:=ap p12;.U 18 [] [] (WL [zI (V2 (bestG b (zq q) size (zq q) chain 0 0)),zI (VM (bestG b (zq q) size (zq q) chain 0 0)),zI 0]) [] R (ok _ _ (by(exact Cj (by(omega)) (by(omega)) (ap aO))) wr))))))))))))) kr
theorem i7 (b:Z4)(i:Nat)(size:Int):∀(k:Nat) (c d l:Int),bestG b i size k c d l=(d,l)∨∃j,j<k∧(bestG b i size k c d l).1=(i:Int)-(j:Int)∧(bestG b i size k c d l).2=(ba b i j 258:Nat)∧3<=ba b i j 258∧(i:Int)-(j:Int)<=size
 |0,c,d,l=>.inl rfl
 |k+1,c,d,l=>by
  have up:∀{c d l:Int},(∃j,j<k∧(bestG b i size k c d l).1=(i:Int)-(j:Int)∧(bestG b i size k c d l).2=(ba b i j 258:Nat)∧3<=ba b i j 258∧(i:Int)-(j:Int)<=size)->∃j,j<k+1∧(bestG b i size k c d l).1=(i:Int)-(j:Int)∧(bestG b i size k c d l).2=(ba b i j 258:Nat)∧3<=ba b i j 258∧(i:Int)-(j:Int)<=size:=fun⟨j,h1,h2⟩=>⟨j,by omega,h2⟩
  unfold bestG
  split
  ·next e=>
   split
   ·exact(i7 b i size k c d l).imp id up
   ·next e3=>
    split
    ·rcases i7 b i size k (c-1) ((i:Int)-k) (ba b i k 258:Nat)with h|h
     ·exact .inr ⟨k,by omega,by rw[h],by rw[h],by omega,e.1⟩
     ·exact .inr (up h)
    ·exact(i7 b i size k (c-1) d l).imp id up
  ·exact .inl rfl
theorem lK {b:Z4}{n:Nat}{x size chain:Int}(h:ey b n x size chain≠0):qp b n x size chain=0∧mq b n x size chain=0:=⟨ZE h,ZE h⟩
def yi (n:Nat)(q size chain:Int):Prop:=n<=131072∧0<=q∧q<=(n:Int)∧1<=size∧size<=32768∧0<=chain∧chain<=256
theorem qq {b:Z4}{n:Nat}{q size chain:Int}(h:yi n q size chain):(ey b n q size chain=0∨ey b n q size chain=6)∧mq b n q size chain=(bestG b q.toNat size q.toNat chain 0 0).2:=by
 unfold yi at h;have h2:¬um n q size chain:=by unfold um;omega
 have e:ey b n q size chain=if(bestG b q.toNat size q.toNat chain 0 0).2=0 then 6 else 0:=by rw[ey,ZE om,ZE h2]
 constructor
 ·rw[e];split<;>simp
 ·unfold mq
  by_cases h3:(bestG b q.toNat size q.toNat chain 0 0).2=0
  ·rw[ZF h3]at e;rw[ZE (by rw[e];decide),h3]
  ·rw[ZE h3]at e;rw[ZF e]
end Vm
end Go.Proofs.YtefjnofhgkjpmaaGreat
namespace Go.Proofs.YtefjnofhgkjpmaaGreat
open Go.RowKit Go.Bw Go.Vx Vm
open List (length getD map take drop flatMap replicate)
namespace Vt
theorem pt {p:Prop}(h:p:=by(simp only[Ky];(repeat' (first|(refine aC ?_ ?_)|(with_reducible rfl)|(refine decide_eq_true ?_)|(refine VL ?_)|(refine dA ?_)))<;>(omega))):p:=h
theorem uq {p:Prop}(h:p:=by(refine decide_eq_false ?_;(omega))):p:=h
theorem ur {p:Prop}(h:p:=by(refine aG ?_;(omega))):p:=h
theorem ut {p:Prop}(h:p:=by(rw[VI,Wv];(omega))):p:=h
theorem uu {p:Prop}(h:p:=by(have h9:=best_bd b i size chain om;omega)):p:=h
theorem zR {p:Prop}(h:p:=by(refine GI ?_;rw[Bool.eq_iff_iff,mayS_iff];simp;omega)):p:=h
theorem zT {p:Prop}(h:p:=by(refine kx ?_;simp only[V5];rfl)):p:=h
theorem zU {p:Prop}(h:p:=by show n-(i+1)<n-i;clear ZB ZD;omega):p:=h
theorem Cn {p:Prop}(h:p:=by((refine aC ?_ ?_)<;>(repeat' (first|(refine aC ?_ ?_)|(with_reducible rfl)|(refine decide_eq_true ?_)|(refine VL ?_)|(refine dA ?_)))<;>(omega))):p:=h
theorem FD {p:Prop}(h:p:=by(rw[Cq om,WN]at hr;rw[hr])):p:=h
theorem Co {p:Prop}(h:p:=by(have h9:=best_bd b i size chain om;exact nl hr om (.inl om))):p:=h
theorem Im {p:Prop}(h:p:=by(refine aG ?_;have h9:=best_bd b i size chain om;omega)):p:=h
theorem In {p:Prop}(h:p:=by show n-(i+zq (VM (bestG b i size i chain 0 0)))<n-i;clear ZB ZD;(have h9:=best_bd b i size chain om;omega)):p:=h
theorem Io {p:Prop}(h:p:=by(refine decide_eq_true ?_;have h9:=best_bd b i size chain om;omega)):p:=h
theorem Ip {p:Prop}(h:p:=by show n-(i+zq (VM (bestG b i size i chain 0 0)))<n-i;clear ZB ZD;omega):p:=h
open Vm (bestG jN ey mq qp ba kS kR i7 qq yi lK)
def mayS (size chain most:Int):Bool:=decide (1<=size)&&decide (size<=32768)&&decide (0<=chain)&&decide (chain<=256)&&decide (1<=most)&&decide (most<=65535)
theorem mayS_iff {size chain most:Int}:mayS size chain most=true↔1<=size∧size<=32768∧0<=chain∧chain<=256∧1<=most∧most<=65535:=by
 unfold mayS;simp[and_assoc]
abbrev Cp (size chain most:Int)(lazy:Bool):D:=.agg [iD size,iD chain,iD most,.v (.bool lazy)]
theorem mayS_r (size chain most:Int)(lazy:Bool):S0 32 [Cp size chain most lazy] [] (.v (.bool (mayS size chain most))) []:=SpR Tryz.func32 rfl rfl rfl trivial rfl 1000 64 (λ R ok=>.B 13 (1<=size) (λ p0 Z9=>.B 12 (size<=32768) (λ p1 Z8=>.B 12 (0<=chain) (λ p2 Z7=>.B 12 (chain<=256) (λ p3 Z6=>.B 12 (1<=most) (λ p4 Z5=>.U 11 [] [] (D.v (.bool (decide (most<=65535)))) [] R (ok _ _ zR wr)) (λ p4 Z5=>.U 6 [] [] (D.v (.bool false)) [] R (ok _ _ zR wr))) (λ p3 Z6=>.U 14 [] [] (D.v (.bool false)) [] R (ok _ _ zR wr))) (λ p2 Z7=>.U 22 [] [] (D.v (.bool false)) [] R (ok _ _ zR wr))) (λ p1 Z8=>.U 30 [] [] (D.v (.bool false)) [] R (ok _ _ zR wr))) (λ p0 Z9=>.U 38 [] [] (D.v (.bool false)) [] R (ok _ _ zR wr))) kr
theorem sty_t0 (size chain most:Int)(lazy:Bool)(hm:mayS size chain most=true):S0 29 [Cp size chain most lazy] [] (iD 0) []:=by
 have hm2:=mayS_iff.1 hm;refine SpR Tryz.func29 rfl rfl rfl trivial rfl 1000 64 (λ R ok=>.F 13 (decide (size<1)) uq<|.F 12 (decide (32768<size)) uq<|.F 12 (decide (chain<0)) uq<|.F 12 (decide (256<chain)) uq<|.F 12 (decide (most<1)) uq<|.F 10 (decide (65535<most)) uq<|.Y 1 [] [] (zI 0) [] ok) kr
theorem sty_t8 (size chain most:Int)(lazy:Bool)(hm:mayS size chain most=false):S0 29 [Cp size chain most lazy] [] (iD 8) []:=by
 have hm2:=mt mayS_iff.2 (by rw[hm];decide);refine SpR Tryz.func29 rfl rfl rfl trivial rfl 1000 64 (λ R ok=>.B 13 (size<1) (λ p0 Z9=>.Y 39 [] [] (zI 8) [] ok) (λ p0 Z9=>.B 12 (32768<size) (λ p1 Z8=>.Y 31 [] [] (zI 8) [] ok) (λ p1 Z8=>.B 12 (chain<0) (λ p2 Z7=>.Y 23 [] [] (zI 8) [] ok) (λ p2 Z7=>.B 12 (256<chain) (λ p3 Z6=>.Y 15 [] [] (zI 8) [] ok) (λ p3 Z6=>.B 12 (most<1) (λ p4 Z5=>.Y 7 [] [] (zI 8) [] ok) (λ p4 Z5=>.E 10 (decide (65535<most)) (by(refine decide_eq_true ?_;(omega)))<|.Y 1 [] [] (zI 8) [] ok)))))) kr
def lM (b:Z4)(size chain:Int)(lazy:Bool)(i:Nat):Int:=if lazy=true∧i+1<b.length then(bestG b (i+1) size (i+1) chain 0 0).2 else 0
def tokAt (b:Z4)(size chain:Int)(lazy:Bool)(i:Nat):Tok:=
 if(bestG b i size i chain 0 0).2=0∨(bestG b i size i chain 0 0).2<lM b size chain lazy i then⟨b.getD i lh,0,0⟩else⟨0,(bestG b i size i chain 0 0).1,(bestG b i size i chain 0 0).2⟩
def pu (t:Tok):Nat:=if t.long=0 then 1 else t.long.toNat
def cutK (b:Z4)(size chain:Int)(lazy:Bool):Nat->Nat->List Tok
 |0,_=>[]
 |k+1,i=>if i<b.length then tokAt b size chain lazy i::cutK b size chain lazy k (i+pu (tokAt b size chain lazy i))else[]
def cutG (b:Z4)(size chain:Int)(lazy:Bool)(i:Nat):List Tok:=cutK b size chain lazy (b.length-i) i
theorem best_bd (b:Z4)(i:Nat)(size chain:Int)(hi:i<=b.length):0<=(bestG b i size i chain 0 0).2∧(bestG b i size i chain 0 0).2<=258∧(i:Int)+(bestG b i size i chain 0 0).2<=b.length∧0<=(bestG b i size i chain 0 0).1∧(bestG b i size i chain 0 0).1<=i∧((bestG b i size i chain 0 0).2=0->(bestG b i size i chain 0 0).1=0)∧((bestG b i size i chain 0 0).2≠0->3<=(bestG b i size i chain 0 0).2∧1<=(bestG b i size i chain 0 0).1∧(bestG b i size i chain 0 0).1<=size):=by
 rcases i7 b i size i chain 0 0 with h|⟨j,h1,h2,h3,h4,h5⟩
 ·rw[h];simp;omega
 ·rw[h2,h3]
  have:=kS b i j;have:=kR b 258 i j hi;omega
theorem oO (b:Z4)(size chain:Int)(lazy:Bool)(i:Nat)(hi:i<b.length):1<=pu (tokAt b size chain lazy i)∧i+pu (tokAt b size chain lazy i)<=b.length:=by
 have h:=best_bd b i size chain om;unfold tokAt
 split
 ·unfold pu;simp;omega
 ·next e=>
  unfold pu;dsimp only;rw[ZE (λ q=>e (.inl q))];omega
theorem qt (b:Z4)(size chain:Int)(lazy:Bool):∀(k m i:Nat),b.length-i<=k->b.length-i<=m->cutK b size chain lazy k i=cutK b size chain lazy m i
 |0,0,i,_,_=>rfl
 |0,m+1,i,h,_=>by rw[cutK,cutK,ZE om]
 |k+1,0,i,_,h=>by rw[cutK,cutK,ZE om]
 |k+1,m+1,i,h1,h2=>by
  rw[cutK,cutK]
  split
  ·next hi=>
   have:=oO b size chain lazy i hi;rw[qt b size chain lazy k m _ om om]
  ·rfl
theorem Cq {b:Z4}{size chain:Int}{lazy:Bool}{i:Nat}(h:b.length<=i):cutG b size chain lazy i=[]:=by
 unfold cutG;rw[show b.length-i=0 from by omega];rfl
theorem qu {b:Z4}{size chain:Int}{lazy:Bool}{i:Nat}(h:i<b.length):cutG b size chain lazy i=tokAt b size chain lazy i::cutG b size chain lazy (i+pu (tokAt b size chain lazy i)):=by
 unfold cutG;have:=oO b size chain lazy i h;rw[show b.length-i=(b.length-i-1)+1 from by omega,cutK,ZF h,qt b size chain lazy (b.length-i-1) (b.length-(i+pu (tokAt b size chain lazy i))) _ om om]
theorem uv (b:Z4)(size chain:Int)(lazy:Bool):∀k i:Nat,(cutK b size chain lazy k i).length<=b.length-i
 |0,i=>by simp[cutK]
 |k+1,i=>by
  rw[cutK]
  split
  ·next h=>
   have h1:=uv b size chain lazy k (i+pu (tokAt b size chain lazy i));have h2:=oO b size chain lazy i h;rw[Wj];omega
  ·simp
theorem cutG_len (b:Z4)(size chain:Int)(lazy:Bool)(i:Nat):(cutG b size chain lazy i).length<=b.length-i:=uv b size chain lazy _ i
theorem nl {b:Z4}{size chain:Int}{lazy:Bool}{i:Nat}{c R:List Tok}(hr:c++cutG b size chain lazy i=R)(h:i<b.length)(e:(bestG b i size i chain 0 0).2=0∨(bestG b i size i chain 0 0).2<lM b size chain lazy i):(c++[⟨b.getD i lh,0,0⟩])++cutG b size chain lazy (i+1)=R:=by
 rw[qu h,tokAt,ZF e,pu,ZF rfl]at hr;rw[Wc];exact hr
theorem kT {b:Z4}{size chain:Int}{lazy:Bool}{i j:Nat}{c R:List Tok}(hr:c++cutG b size chain lazy i=R)(h:i<b.length)(e:¬((bestG b i size i chain 0 0).2=0∨(bestG b i size i chain 0 0).2<lM b size chain lazy i))(hj:(j:Int)=i+(bestG b i size i chain 0 0).2):(c++[⟨0,(bestG b i size i chain 0 0).1,(bestG b i size i chain 0 0).2⟩])++cutG b size chain lazy j=R:=by
 have hb:=best_bd b i size chain om;rw[qu h,tokAt,ZE e,pu,ZE (λ q=>e (.inl q)),show i+(bestG b i size i chain 0 0).2.toNat=j from by omega]at hr;rw[Wc];exact hr
theorem rO {b:Z4}{size chain:Int}{lazy:Bool}{i:Nat}(h:lazy=true)(h2:i+1<b.length):lM b size chain lazy i=(bestG b (i+1) size (i+1) chain 0 0).2:=ZF ⟨h,h2⟩
theorem yj {b:Z4}{size chain:Int}{lazy:Bool}{i:Nat}(h:lazy=true)(h2:i+1<b.length):lM b size chain lazy i=(bestG b ((i:Int)+1).toNat size ((i:Int)+1).toNat chain 0 0).2:=by
 rw[rO h h2,show((i:Int)+1).toNat=i+1 from by omega]
theorem yk {b:Z4}{size chain:Int}{lazy:Bool}{i:Nat}(h:lazy=false∨b.length<=i+1):lM b size chain lazy i=0:=ZE (by
 rintro⟨h1,h2⟩;rcases h with h|h
 ·rw[h]at h1;cases h1
 ·omega)
theorem Ky (l:List Tok):(l.flatMap tokD).length=l.length*3:=bj (f:=tokD) (k:=3) (λ _=>rfl) l
theorem Cuts (b:Z4)(n:Nat)(size chain most:Int)(lazy:Bool)(hn:n=b.length)(hN:n<=131072)(hs:1<=size∧size<=32768)(hc:0<=chain∧chain<=256)(q:Nat)(hq:q<=n):S0 76 [.sl false n 1 (b.map dB),iD q,Cp size chain most lazy] [] (.ref 0 0 0 (cutG b size chain lazy q).length 3) [⟨(cutG b size chain lazy q).flatMap tokD, 119,true⟩]:=SpR Tryz.func76 rfl rfl rfl ⟨dn (λ _=>rfl) _,trivial⟩ rfl 1000 64 (λ R ok=>.s 6<|.nils 7 40 3 119<|Hn.inl T_ok ah false 74 0 (aq Tryz.prog 76 0) (λ(x:(i:Nat)×'(hi:i<=n)×'(c:List Tok)×'(hr:c++cutG b size chain lazy i=cutG b size chain lazy q)×'(hb:c.length<=i)×'Unit)=>match x with|⟨i,hi,c,hr,hb,_⟩=>VZ [(0,V3 false n 1 (map dB b)),(5,V7 0 0 0),(7,(VJ 8 8 (0) (c.length) 3)),(8,iD (i:Nat))] [⟨0,0,0,0,.b ⟨[zI size,zI chain,zI most,D.v (.bool lazy)],23,false⟩⟩,⟨8,8,40,40,.b ⟨c.flatMap tokD,119,true⟩⟩] 16) (λ(x:(i:Nat)×'(hi:i<=n)×'(c:List Tok)×'(hr:c++cutG b size chain lazy i=cutG b size chain lazy q)×'(hb:c.length<=i)×'Unit)=>match x with|⟨i,hi,c,hr,hb,_⟩=>n-i) [⟨Unit,.exit 0,λ x=>match x with|()=>VZ [(0,V3 false n 1 (map dB b)),(5,V7 0 0 0),(7,(VJ 8 8 (0) ((cutG b size chain lazy q).length) 3))] [⟨0,0,0,0,.b ⟨[zI size,zI chain,zI most,D.v (.bool lazy)],23,false⟩⟩,⟨8,8,40,40,.b ⟨(cutG b size chain lazy q).flatMap tokD,119,true⟩⟩] 16⟩] 1000 64 (fun|⟨i,hi,c,hr,hb,_⟩,Q,ZB,ZD=>.B 5 ((i:Int)<n) (λ p0 Z9=>.C 15 97 false [] (.fn UN (@Go.Proofs.YtefjnofhgkjpmaaGreat.Vm.BestX (b) (n) ((i:Int)) (size) (chain) om om om om om))<|.R 16 (lazy) (λ p1=>.W 3 (i+1)<|.B 8 ((i:Int)+1<n) (λ p2 Z7=>.W 4 (i+1)<|.C 13 97 false [] (.fn UN (@Go.Proofs.YtefjnofhgkjpmaaGreat.Vm.BestX (b) (n) ((i:Int)+1) (size) (chain) om om om om om))<|.R 11 (VM (bestG b i size i chain 0 0)==0) (λ p3=>have Z6:=eq_of_beq p3;.K 10 (true&&decide ((i:Int)<n)&&true) Cn<|.O 2 ((map dB b)[i*1]?) (dB (getD b (i*1) lh)) (am _ _ om)<|.K 5 (true&&VK (length c*3) (length (flatMap tokD c))&&true&&true&&true&&true&&VN ((length c+1)*24) 140737488355328) pt<|.W 4 (i+1)<|.V 1 7 (VJ 432 432 0 (length c+1) 3) (VJ 432 432 0 (length (c++[Tok.mk (getD b i lh) 0 0])) 3) (by(simp;done))<|.val 8 (zI (i+1)) (zN (i+1)) ur<|.blk 432 432 (VF (flatMap tokD c++[da (VE (getD b (i*1) lh)),zI 0,zI 0]) 119 true) (VF (flatMap tokD (c++[Tok.mk (getD b i lh) 0 0])) 119 true) zT<|Hn.next ZB ⟨(i+1),om,(c++[⟨b.getD i lh,0,0⟩]),Co,ut,⟨⟩⟩ zU [(0,0),(432,432)] ro) (λ p3=>have Z6:=ap p3;.B 6 (VM (bestG b i size i chain 0 0)<VM (bestG b (zq ((i:Int)+1)) size (zq ((i:Int)+1)) chain 0 0)) (λ p4 Z5=>.K 4 (true&&decide ((i:Int)<n)&&true) Cn<|.O 2 ((map dB b)[i*1]?) (dB (getD b (i*1) lh)) (am _ _ om)<|.K 5 (true&&VK (length c*3) (length (flatMap tokD c))&&true&&true&&true&&true&&VN ((length c+1)*24) 140737488355328) pt<|.W 4 (i+1)<|.V 1 7 (VJ 432 432 0 (length c+1) 3) (VJ 432 432 0 (length (c++[Tok.mk (getD b i lh) 0 0])) 3) (by(simp;done))<|.val 8 (zI (i+1)) (zN (i+1)) ur<|.blk 432 432 (VF (flatMap tokD c++[da (VE (getD b (i*1) lh)),zI 0,zI 0]) 119 true) (VF (flatMap tokD (c++[Tok.mk (getD b i lh) 0 0])) 119 true) zT<|Hn.next ZB ⟨(i+1),om,(c++[⟨b.getD i lh,0,0⟩]),(by(have h8:=yj (size:=size) (chain:=chain) (lazy:=lazy) (i:=i) aO (show i+1<b.length by omega);exact nl hr om (.inr om))),ut,⟨⟩⟩ zU [(0,0),(432,432)] ro) (λ p4 Z5=>.K 8 (true&&VK (length c*3) (length (flatMap tokD c))&&true&&true&&true&&true&&VN ((length c+1)*24) 140737488355328) pt<|.I 5 (i+VM (bestG b i size i chain 0 0)) uu<|.V 1 7 (VJ 416 416 0 (length c+1) 3) (VJ 416 416 0 (length (c++[Tok.mk 0 (V2 (bestG b i size i chain 0 0)) (VM (bestG b i size i chain 0 0))])) 3) (by(simp;done))<|.val 8 (zI (i+VM (bestG b i size i chain 0 0))) (zN (i+zq (VM (bestG b i size i chain 0 0)))) Im<|.blk 416 416 (VF (flatMap tokD c++[bI 0,zI (V2 (bestG b i size i chain 0 0)),zI (VM (bestG b i size i chain 0 0))]) 119 true) (VF (flatMap tokD (c++[Tok.mk 0 (V2 (bestG b i size i chain 0 0)) (VM (bestG b i size i chain 0 0))])) 119 true) (by(exact kx rfl))<|Hn.next ZB ⟨(i+(bestG b i size i chain 0 0).2.toNat),uu,(c++[⟨0,(bestG b i size i chain 0 0).1,(bestG b i size i chain 0 0).2⟩]),(by(have h8:=yj (size:=size) (chain:=chain) (lazy:=lazy) (i:=i) aO (show i+1<b.length by omega);have h9:=best_bd b i size chain om;exact kT hr om om om)),(by(simp;have h9:=best_bd b i size chain om;omega)),⟨⟩⟩ In [(0,0),(416,416)] ro))) (λ p2 Z7=>.E 5 (VM (bestG b i size i chain 0 0)==0) Io<|.K 10 (true&&decide ((i:Int)<n)&&true) Cn<|.O 2 ((map dB b)[i*1]?) (dB (getD b (i*1) lh)) (am _ _ om)<|.K 5 (true&&VK (length c*3) (length (flatMap tokD c))&&true&&true&&true&&true&&VN ((length c+1)*24) 140737488355328) pt<|.W 4 (i+1)<|.V 1 7 (VJ 336 336 0 (length c+1) 3) (VJ 336 336 0 (length (c++[Tok.mk (getD b i lh) 0 0])) 3) (by(simp;done))<|.val 8 (zI (i+1)) (zN (i+1)) ur<|.blk 336 336 (VF (flatMap tokD c++[da (VE (getD b (i*1) lh)),zI 0,zI 0]) 119 true) (VF (flatMap tokD (c++[Tok.mk (getD b i lh) 0 0])) 119 true) zT<|Hn.next ZB ⟨(i+1),om,(c++[⟨b.getD i lh,0,0⟩]),Co,ut,⟨⟩⟩ zU [(0,0),(336,336)] ro)) (λ p1=>.R 15 (VM (bestG b i size i chain 0 0)==0) (λ p5=>have p5f:=eq_of_beq p5;.K 10 (true&&decide ((i:Int)<n)&&true) Cn<|.O 2 ((map dB b)[i*1]?) (dB (getD b (i*1) lh)) (am _ _ om)<|.K 5 (true&&VK (length c*3) (length (flatMap tokD c))&&true&&true&&true&&true&&VN ((length c+1)*24) 140737488355328) pt<|.W 4 (i+1)<|.V 1 7 (VJ 336 336 0 (length c+1) 3) (VJ 336 336 0 (length (c++[Tok.mk (getD b i lh) 0 0])) 3) (by(simp;done))<|.val 8 (zI (i+1)) (zN (i+1)) ur<|.blk 336 336 (VF (flatMap tokD c++[da (VE (getD b (i*1) lh)),zI 0,zI 0]) 119 true) (VF (flatMap tokD (c++[Tok.mk (getD b i lh) 0 0])) 119 true) zT<|Hn.next ZB ⟨(i+1),om,(c++[⟨b.getD i lh,0,0⟩]),Co,ut,⟨⟩⟩ zU [(0,0),(336,336)] ro) (λ p5=>have p5f:=ap p5;.F 6 (decide (VM (bestG b i size i chain 0 0)<0)) (by(refine decide_eq_false ?_;have h9:=best_bd b i size chain om;omega))<|.K 8 (true&&VK (length c*3) (length (flatMap tokD c))&&true&&true&&true&&true&&VN ((length c+1)*24) 140737488355328) pt<|.I 5 (i+VM (bestG b i size i chain 0 0)) uu<|.V 1 7 (VJ 320 320 0 (length c+1) 3) (VJ 320 320 0 (length (c++[Tok.mk 0 (V2 (bestG b i size i chain 0 0)) (VM (bestG b i size i chain 0 0))])) 3) (by(simp;done))<|.val 8 (zI (i+VM (bestG b i size i chain 0 0))) (zN (i+zq (VM (bestG b i size i chain 0 0)))) Im<|.blk 320 320 (VF (flatMap tokD c++[bI 0,zI (V2 (bestG b i size i chain 0 0)),zI (VM (bestG b i size i chain 0 0))]) 119 true) (VF (flatMap tokD (c++[Tok.mk 0 (V2 (bestG b i size i chain 0 0)) (VM (bestG b i size i chain 0 0))])) 119 true) (by(exact kx rfl))<|Hn.next ZB ⟨(i+(bestG b i size i chain 0 0).2.toNat),uu,(c++[⟨0,(bestG b i size i chain 0 0).1,(bestG b i size i chain 0 0).2⟩]),(by(have h8:=yk (b:=b) (size:=size) (chain:=chain) (lazy:=lazy) (i:=i) (.inl aO);have h9:=best_bd b i size chain om;exact kT hr om om om)),(by(simp;have h9:=best_bd b i size chain om;omega)),⟨⟩⟩ In [(0,0),(320,320)] ro))) (λ p0 Z9=>.val 7 (VJ 8 8 0 (length c) 3) (VJ 8 8 0 (length (cutG b size chain lazy q)) 3) FD<|.blk 8 8 (VF (flatMap tokD c) 119 true) (VF (flatMap tokD (cutG b size chain lazy q)) 119 true) FD<|Hn.last ZD 0 (():Unit) rfl [(0,0),(8,8)] ro)) (fun|⟨i,hi,c,hr,hb,_⟩=>by kernel_rfl) ⟨(q),om,([]),(by(simp;done)),(by(simp;done)),⟨⟩⟩ [(0,0),(40,40)] ro (bM (fun|()=>.Y 2 [8] [8] (VJ 0 0 0 (length (cutG b size chain lazy q)) 3) [VF (flatMap tokD (cutG b size chain lazy q)) 119 true] ok))) kr
theorem uw {b:Z4}{n i:Nat}{size chain:Int}(hn:n=b.length)(h:n<=131072)(hi:i<=n)(hs:1<=size∧size<=32768)(hc:0<=chain∧chain<=256):mq b n i size chain=(bestG b i size i chain 0 0).2∧qp b n i size chain=(bestG b i size i chain 0 0).1:=by
 have g:=qq (b:=b) (n:=n) (q:=i) (size:=size) (chain:=chain) (by unfold yi;omega);simp only[XB]at g;refine⟨g.2,?_⟩
 by_cases e:ey b n i size chain=0
 ·exact ZF e
 ·have h0:=(lK e).2
  have hb:=best_bd b i size chain om;rw[(lK e).1,hb.2.2.2.2.2.1 (by rw[<-g.2,h0])]
theorem FindTok (b:Z4)(n i:Nat)(size chain:Int)(hn:n=b.length)(h:n<=131072)(hi:i<=n)(hs:1<=size∧size<=32768)(hc:0<=chain∧chain<=256):S0 117 [.sl false n 1 (b.map dB),iD i,iD size,iD chain] [] (.tup [iD (bestG b i size i chain 0 0).1,iD (bestG b i size i chain 0 0).2,iD (ey b n i size chain)]) []:=by
 have h2:=TL b n i size chain hn om om om om;unfold jN at h2;rw[(uw hn h hi hs hc).1,(uw hn h hi hs hc).2]at h2;exact h2
theorem FindTok1 (b:Z4)(n i:Nat)(size chain:Int)(hn:n=b.length)(h:n<=131072)(hi:i+1<=n)(hs:1<=size∧size<=32768)(hc:0<=chain∧chain<=256):S0 117 [.sl false n 1 (b.map dB),iD ((i:Int)+1),iD size,iD chain] [] (.tup [iD (bestG b (i+1) size (i+1) chain 0 0).1,iD (bestG b (i+1) size (i+1) chain 0 0).2,iD (ey b n ((i:Int)+1) size chain)]) []:=FindTok b n (i+1) size chain hn h hi hs hc
theorem Cut_ok (b:Z4)(n:Nat)(size chain most q:Int)(lazy:Bool)(hn:n=b.length)(hN:n<=1000000)(hq:-9223372036854775808<=q∧q<=9223372036854775807)(hm:mayS size chain most=true)(h:n<=131072∧0<=q∧q<=n):S0 67 [.sl false n 1 (b.map dB),iD q,Cp size chain most lazy] [] (.tup [.ref 0 0 0 (cutG b size chain lazy q.toNat).length 3,iD 0]) [⟨(cutG b size chain lazy q.toNat).flatMap tokD, 119,true⟩]:=by
 have hm2:=mayS_iff.1 hm;obtain⟨k,rfl⟩:=WM h.2.1;simp only[XB];refine SpR Tryz.func67 rfl rfl rfl ⟨dn (λ _=>rfl) _,trivial⟩ rfl 1000 64 (λ R ok=>.C 10 29 false [] (.fn Sb (@Go.Proofs.YtefjnofhgkjpmaaGreat.Vt.sty_t0 (size) (chain) (most) (lazy) om))<|.F 9 (decide (131072<(n:Int))) uq<|.F 14 (decide ((n:Int)<k)) uq<|.s 27<|.nilc 8 8 (VF [zS] 82 false) 0 312 3 119<|Hn.inl T_ok ah false 55 296 (aq Tryz.prog 118 0) (λ(x:(i:Nat)×'(hi:i<=n)×'(c:List Tok)×'(hr:c++cutG b size chain lazy i=cutG b size chain lazy k)×'(hb:c.length<=i)×'Unit)=>match x with|⟨i,hi,c,hr,hb,_⟩=>VZ [(0,D.yl 288 288),(2,V7 184 184 0),(3,V7 224 224 0),(4,V7 200 200 0),(6,iD (i:Nat))] [⟨0,0,0,0,.b ⟨[zI size,zI chain,zI most,D.v (.bool lazy)],23,false⟩⟩,⟨8,8,8,8,.b ⟨[(VJ 352 352 (0) (c.length) 3)],82,false⟩⟩,⟨184,184,184,184,.b ⟨[V3 false n 1 (map dB b)],24,false⟩⟩,⟨192,192,192,192,.b ⟨[zN k],3,false⟩⟩,⟨200,200,200,200,.b ⟨[zI size,zI chain,zI most,D.v (.bool lazy)],23,false⟩⟩,⟨224,224,224,224,.b ⟨[XG (WG 116) [] [V7 184 184 0,V7 200 200 0]],196,false⟩⟩,⟨288,288,288,288,.l Yw none (rangeAt Tryz.prog 67 0).1 (rangeAt Tryz.prog 67 0).2.1 (rangeAt Tryz.prog 67 0).2.2 36 [(0,V3 false n 1 (map dB b)),(1,zN k),(7,zI 0),(15,V3 false n 1 (map dB b)),(23,zN n),(11,zI 0),(19,D.v (.bool false)),(27,zN k),(5,V7 0 0 0),(17,D.v (.bool false)),(25,D.v (.bool false)),(13,D.v (.bool false)),(21,zN k),(29,XG (WG 118) [] [V7 192 192 0,V7 184 184 0,V7 224 224 0,V7 200 200 0]),(2,Wu [zI size,zI chain,zI most,D.v (.bool lazy)]),(8,zI 0),(16,zN n),(24,D.v (.bool (decide ((n:Int)<k)))),(12,zI 0),(20,D.v (.bool false)),(28,Wu [zI size,zI chain,zI most,D.v (.bool lazy)]),(6,V7 8 8 0),(10,Wu [zI size,zI chain,zI most,D.v (.bool lazy)]),(18,zN k),(26,V3 false n 1 (map dB b)),(22,V3 false n 1 (map dB b))]⟩,⟨352,352,312,312,.b ⟨c.flatMap tokD,119,true⟩⟩] 360) (λ(x:(i:Nat)×'(hi:i<=n)×'(c:List Tok)×'(hr:c++cutG b size chain lazy i=cutG b size chain lazy k)×'(hb:c.length<=i)×'Unit)=>match x with|⟨i,hi,c,hr,hb,_⟩=>n-i) [⟨Unit,.exit 0,λ x=>match x with|()=>VZ [(0,D.yl 288 288),(2,V7 184 184 0),(3,V7 224 224 0),(4,V7 200 200 0)] [⟨0,0,0,0,.b ⟨[zI size,zI chain,zI most,D.v (.bool lazy)],23,false⟩⟩,⟨8,8,8,8,.b ⟨[(VJ 352 352 (0) ((cutG b size chain lazy k).length) 3)],82,false⟩⟩,⟨184,184,184,184,.b ⟨[V3 false n 1 (map dB b)],24,false⟩⟩,⟨192,192,192,192,.b ⟨[zN k],3,false⟩⟩,⟨200,200,200,200,.b ⟨[zI size,zI chain,zI most,D.v (.bool lazy)],23,false⟩⟩,⟨224,224,224,224,.b ⟨[XG (WG 116) [] [V7 184 184 0,V7 200 200 0]],196,false⟩⟩,⟨288,288,288,288,.l Yw none (rangeAt Tryz.prog 67 0).1 (rangeAt Tryz.prog 67 0).2.1 (rangeAt Tryz.prog 67 0).2.2 36 [(0,V3 false n 1 (map dB b)),(1,zN k),(7,zI 0),(15,V3 false n 1 (map dB b)),(23,zN n),(11,zI 0),(19,D.v (.bool false)),(27,zN k),(5,V7 0 0 0),(17,D.v (.bool false)),(25,D.v (.bool false)),(13,D.v (.bool false)),(21,zN k),(29,XG (WG 118) [] [V7 192 192 0,V7 184 184 0,V7 224 224 0,V7 200 200 0]),(2,Wu [zI size,zI chain,zI most,D.v (.bool lazy)]),(8,zI 0),(16,zN n),(24,D.v (.bool (decide ((n:Int)<k)))),(12,zI 0),(20,D.v (.bool false)),(28,Wu [zI size,zI chain,zI most,D.v (.bool lazy)]),(6,V7 8 8 0),(10,Wu [zI size,zI chain,zI most,D.v (.bool lazy)]),(18,zN k),(26,V3 false n 1 (map dB b)),(22,V3 false n 1 (map dB b))]⟩,⟨352,352,312,312,.b ⟨(cutG b size chain lazy k).flatMap tokD,119,true⟩⟩] 360⟩] 1000 64 (fun|⟨i,hi,c,hr,hb,_⟩,Q,ZB,ZD=>.B 7 ((i:Int)<n) (λ p0 Z9=>.K 5 (true&&decide ((i:Int)<n)&&true) Cn<|.O 2 ((map dB b)[i*1]?) (dB (getD b (i*1) lh)) (am _ _ om)<|.W 10 (i+1)<|.E 16 (decide ((i:Int)<n)) p0<|.C 17 117 false [] (.fn M8 (@Go.Proofs.YtefjnofhgkjpmaaGreat.Vt.FindTok (b) (n) (i) (size) (chain) om om om om om))<|.B 23 (0<VM (bestG b i size i chain 0 0)) (λ p1 Z8=>.R 7 (lazy) (λ p2=>.W 6 (i+1)<|.E 11 (decide ((i:Int)+1<n)) Io<|.C 17 117 false [] (.fn M8 (@Go.Proofs.YtefjnofhgkjpmaaGreat.Vt.FindTok1 (b) (n) (i) (size) (chain) om om om om om))<|.B 23 (VM (bestG b (i+1) size (i+1) chain 0 0)<=VM (bestG b i size i chain 0 0)) (λ p3 Z6=>.I 8 (i+VM (bestG b i size i chain 0 0)) uu<|.K 25 (true&&VK (length c*3) (length (flatMap tokD c))&&true&&true&&true&&true&&VN ((length c+1)*24) 140737488355328) pt<|.V 7 6 (zI (i+VM (bestG b i size i chain 0 0))) (zN (i+zq (VM (bestG b i size i chain 0 0)))) ur<|.blk 8 8 (VF [VJ 1216 1216 0 (length c+1) 3] 82 false) (VF [VJ 1216 1216 0 (length (c++[Tok.mk 0 (V2 (bestG b i size i chain 0 0)) (VM (bestG b i size i chain 0 0))])) 3] 82 false) (by(simp;done))<|.blk 1216 1216 (VF (flatMap tokD c++[bI 0,zI (V2 (bestG b i size i chain 0 0)),zI (VM (bestG b i size i chain 0 0))]) 119 true) (VF (flatMap tokD (c++[Tok.mk 0 (V2 (bestG b i size i chain 0 0)) (VM (bestG b i size i chain 0 0))])) 119 true) (by(exact kx rfl))<|Hn.next ZB ⟨(i+(bestG b i size i chain 0 0).2.toNat),uu,(c++[⟨0,(bestG b i size i chain 0 0).1,(bestG b i size i chain 0 0).2⟩]),(by(have h9:=best_bd b i size chain om;have h8:=rO (size:=size) (chain:=chain) (lazy:=lazy) (i:=i) aO (show i+1<b.length by omega);exact kT hr om om om)),ut,⟨⟩⟩ Ip [(0,0),(8,8),(184,184),(192,192),(200,200),(224,224),(288,288),(1216,1216)] ro) (λ p3 Z6=>.K 21 (true&&VK (length c*3) (length (flatMap tokD c))&&true&&true&&true&&true&&VN ((length c+1)*24) 140737488355328) pt<|.V 7 6 (zI (i+1)) (zN (i+1)) ur<|.blk 8 8 (VF [VJ 1152 1152 0 (length c+1) 3] 82 false) (VF [VJ 1152 1152 0 (length (c++[Tok.mk (getD b i lh) 0 0])) 3] 82 false) (by(simp;done))<|.blk 1152 1152 (VF (flatMap tokD c++[da (VE (getD b (i*1) lh)),zI 0,zI 0]) 119 true) (VF (flatMap tokD (c++[Tok.mk (getD b i lh) 0 0])) 119 true) zT<|Hn.next ZB ⟨(i+1),om,(c++[⟨b.getD i lh,0,0⟩]),(by(have h9:=best_bd b i size chain om;have h8:=rO (size:=size) (chain:=chain) (lazy:=lazy) (i:=i) aO (show i+1<b.length by omega);exact nl hr om om)),ut,⟨⟩⟩ zU [(0,0),(8,8),(184,184),(192,192),(200,200),(224,224),(288,288),(1152,1152)] ro)) (λ p2=>.E 4 (decide (0<=VM (bestG b i size i chain 0 0))) (by(refine decide_eq_true ?_;(omega)))<|.I 8 (i+VM (bestG b i size i chain 0 0)) uu<|.K 25 (true&&VK (length c*3) (length (flatMap tokD c))&&true&&true&&true&&true&&VN ((length c+1)*24) 140737488355328) pt<|.V 7 6 (zI (i+VM (bestG b i size i chain 0 0))) (zN (i+zq (VM (bestG b i size i chain 0 0)))) ur<|.blk 8 8 (VF [VJ 936 936 0 (length c+1) 3] 82 false) (VF [VJ 936 936 0 (length (c++[Tok.mk 0 (V2 (bestG b i size i chain 0 0)) (VM (bestG b i size i chain 0 0))])) 3] 82 false) (by(simp;done))<|.blk 936 936 (VF (flatMap tokD c++[bI 0,zI (V2 (bestG b i size i chain 0 0)),zI (VM (bestG b i size i chain 0 0))]) 119 true) (VF (flatMap tokD (c++[Tok.mk 0 (V2 (bestG b i size i chain 0 0)) (VM (bestG b i size i chain 0 0))])) 119 true) (by(exact kx rfl))<|Hn.next ZB ⟨(i+(bestG b i size i chain 0 0).2.toNat),uu,(c++[⟨0,(bestG b i size i chain 0 0).1,(bestG b i size i chain 0 0).2⟩]),(by(have h9:=best_bd b i size chain om;have h8:=yk (b:=b) (size:=size) (chain:=chain) (lazy:=lazy) (i:=i) (.inl aO);exact kT hr om om om)),ut,⟨⟩⟩ Ip [(0,0),(8,8),(184,184),(192,192),(200,200),(224,224),(288,288),(936,936)] ro)) (λ p1 Z8=>.K 21 (true&&VK (length c*3) (length (flatMap tokD c))&&true&&true&&true&&true&&VN ((length c+1)*24) 140737488355328) pt<|.V 7 6 (zI (i+1)) (zN (i+1)) ur<|.blk 8 8 (VF [VJ 824 824 0 (length c+1) 3] 82 false) (VF [VJ 824 824 0 (length (c++[Tok.mk (getD b i lh) 0 0])) 3] 82 false) (by(simp;done))<|.blk 824 824 (VF (flatMap tokD c++[da (VE (getD b (i*1) lh)),zI 0,zI 0]) 119 true) (VF (flatMap tokD (c++[Tok.mk (getD b i lh) 0 0])) 119 true) zT<|Hn.next ZB ⟨(i+1),om,(c++[⟨b.getD i lh,0,0⟩]),(by(have h9:=best_bd b i size chain om;exact nl hr om om)),ut,⟨⟩⟩ zU [(0,0),(8,8),(184,184),(192,192),(200,200),(224,224),(288,288),(824,824)] ro)) (λ p0 Z9=>.blk 8 8 (VF [VJ 352 352 0 (length c) 3] 82 false) (VF [VJ 352 352 0 (length (cutG b size chain lazy k)) 3] 82 false) FD<|.blk 352 352 (VF (flatMap tokD c) 119 true) (VF (flatMap tokD (cutG b size chain lazy k)) 119 true) FD<|Hn.last ZD 0 (():Unit) rfl [(0,0),(8,8),(184,184),(192,192),(200,200),(224,224),(288,288),(352,352)] ro)) (fun|⟨i,hi,c,hr,hb,_⟩=>by kernel_rfl) ⟨(k),om,([]),(by(simp;done)),(by(simp;done)),⟨⟩⟩ [(0,0),(8,8),(184,184),(192,192),(200,200),(224,224),(288,288),(312,312)] ro (bM (fun|()=>.Y 9 [352] [352] (WL [VJ 0 0 0 (length (cutG b size chain lazy k)) 3,zI 0]) [VF (flatMap tokD (cutG b size chain lazy k)) 119 true] ok))) kr
end Vt
end Go.Proofs.YtefjnofhgkjpmaaGreat
namespace Go.Proofs.YtefjnofhgkjpmaaGreat
open Go.RowKit Go.Bw Go.Vx
open List (length getD map take drop flatMap replicate)
namespace Vp
theorem FF {p:Prop}(h:p:=by(refine decide_eq_true ?_;have h9:=hl i;unfold kU at h9;have h8:=Kz (l.getD i lh).lit;omega)):p:=h
theorem Ml {p:Prop}(h:p:=by(have h9:=hl i;unfold kU at h9;have h8:=Kz (l.getD i lh).lit;rcases h9 with h9|h9<;>omega)):p:=h
theorem TO {p:Prop}(h:p:=by(have h9:=hl i;unfold kU at h9;have h8:=Kz (l.getD i lh).lit;rcases h9 with h9|h9<;>(try have h7:=h8.1 h9.1)<;>omega)):p:=h
theorem O3 (nn1 nn2:Bool)(X Y:Z4)(a b:Nat)(ha:a=X.length)(hb:b=Y.length)(ha2:a<=10000000)(hb2:b<=10000000):S0 68 [.sl false 2 1 [.sl nn1 a 1 (X.map dB),.sl nn2 b 1 (Y.map dB)]] [] (.ref 0 0 0 (a+b) 1) [⟨(X++Y).map dB, 5,true⟩]:=SpR Tryz.func68 rfl rfl rfl ⟨aI _,trivial⟩ rfl 1000 64 (λ R ok=>.W 20 (0+(a:Int))<|.W 23 (0+(a:Int)+b)<|.W 30 (0+(a:Int)+b-0)<|.B 4 (0<0+(a:Int)+b-0) (λ p0 Z9=>.K 7 (decide (0<0+(a:Int)+b-0)&&true&&VN (zq (0+(a:Int)+b-0)) 140737488355328&&VN (zq (0+(a:Int)+b-0)*1) 140737488355328) JO<|.K 3 (aT none (some 0) none (zq (0+(a:Int)+b-0))&&true) (by(simp;done))<|.K 20 (true&&VN ((0+a)*1) 140737488355328) (by(refine VL ?_;(omega)))<|.K 17 (true&&VK ((0+a)*1) (length (map dB X))&&true&&true&&true&&true&&VN ((0+a+b)*1) 140737488355328) (by(simp <;>(omega)))<|.U 10 [648] [648] (VJ 0 0 0 (0+a+b) 1) [VF (map dB X++map dB Y) 5 true] R (ok _ _ (by(simp;done)) (by(simp;done)))) (λ p0 Z9=>.K 19 (true&&VN ((0+a)*1) 140737488355328) (by(refine VL ?_;(omega)))<|.K 17 (true&&VK (a*1) (length (map dB X))&&true&&true&&true&&true&&VN ((a+b)*1) 140737488355328) (by(simp <;>(omega)))<|.U 10 [568] [568] (VJ 0 0 0 (a+b) 1) [VF (map dB X++map dB Y) 5 true] R (ok _ _ wr (by(simp;done))))) kr
theorem O4 (l:List Bool)(m:Nat)(hm:m=(pk l).length)(hl:l.length<=8388608):S0 52 [m5 m l] [] (.tup [.agg [.ref 0 0 0 m 1,nD (8*m)],iD 0]) [⟨(pk l).map dB, 5,true⟩]:=by
 have h9:=ac l;refine SpR Tryz.func52 rfl rfl rfl ⟨aI _,trivial⟩ rfl 1000 64 (λ R ok=>.C 10 43 false [] (.fn Jt (@oc (l) (m) om om))<|.C 13 56 false [] (.fn xe (@cY (pk l) (m) om om))<|.W 9 (8*(m:Int))<|.U 9 [80] [80] (WL [Wu [VJ 0 0 0 m 1,zI (8*(m:Int))],zI 0]) [VF (map dB (pk l)) 5 true] R (ok _ _ (by(simp;done)) wr)) kr
def kU (t:Tn):Prop:=(t.long=0∧t.dist=0)∨(t.lit=0∧3<=t.long∧t.long<=258∧1<=t.dist∧t.dist<=32768)
theorem kU.may {t:Tn}(h:kU t):ci t:=by
 rcases h with h|h
 ·exact .inl h.1
 ·exact .inr h.2
def Cr (t:Vt.Tok):Tn:=⟨t.lit,t.dist.toNat,t.long.toNat⟩
structure TokK (t:Vt.Tok):Prop where
 d:0<=t.dist
 l:0<=t.long
 ok:kU (Cr t)
theorem FG {b:Z4}{sz ch:Nat}{lz:Bool}{i:Nat}(hs:sz<=32768)(hi:i<b.length):TokK (Vt.tokAt b (sz:Int) (ch:Int) lz i):=by
 have h:=Vt.best_bd b i (sz:Int) (ch:Int) om;unfold Vt.tokAt
 split
 ·exact⟨Int.le_refl _,Int.le_refl _,.inl ⟨rfl,rfl⟩⟩
 ·next q=>
  have h2:=h.2.2.2.2.2.2 (λ e=>q (.inl e));refine⟨h.2.2.2.1,h.1,.inr ⟨rfl,?_⟩⟩;show 3<=(Vm.bestG b i (sz:Int) i (ch:Int) 0 0).2.toNat∧(Vm.bestG b i (sz:Int) i (ch:Int) 0 0).2.toNat<=258∧1<=(Vm.bestG b i (sz:Int) i (ch:Int) 0 0).1.toNat∧(Vm.bestG b i (sz:Int) i (ch:Int) 0 0).1.toNat<=32768;omega
theorem wd {b:Z4}{sz ch:Nat}{lz:Bool}(hs:sz<=32768):∀(k i:Nat),∀t∈Vt.cutK b (sz:Int) (ch:Int) lz k i,TokK t
 |0,_=>λ t ht=>absurd ht Yq
 |k+1,i=>λ t ht=>by
  rw[Vt.cutK]at ht
  split at ht
  ·next q=>
   rcases List.mem_cons.1 ht with e|e
   ·subst e;exact FG hs q
   ·exact wd hs k _ t e
  ·exact absurd ht Yq
def FH (b:Z4)(q sz ch:Nat)(lz:Bool):List Tn:=lk b ((Vt.cutG b (sz:Int) (ch:Int) lz q).map Cr)
theorem oP (b:Z4)(q sz ch:Nat)(lz:Bool):FH b q sz ch lz=(Vt.cutG b (sz:Int) (ch:Int) lz q).map Cr:=aP _ _
theorem FI (b:Z4)(q sz ch:Nat)(lz:Bool):(FH b q sz ch lz).length<=b.length-q:=by
 rw[oP,VP];exact Vt.cutG_len _ _ _ _ _
theorem Cs:∀l:List Vt.Tok,(∀t∈l,TokK t)->l.flatMap Vt.tokD=(l.map Cr).flatMap bb
 |[],_=>rfl
 |t::r,h=>by
  have h1:=h t Wb;have e:Vt.tokD t=bb (Cr t):=by
   show[dB t.lit,D.v (.int .i64 t.dist),D.v (.int .i64 t.long)]=[dB t.lit,D.v (.int .i64 ((t.dist.toNat:Nat):Int)),D.v (.int .i64 ((t.long.toNat:Nat):Int))];rw[XM h1.d,XM h1.l]
  rw[List.map_cons,W9,W9,e,Cs r λ t ht=>h t (Wa _ ht)]
theorem Ct {b:Z4}{q sz ch:Nat}{lz:Bool}(hs:sz<=32768):(Vt.cutG b (sz:Int) (ch:Int) lz q).flatMap Vt.tokD=(FH b q sz ch lz).flatMap bb:=by
 rw[oP];exact Cs _ (wd hs _ _)
theorem fR {b:Z4}{q sz ch:Nat}{lz:Bool}(hs:sz<=32768)(i:Nat):kU ((FH b q sz ch lz).getD i lh):=by
 rw[oP,VH,V6]
 cases h:(Vt.cutG b (sz:Int) (ch:Int) lz q)[i]? with
 |none=>exact .inl ⟨rfl,rfl⟩
 |some t=>exact(wd hs _ _ t (W4 h)).ok
abbrev RL (sz ch mo:Nat)(lz:Bool):D:=.agg [nD sz,nD ch,nD mo,bD lz]
theorem O5 (b:Z4)(n q:Nat)(hn:n=b.length)(hN:n<=131072)(hq:q<=n)(sz ch mo:Nat)(lz:Bool)(hs:1<=sz∧sz<=32768)(hc:ch<=256)(hm:1<=mo∧mo<=65535)(T:List Tn)(hT:FH b q sz ch lz=T):S0 67 [.sl false n 1 (b.map dB),nD q,RL sz ch mo lz] [] (.tup [.ref 0 0 0 T.length 3,iD 0]) [⟨T.flatMap bb, 119,true⟩]:=by
 subst hT;have h:=Vt.Cut_ok b n (sz:Int) (ch:Int) (mo:Int) (q:Int) lz hn om om (Vt.mayS_iff.2 om) om;rw[XB,Ct hs.2,show(Vt.cutG b (sz:Int) (ch:Int) lz q).length=(FH b q sz ch lz).length from by rw[oP,VP]]at h;exact h
theorem Kz (x:UInt8):(x=0->((x.toNat:Nat):Int)=0)∧x.toNat<256:=⟨λ h=>by rw[h];rfl,x.toNat_lt⟩
theorem FJ (l:List Tn)(k:Nat)(hk:k=l.length)(hk2:k<=65535)(hl:∀i,kU (l.getD i lh))(raw:Z4)(r:Nat)(hr:r=raw.length)(hr2:r<=65535):S0 64 [dY 0,.sl false r 1 (raw.map dB),.sl false k 3 (l.flatMap bb)] [] (iD 0) []:=SpR Tryz.func64 rfl rfl rfl trivial rfl 1000 64 (λ R ok=>.F 11 (decide (65535<(r:Int))) ru<|.F 6 (decide (65535<(k:Int))) ru<|.s 12<|Hn.inl T_ok ah false 19 136 (aq Tryz.prog 103 0) (λ(x:(i:Nat)×'(hi:i<=k)×'Unit)=>match x with|⟨i,hi,_⟩=>VZ [(0,V3 false k 3 (flatMap bb l)),(1,XG (WG 83) [] []),(7,zN k),(8,nD i)] [] 136) (λ(x:(i:Nat)×'(hi:i<=k)×'Unit)=>match x with|⟨i,hi,_⟩=>k-i) [⟨Unit,.exit 0,λ x=>match x with|()=>VZ [(0,V3 false k 3 (flatMap bb l)),(1,XG (WG 83) [] []),(7,zN k),(8,nD k)] [] 136⟩] 1000 64 (fun|⟨i,hi,_⟩,Q,ZB,ZD=>.B 2 ((i:Int)<k) (λ p0 Z9=>.K 6 (true&&decide ((i:Int)<k)&&true) JO<|.K 2 (VN (i*3+3) (length (flatMap bb l))) JY<|.lst (take 3 (drop (i*3) (flatMap bb l))) ([da (VE (Tn.lit (getD l i lh))),zN (Tn.dist (getD l i lh)),zN (Tn.long (getD l i lh))]) (aJ (k:=3) (i:=i) (λ _=>rfl) om om)<|.R 42 (!decide (0<(↑(Tn.long (getD l i lh)):Int))) (λ p1=>have Z8:=vN (dl p1);.E 10 ((↑(Tn.long (getD l i lh)):Int)==0) vW<|.R 12 (!(↑(Tn.dist (getD l i lh)):Int)==0) (λ p2=>have Z7:=ap (dl p2);.abs Ml) (λ p2=>have Z7:=eq_of_beq (dm p2);.W 7 (i+1)<|.V 1 8 (zI (i+1)) (zN (i+1)) D9<|Hn.next ZB ⟨(i+1),om,⟨⟩⟩ RG [] ro)) (λ p1=>have Z8:=vM (dm p1);.R 10 ((↑(VE (Tn.lit (getD l i lh))):Int)==0) (λ p3=>have Z6:=eq_of_beq p3;.E 12 (decide (3<=(↑(Tn.long (getD l i lh)):Int))) FF<|.E 12 (decide ((↑(Tn.long (getD l i lh)):Int)<=258)) FF<|.E 12 (decide (1<=(↑(Tn.dist (getD l i lh)):Int))) FF<|.R 12 (!decide ((↑(Tn.dist (getD l i lh)):Int)<=32768)) (λ p4=>have Z5:=vN (dl p4);.abs Ml) (λ p4=>have Z5:=vM (dm p4);.W 7 (i+1)<|.V 1 8 (zI (i+1)) (zN (i+1)) D9<|Hn.next ZB ⟨(i+1),om,⟨⟩⟩ RG [] ro)) (λ p3=>have Z6:=ap p3;.abs TO))) (λ p0 Z9=>.val 8 (zN i) (zN k) D9<|Hn.last ZD 0 (():Unit) rfl [] ro)) (fun|⟨i,hi,_⟩=>by kernel_rfl) ⟨(0),om,⟨⟩⟩ [] ro (bM (fun|()=>.Y 6 [] [] (zI 0) [] ok))) kr
theorem FK (l:List Tn)(k:Nat)(hk:k=l.length)(hk2:k<=65535)(hl:∀i,kU (l.getD i lh))(raw:Z4)(r:Nat)(hr:r=raw.length)(hr2:r<=65535):S0 64 [dY 1,.sl false r 1 (raw.map dB),.sl false k 3 (l.flatMap bb)] [] (iD 0) []:=SpR Tryz.func64 rfl rfl rfl trivial rfl 1000 64 (λ R ok=>.F 11 (decide (65535<(r:Int))) ru<|.F 6 (decide (65535<(k:Int))) ru<|.s 12<|Hn.inl T_ok ah false 19 136 (aq Tryz.prog 103 0) (λ(x:(i:Nat)×'(hi:i<=k)×'Unit)=>match x with|⟨i,hi,_⟩=>VZ [(0,V3 false k 3 (flatMap bb l)),(1,XG (WG 83) [] []),(7,zN k),(8,nD i)] [] 136) (λ(x:(i:Nat)×'(hi:i<=k)×'Unit)=>match x with|⟨i,hi,_⟩=>k-i) [⟨Unit,.exit 0,λ x=>match x with|()=>VZ [(0,V3 false k 3 (flatMap bb l)),(1,XG (WG 83) [] []),(7,zN k),(8,nD k)] [] 136⟩] 1000 64 (fun|⟨i,hi,_⟩,Q,ZB,ZD=>.B 2 ((i:Int)<k) (λ p0 Z9=>.K 6 (true&&decide ((i:Int)<k)&&true) JO<|.K 2 (VN (i*3+3) (length (flatMap bb l))) JY<|.lst (take 3 (drop (i*3) (flatMap bb l))) ([da (VE (Tn.lit (getD l i lh))),zN (Tn.dist (getD l i lh)),zN (Tn.long (getD l i lh))]) (aJ (k:=3) (i:=i) (λ _=>rfl) om om)<|.R 42 (!decide (0<(↑(Tn.long (getD l i lh)):Int))) (λ p1=>have Z8:=vN (dl p1);.E 10 ((↑(Tn.long (getD l i lh)):Int)==0) vW<|.R 12 (!(↑(Tn.dist (getD l i lh)):Int)==0) (λ p2=>have Z7:=ap (dl p2);.abs Ml) (λ p2=>have Z7:=eq_of_beq (dm p2);.W 7 (i+1)<|.V 1 8 (zI (i+1)) (zN (i+1)) D9<|Hn.next ZB ⟨(i+1),om,⟨⟩⟩ RG [] ro)) (λ p1=>have Z8:=vM (dm p1);.R 10 ((↑(VE (Tn.lit (getD l i lh))):Int)==0) (λ p3=>have Z6:=eq_of_beq p3;.E 12 (decide (3<=(↑(Tn.long (getD l i lh)):Int))) FF<|.E 12 (decide ((↑(Tn.long (getD l i lh)):Int)<=258)) FF<|.E 12 (decide (1<=(↑(Tn.dist (getD l i lh)):Int))) FF<|.R 12 (!decide ((↑(Tn.dist (getD l i lh)):Int)<=32768)) (λ p4=>have Z5:=vN (dl p4);.abs Ml) (λ p4=>have Z5:=vM (dm p4);.W 7 (i+1)<|.V 1 8 (zI (i+1)) (zN (i+1)) D9<|Hn.next ZB ⟨(i+1),om,⟨⟩⟩ RG [] ro)) (λ p3=>have Z6:=ap p3;.abs TO))) (λ p0 Z9=>.val 8 (zN i) (zN k) D9<|Hn.last ZD 0 (():Unit) rfl [] ro)) (fun|⟨i,hi,_⟩=>by kernel_rfl) ⟨(0),om,⟨⟩⟩ [] ro (bM (fun|()=>.Y 6 [] [] (zI 0) [] ok))) kr
theorem FL (l:List Tn)(k:Nat)(hk:k=l.length)(hk2:k<=65535)(hl:∀i,kU (l.getD i lh))(raw:Z4)(r:Nat)(hr:r=raw.length)(hr2:r<=65535):S0 64 [dY 2,.sl false r 1 (raw.map dB),.sl false k 3 (l.flatMap bb)] [] (iD 0) []:=SpR Tryz.func64 rfl rfl rfl trivial rfl 1000 64 (λ R ok=>.F 11 (decide (65535<(r:Int))) ru<|.F 6 (decide (65535<(k:Int))) ru<|.s 12<|Hn.inl T_ok ah false 19 136 (aq Tryz.prog 103 0) (λ(x:(i:Nat)×'(hi:i<=k)×'Unit)=>match x with|⟨i,hi,_⟩=>VZ [(0,V3 false k 3 (flatMap bb l)),(1,XG (WG 83) [] []),(7,zN k),(8,nD i)] [] 136) (λ(x:(i:Nat)×'(hi:i<=k)×'Unit)=>match x with|⟨i,hi,_⟩=>k-i) [⟨Unit,.exit 0,λ x=>match x with|()=>VZ [(0,V3 false k 3 (flatMap bb l)),(1,XG (WG 83) [] []),(7,zN k),(8,nD k)] [] 136⟩] 1000 64 (fun|⟨i,hi,_⟩,Q,ZB,ZD=>.B 2 ((i:Int)<k) (λ p0 Z9=>.K 6 (true&&decide ((i:Int)<k)&&true) JO<|.K 2 (VN (i*3+3) (length (flatMap bb l))) JY<|.lst (take 3 (drop (i*3) (flatMap bb l))) ([da (VE (Tn.lit (getD l i lh))),zN (Tn.dist (getD l i lh)),zN (Tn.long (getD l i lh))]) (aJ (k:=3) (i:=i) (λ _=>rfl) om om)<|.R 42 (!decide (0<(↑(Tn.long (getD l i lh)):Int))) (λ p1=>have Z8:=vN (dl p1);.E 10 ((↑(Tn.long (getD l i lh)):Int)==0) vW<|.R 12 (!(↑(Tn.dist (getD l i lh)):Int)==0) (λ p2=>have Z7:=ap (dl p2);.abs Ml) (λ p2=>have Z7:=eq_of_beq (dm p2);.W 7 (i+1)<|.V 1 8 (zI (i+1)) (zN (i+1)) D9<|Hn.next ZB ⟨(i+1),om,⟨⟩⟩ RG [] ro)) (λ p1=>have Z8:=vM (dm p1);.R 10 ((↑(VE (Tn.lit (getD l i lh))):Int)==0) (λ p3=>have Z6:=eq_of_beq p3;.E 12 (decide (3<=(↑(Tn.long (getD l i lh)):Int))) FF<|.E 12 (decide ((↑(Tn.long (getD l i lh)):Int)<=258)) FF<|.E 12 (decide (1<=(↑(Tn.dist (getD l i lh)):Int))) FF<|.R 12 (!decide ((↑(Tn.dist (getD l i lh)):Int)<=32768)) (λ p4=>have Z5:=vN (dl p4);.abs Ml) (λ p4=>have Z5:=vM (dm p4);.W 7 (i+1)<|.V 1 8 (zI (i+1)) (zN (i+1)) D9<|Hn.next ZB ⟨(i+1),om,⟨⟩⟩ RG [] ro)) (λ p3=>have Z6:=ap p3;.abs TO))) (λ p0 Z9=>.val 8 (zN i) (zN k) D9<|Hn.last ZD 0 (():Unit) rfl [] ro)) (fun|⟨i,hi,_⟩=>by kernel_rfl) ⟨(0),om,⟨⟩⟩ [] ro (bM (fun|()=>.Y 6 [] [] (zI 0) [] ok))) kr
theorem gV {p:Prop}(h:p:=by(have h9:=hl i;have h5:=WB (l.getD i lh).lit;have h2:=bg hT1 hT2 (hl i);have h1:=inA.1 i om;have h8:=oA (l.getD i lh).lit.toNat;have h4:=oA (257+ak T1 (l.getD i lh).long);have h3:=oB (ak T2 (l.getD i lh).dist);have y1:=hz1 (ak T1 (l.getD i lh).long);have y2:=hz2 (ak T2 (l.getD i lh).dist);have y3:=oA 256;have h7:=cE (T1:=T1) (T2:=T2) (A:=ab (A.take n1)) (B:=ab (B.take n2)) (H:=H5) (l:=l) i om;unfold ci at h9;omega)):p:=h
theorem rP {p:Prop}(h:p:=by(have h9:=hl 0;have h5:=WB (l.getD 0 lh).lit;have h2:=bg hT1 hT2 (hl 0);have h1:=inA.1 0 om;have h8:=oA (l.getD 0 lh).lit.toNat;have h4:=oA (257+ak T1 (l.getD 0 lh).long);have h3:=oB (ak T2 (l.getD 0 lh).dist);have y1:=hz1 (ak T1 (l.getD 0 lh).long);have y2:=hz2 (ak T2 (l.getD 0 lh).dist);have y3:=oA 256;have h7:=cE (T1:=T1) (T2:=T2) (A:=ab (A.take n1)) (B:=ab (B.take n2)) (H:=H5) (l:=l) 0 om;unfold ci at h9;omega)):p:=h
theorem we {p:Prop}(h:p:=by(simp;have y3:=oA 256;omega)):p:=h
theorem kV {p:Prop}(h:p:=by unfold wB;exact we):p:=h
theorem ym {p:Prop}(h:p:=by(first|omega|(simp only[VI,bX,Wj,XJ,V8,Wf,VO,Xa,WT];omega))):p:=h
theorem FM {p:Prop}(h:p:=by(exact VR (oA _).1 (by decide))):p:=h
theorem Iq {p:Prop}(h:p:=by(refine decide_eq_true ?_;have h9:=hl i;have h5:=WB (l.getD i lh).lit;have h2:=bg hT1 hT2 (hl i);have h1:=inA.1 i om;have h8:=oA (l.getD i lh).lit.toNat;have h4:=oA (257+ak T1 (l.getD i lh).long);have h3:=oB (ak T2 (l.getD i lh).dist);have y1:=hz1 (ak T1 (l.getD i lh).long);have y2:=hz2 (ak T2 (l.getD i lh).dist);have y3:=oA 256;have h7:=cE (T1:=T1) (T2:=T2) (A:=ab (A.take n1)) (B:=ab (B.take n2)) (H:=H5) (l:=l) i om;unfold ci at h9;omega)):p:=h
theorem KA {p:Prop}(h:p:=by exact(V4 (D.sim.slw rfl (aL (by(simp;have y3:=oA 256;omega))|>.trans rfl)) (qr trivial))):p:=h
theorem zW {p:Prop}(h:p:=by(rw[f9];have h9:=hl i;have h5:=WB (l.getD i lh).lit;have h2:=bg hT1 hT2 (hl i);have h1:=inA.1 i om;have h8:=oA (l.getD i lh).lit.toNat;have h4:=oA (257+ak T1 (l.getD i lh).long);have h3:=oB (ak T2 (l.getD i lh).dist);have y1:=hz1 (ak T1 (l.getD i lh).long);have y2:=hz2 (ak T2 (l.getD i lh).dist);have y3:=oA 256;have h7:=cE (T1:=T1) (T2:=T2) (A:=ab (A.take n1)) (B:=ab (B.take n2)) (H:=H5) (l:=l) i om;unfold ci at h9;refine VL ?_;omega)):p:=h
theorem Cv {p:Prop}(h:p:=by(have z:=dK 19 (gx R0 i) (R0.getD i lh).s;have z2:=j7 R0 i;have z3:=oR i;omega)):p:=h
theorem Cw {p:Prop}(h:p:=by(rw[f9];have h9:=hl 0;have h5:=WB (l.getD 0 lh).lit;have h2:=bg hT1 hT2 (hl 0);have h1:=inA.1 0 om;have h8:=oA (l.getD 0 lh).lit.toNat;have h4:=oA (257+ak T1 (l.getD 0 lh).long);have h3:=oB (ak T2 (l.getD 0 lh).dist);have y1:=hz1 (ak T1 (l.getD 0 lh).long);have y2:=hz2 (ak T2 (l.getD 0 lh).dist);have y3:=oA 256;have h7:=cE (T1:=T1) (T2:=T2) (A:=ab (A.take n1)) (B:=ab (B.take n2)) (H:=H5) (l:=l) 0 om;unfold ci at h9;refine VL ?_;omega)):p:=h
theorem Cy {p:Prop}(h:p:=by(have h7:=cE (T1:=T1) (T2:=T2) (A:=ab (A.take n1)) (B:=ab (B.take n2)) (H:=H5) (l:=l) k om;simp only[bX,WK,V8,Wf];refine VL ?_;omega)):p:=h
theorem FP {p:Prop}(h:p:=by(have h7:=cE (T1:=T1) (T2:=T2) (A:=ab (A.take n1)) (B:=ab (B.take n2)) (H:=H5) (l:=l) i om;simp only[bX,WK,V8,Wf];refine VL ?_;omega)):p:=h
theorem KB {p:Prop}(h:p:=by(simp only[VI,VP,cT,bX,V8,Wf];have h5:=WB (l.getD i lh).lit;have h2:=bg hT1 hT2 (hl i);refine VL ?_;omega)):p:=h
theorem KC {p:Prop}(h:p:=by(refine decide_eq_true ?_;have z:=dK 19 (gx R0 i) (R0.getD i lh).s;have z2:=j7 R0 i;have z3:=oR i;omega)):p:=h
theorem KD {p:Prop}(h:p:=by(refine decide_eq_true ?_;have h9:=hl 0;have h5:=WB (l.getD 0 lh).lit;have h2:=bg hT1 hT2 (hl 0);have h1:=inA.1 0 om;have h8:=oA (l.getD 0 lh).lit.toNat;have h4:=oA (257+ak T1 (l.getD 0 lh).long);have h3:=oB (ak T2 (l.getD 0 lh).dist);have y1:=hz1 (ak T1 (l.getD 0 lh).long);have y2:=hz2 (ak T2 (l.getD 0 lh).dist);have y3:=oA 256;have h7:=cE (T1:=T1) (T2:=T2) (A:=ab (A.take n1)) (B:=ab (B.take n2)) (H:=H5) (l:=l) 0 om;unfold ci at h9;omega)):p:=h
theorem KE {p:Prop}(h:p:=by(exact VR (oB _).1 (by decide))):p:=h
theorem O6 {p:Prop}(h:p:=by(rw[bj (k:=2) (λ(x:Rn)=>(rfl:(dp x).length=2))];refine VL ?_;(omega))):p:=h
theorem O7 {p:Prop}(h:p:=by show length R0-(i+1)<length R0-i;clear ZB ZD;omega):p:=h
theorem O8 {p:Prop}(h:p:=by(have y1:=oR i;have y2:=oC (R0.getD i lh).s;have y3:=xg (R0.getD i lh).s;have y4:=lX4 i om;omega)):p:=h
theorem O9 {p:Prop}(h:p:=by(have h7:=cE (T1:=T1) (T2:=T2) (A:=ab (A.take n1)) (B:=ab (B.take n2)) (H:=H5) (l:=l) i om;simp only[VI,bX,Wj,XJ,V8,Wf,VO,Xa,WT];omega)):p:=h
structure EqV {α:Type}(a b:α):Prop where
 h:a=b
theorem wg (l:Z4)(L:Nat)(hL:L=l.length)(hL2:L<=320)(m:Nat)(hm:m<=1000)(T:Nat)(hT:EqV (gS l m) T):S0 109 [.sl false L 1 (l.map dB),nD m] [] (nD T) []:=JV l L hL hL2 m hm T hT.h
theorem TP (l:Z4)(n:Nat)(hn:n=l.length)(hn2:n<=320)(ho:∀i,i<n->(l.getD i lh).toNat<=15)(T:List Rn)(hT:EqV (xh l) T):S0 110 [.sl false n 1 (l.map dB)] [] (.tup [.ref 0 0 0 T.length 2,iD 0]) [⟨T.flatMap dp, 187,true⟩]:=SK l n hn hn2 ho T hT.h
theorem Cz (W:List Nat)(L:Nat)(hL:L=W.length)(hL2:L<=320)(hB:∀t,W.getD t lh<=1073741824)(m:Nat)(hm:1<=m∧m<=15)(hNm:(eZ W L).length<=2^m)(T:Z4)(hT:EqV (bK W m) T):S0 108 [.sl false L 1 (W.map nD),nD m] [] (.tup [.ref 0 0 0 L 1,iD 0]) [⟨T.map dB, 5,true⟩]:=by
 obtain⟨hT⟩:=hT;subst hT;exact OQ W L hL hL2 hB m hm hNm
structure DyV (T1 T2:List Sy)(l:List Tn)(k:Nat)(W1 W2:List Nat)(A B:Z4)(n1 n2:Nat)(R:List Rn)(W3:List Nat)(C O:Z4)(n3:Nat):Prop where
 w1:aQ 286 (ce T1 l k++[256])=W1
 w2:aQ 30 (du T2 l k)=W2
 a:EqV (bK W1 15) A
 b:EqV (bK W2 15) B
 t1:EqV (gS A 257) n1
 t2:EqV (gS B 1) n2
 r:EqV (xh (A.take n1++B.take n2)) R
 w3:aQ 19 (R.map Rn.s)=W3
 c:EqV (bK W3 7) C
 o:iJ C 19=O
 t3:EqV (gS O 4) n3
structure DyF (W1 W2:List Nat)(A B:Z4)(n1 n2:Nat)(R:List Rn)(W3:List Nat)(C O:Z4)(n3:Nat):Prop where
 lW1:W1.length=286
 lW2:W2.length=30
 bW1:∀t,W1.getD t lh<=1073741824
 bW2:∀t,W2.getD t lh<=1073741824
 iW1:(eZ W1 286).length<=2^15
 iW2:(eZ W2 30).length<=2^15
 lA:A.length=286
 lB:B.length=30
 k1:257<=n1∧n1<=286
 k2:1<=n2∧n2<=30
 lA2:(A.take n1).length=n1
 lB2:(B.take n2).length=n2
 cA:dI (A.take n1) 15=0
 cB:dI (B.take n2) 15=0
 mA:(ab (A.take n1)).length=n1
 mB:(ab (B.take n2)).length=n2
 oA:jZ (ab (A.take n1))
 oB:jZ (ab (B.take n2))
 lQ:(A.take n1++B.take n2).length=n1+n2
 bQ:∀i,i<n1+n2->((A.take n1++B.take n2).getD i lh).toNat<=15
 lR:R.length<=316
 oR:∀i,(R.getD i lh).s<=18∧(R.getD i lh).x<2^rb (R.getD i lh).s
 lW3:W3.length=19
 bW3:∀t,W3.getD t lh<=1073741824
 iW3:(eZ W3 19).length<=2^7
 lC:C.length=19
 cC:dI C 7=0
 mC:(ab C).length=19
 oC:jZ (ab C)
 lO:O.length=19
 k3:4<=n3∧n3<=19
 lO2:(O.take n3).length=n3
 bO:∀i,(O.getD i lh).toNat<=7
theorem U3 {l:Z4}{m n:Nat}(h:gS l m=n):l.take n=u7 l m:=by rw[lG,h]
theorem jv (l:Z4):(ab l).length=l.length:=by rw[ri,oh]
theorem CA {l:Z4}{m:Nat}(h:dI l m=0)(i:Nat):(l.getD i lh).toNat<=m:=by
 rcases Wl i l.length with q|q
 ·exact f8 (gi h).2.1 q
 ·rw[ni q];exact Wy _
theorem DyV.f {T1 T2:List Sy}{l:List Tn}{k:Nat}{W1 W2:List Nat}{A B:Z4}{n1 n2:Nat}{R:List Rn}{W3:List Nat}{C O:Z4}{n3:Nat}(D:DyV T1 T2 l k W1 W2 A B n1 n2 R W3 C O n3)(hk:k=l.length)(hk2:k<=65535):DyF W1 W2 A B n1 n2 R W3 C O n3:=by
 obtain⟨rfl,rfl,⟨rfl⟩,⟨rfl⟩,⟨t1⟩,⟨t2⟩,⟨r⟩,rfl,⟨rfl⟩,rfl,⟨t3⟩⟩:=D;have a1:(ce T1 l k++[256]).length<=65536:=by rw[VI];have:=lE (T1:=T1) (l:=l) (i:=k);simp;omega
 have a2:(du T2 l k).length<=65535:=VR (rH k om) hk2;generalize ce T1 l k++[256]=S1 at *;generalize du T2 l k=S2 at *;have lW1:=cT 286 S1;have lW2:=cT 30 S2;have i1:(eZ (aQ 286 S1) 286).length<=2^15:=VR (j6 _ _) (by decide);have i2:(eZ (aQ 30 S2) 30).length<=2^15:=VR (j6 _ _) (by decide);have cA0:=oI (aQ 286 S1) (by rw[lW1];decide) 15 (by decide) (by rw[lW1];exact i1);have cB0:=oI (aQ 30 S2) (by rw[lW2];decide) 15 (by decide) (by rw[lW2];exact i2);have lA:(bK (aQ 286 S1) 15).length=286:=by rw[kM,lW1]
 have lB:(bK (aQ 30 S2) 15).length=30:=by rw[kM,lW2]
 generalize bK (aQ 286 S1) 15=A at *;generalize bK (aQ 30 S2) 15=B at *;have h1:=lv A 257;have h2:=lv B 1;have cA:=xY (q:=257) cA0;have cB:=xY (q:=1) cB0;have lA2:=nj A 257;have lB2:=nj B 1;rw[<-U3 t1]at cA lA2;rw[<-U3 t2]at cB lB2;rw[t1]at h1 lA2;rw[t2]at h2 lB2;have bQ:∀i,((A.take n1++B.take n2).getD i lh).toNat<=15:=λ i=>by
  rw[VH];rcases Wl i n1 with q|q
  ·rw[Wi om,<-VH];exact CA cA i
  ·rw[We om,<-VH];exact CA cB _
 have lR:R.length<=316:=by
  rw[<-r];refine VR (Fs _) ?_;rw[VI];omega
 have oR:=λ i=>Kl bQ i
 rw[r]at oR;have lS:(R.map Rn.s).length<=316:=by rw[VP];exact lR
 generalize R.map Rn.s=S3 at *;have lW3:=cT 19 S3;have i3:(eZ (aQ 19 S3) 19).length<=2^7:=VR (j6 _ _) (by decide);have cC:=oI (aQ 19 S3) (by rw[lW3];decide) 7 (by decide) (by rw[lW3];exact i3);have lC:(bK (aQ 19 S3) 7).length=19:=by rw[kM,lW3]
 generalize bK (aQ 19 S3) 7=C at *;have c15:=(m7 (by decide) cC).1;have lO:=rJ C (VT 19);have h3:=lv (iJ C 19) 4;rw[t3]at h3;refine⟨lW1,lW2,λ t=>VR (dK _ _ _) om,λ t=>VR (dK _ _ _) om,i1,i2,lA,lB,by omega,by omega,lA2,lB2,cA,cB,by rw[jv];exact lA2,by rw[jv];exact lB2,eI cA,eI cB,by rw[VI];omega,λ i _=>bQ i,lR,oR,lW3,λ t=>VR (dK _ _ _) om,i3,lC,cC,by rw[jv];exact lC,eI c15,lO,by omega,by rw[VW];omega,λ i=>?_⟩;rw[oK,VH,V6]
 cases(qk.take 19)[i]? with
 |none=>exact Wy _
 |some j=>exact CA cC j
theorem DyV.inA {T1 T2:List Sy}{l:List Tn}{k:Nat}{W1 W2:List Nat}{A B:Z4}{n1 n2:Nat}{R:List Rn}{W3:List Nat}{C O:Z4}{n3:Nat}(D:DyV T1 T2 l k W1 W2 A B n1 n2 R W3 C O n3)(hk:k=l.length)(hk2:k<=65535)(hT1:T1=aB)(hT2:T2=aM)(hl:∀i,ci (l.getD i lh)):(∀i,i<k->((l.getD i lh).long=0->(l.getD i lh).lit.toNat<n1)∧((l.getD i lh).long≠0->257+ak T1 (l.getD i lh).long<n1∧ak T2 (l.getD i lh).dist<n2))∧256<n1:=by
 have F:=D.f hk hk2;obtain⟨w1,w2,⟨a⟩,⟨b⟩,⟨t1⟩,⟨t2⟩,-,-,-,-,-⟩:=D;have p1:∀s,s<286->s∈ce T1 l k++[256]->s<n1:=λ s h hm=>by
  rw[<-t1];refine Ca ?_;rw[<-a];refine ug W1 (by rw[F.lW1];decide) 15 (by decide) (by rw[F.lW1];exact F.iW1) ?_;rw[<-w1];exact xZ h hm
 have p2:∀s,s<30->s∈du T2 l k->s<n2:=λ s h hm=>by
  rw[<-t2];refine Ca ?_;rw[<-b];refine ug W2 (by rw[F.lW2];decide) 15 (by decide) (by rw[F.lW2];exact F.iW2) ?_;rw[<-w2];exact xZ h hm
 refine⟨λ i hi=>⟨λ h0=>?_,λ h0=>?_⟩,p1 256 (by decide) (List.mem_append_right _ (List.mem_singleton.2 rfl))⟩
 ·have m:=Cb (T1:=T1) hk hi
  rw[Ie,ZF h0]at m;have:=(l.getD i lh).lit.toNat_lt;exact p1 _ om (XW _ m)
 ·have te:=bg hT1 hT2 (hl i) h0
  have m:=Cb (T1:=T1) hk hi;rw[Ie,ZE h0]at m;exact⟨p1 _ om (XW _ m),p2 _ te.2 (Kn hk hi h0)⟩
def gx (R:List Rn)(i:Nat):List Nat:=lk R ((R.take i).map Rn.s)
theorem uz (R:List Rn)(i:Nat):gx R i=(R.take i).map Rn.s:=aP _ _
theorem Pd (R:List Rn):gx R 0=[]:=uz R 0
theorem Pe (R:List Rn):gx R R.length=R.map Rn.s:=by rw[uz,Wm (VT _)]
theorem j7 (R:List Rn)(i:Nat):(gx R i).length<=i:=by rw[uz,VP,VW];omega
theorem Pf {R:List Rn}{i:Nat}(h:i<R.length):gx R (i+1)=gx R i++[(R.getD i lh).s]:=by
 have e1:R.take (i+1)=R.take i++[R.getD i lh]:=by
  rw[Wo h,VH,VG h];rfl
 rw[uz,uz,e1,Wz];rfl
theorem Is (l:List Tn)(k:Nat)(hk:k=l.length)(hk2:k<=65535)(hl:∀i,ci (l.getD i lh))(T1 T2:List Sy)(hT1:T1=aB)(hT2:T2=aM)(hl1:T1.length=29)(hl2:T2.length=30)(hz1:bk T1)(hz2:bk T2)(W1 W2:List Nat)(A B:Z4)(n1 n2:Nat)(R0:List Rn)(W3:List Nat)(C O:Z4)(n3:Nat)(D:DyV T1 T2 l k W1 W2 A B n1 n2 R0 W3 C O n3)(L F:Z4)(hL:L=cn)(hF:F=dV)(a:Nat)(ha:a<=7)(raw:Z4)(r:Nat)(hr:r=raw.length)(hr2:r<=65535)(H H3 H4 H5:List Nm)(hH:H=k6 1 2)(hH3:H3=H++[⟨n1-257,5⟩,⟨n2-1,5⟩,⟨n3-4,4⟩])(hH4:cO H3 gO (O.take n3) n3=H4)(hH5:cO H4 (iv (ab C)) R0 R0.length=H5)(H' H3' H4' H5':List Nm)(hH':H'=k6 0 2)(hH3':H3'=H'++[⟨n1-257,5⟩,⟨n2-1,5⟩,⟨n3-4,4⟩])(hH4':cO H3' gO (O.take n3) n3=H4')(hH5':cO H4' (iv (ab C)) R0 R0.length=H5'):(S0 65 [nD a,dY 2,.sl false r 1 (raw.map dB),.sl false k 3 (l.flatMap bb),.v (.bool true)] [] (.ptr 0 0 0) [⟨[.ref 1 1 0 ((bf T1 T2 (ab (A.take n1)) (ab (B.take n2)) H5 l k)++iF (ab (A.take n1)) 256 0 0).length 2], 123,false⟩,⟨((bf T1 T2 (ab (A.take n1)) (ab (B.take n2)) H5 l k)++iF (ab (A.take n1)) 256 0 0).flatMap aD, 126,true⟩])∧(S0 65 [nD a,dY 2,.sl false r 1 (raw.map dB),.sl false k 3 (l.flatMap bb),.v (.bool false)] [] (.ptr 0 0 0) [⟨[.ref 1 1 0 ((bf T1 T2 (ab (A.take n1)) (ab (B.take n2)) H5' l k)++iF (ab (A.take n1)) 256 0 0).length 2], 123,false⟩,⟨((bf T1 T2 (ab (A.take n1)) (ab (B.take n2)) H5' l k)++iF (ab (A.take n1)) 256 0 0).flatMap aD, 126,true⟩]):=by
 have inA:=D.inA hk hk2 hT1 hT2 hl;obtain⟨lW1,lW2,bW1,bW2,iW1,iW2,lA,lB,g1,g2,lA2,lB2,cA,cB,mA,mB,oA,oB,lQ,bQ,lR,oR,lW3,bW3,iW3,lC,cC,mC,oC,lO,g3,lO2,bO⟩:=D.f hk hk2;obtain⟨w1,w2,eA,eB,et1,et2,eR,w3,eC,eO,et3⟩:=D;have c15:=(m7 (by decide) cC).1;refine SpecH.run2 (λ(d:Bool) (e:Nat) (H H3 H4 H5:List Nm) (hH:H=k6 e 2) (hH3:H3=H++[⟨n1-257,5⟩,⟨n2-1,5⟩,⟨n3-4,4⟩]) (hH4:cO H3 gO (O.take n3) n3=H4) (hH5:cO H4 (iv (ab C)) R0 R0.length=H5) (R:D->List Blk->Prop) (ok:∀r' bs',r'=(.ptr 0 0 0)->bs'=[⟨[.ref 1 1 0 ((bf T1 T2 (ab (A.take n1)) (ab (B.take n2)) H5 l k)++iF (ab (A.take n1)) 256 0 0).length 2], 123,false⟩,⟨((bf T1 T2 (ab (A.take n1)) (ab (B.take n2)) H5 l k)++iF (ab (A.take n1)) 256 0 0).flatMap aD, 126,true⟩]->R r' bs')=>have lH:H.length=2:=(by rw[hH];rfl);have lH3:H3.length=5:=(by rw[hH3,VI,lH];rfl);have lX3:=λ i h=>iu (H:=H3) (g:=gO) (l:=O.take n3) (c:=1) (λ _=>rfl) i h;have lH4:H4.length=5+n3:=(by rw[<-hH4,lX3 n3 om,lH3,Nat.one_mul]);have lX4:=λ i h=>iu (H:=H4) (g:=iv (ab C)) (l:=R0) (c:=2) (λ _=>rfl) i h;have lH5:H5.length=5+n3+2*R0.length:=(by rw[<-hH5,lX4 R0.length om,lH4]);((.cl 86 false [] (.fn Ru (@m9 (L) (F) aO aO))<|.M 33 (384+sh d) (384+sh d) (VF (replicate 286 (zI 0)) 176 false) (VF (map nD (aQ 286 (ce T1 l 0))) 176 false) (by(refine aw ?_;rw[OT,xT,XU];rfl))<|.blk (392+sh d) (392+sh d) (VF (replicate 30 (zI 0)) 177 false) (VF (map nD (aQ 30 (du T2 l 0))) 177 false) (by(refine aw ?_;rw[Ki,xT,XU];rfl))<|Hn.inl T_ok ah false 53 (424+sh d) (aq Tryz.prog 106 0) (λ(x:(i:Nat)×'(hi:i<=k)×'Unit)=>match x with|⟨i,hi,_⟩=>VZ [(1,XG (WG 107) [] [V7 (392+sh d) (392+sh d) 0,V7 (384+sh d) (384+sh d) 0]),(10,V3 false k 3 (flatMap bb l)),(11,zN k),(12,nD i)] [⟨16,16,16,16,.b ⟨[VJ (160+sh d) (160+sh d) 0 2 2],123,false⟩⟩,⟨(96+sh d),(96+sh d),(96+sh d),(96+sh d),.b ⟨[ai e,zI 1,uI 2,zI 2],126,false⟩⟩,⟨(160+sh d),(160+sh d),(160+sh d),(160+sh d),.b ⟨[ai e,zI 1,uI 2,zI 2],126,true⟩⟩,⟨(256+sh d),(256+sh d),(256+sh d),(256+sh d),.b ⟨map dB L,5,true⟩⟩,⟨(257+sh d),(257+sh d),(257+sh d),(257+sh d),.b ⟨map dB F,5,true⟩⟩,⟨(384+sh d),(384+sh d),(384+sh d),(384+sh d),.r ⟨(aQ 286 (ce T1 l i)).map nD,176,true⟩⟩,⟨(392+sh d),(392+sh d),(392+sh d),(392+sh d),.r ⟨(aQ 30 (du T2 l i)).map nD,177,true⟩⟩] (480+sh d)) (λ(x:(i:Nat)×'(hi:i<=k)×'Unit)=>match x with|⟨i,hi,_⟩=>k-i) [⟨Unit,.exit 0,λ x=>match x with|()=>VZ [(1,XG (WG 107) [] [V7 (392+sh d) (392+sh d) 0,V7 (384+sh d) (384+sh d) 0]),(10,V3 false k 3 (flatMap bb l)),(11,zN k),(12,nD k)] [⟨16,16,16,16,.b ⟨[VJ (160+sh d) (160+sh d) 0 2 2],123,false⟩⟩,⟨(96+sh d),(96+sh d),(96+sh d),(96+sh d),.b ⟨[ai e,zI 1,uI 2,zI 2],126,false⟩⟩,⟨(160+sh d),(160+sh d),(160+sh d),(160+sh d),.b ⟨[ai e,zI 1,uI 2,zI 2],126,true⟩⟩,⟨(256+sh d),(256+sh d),(256+sh d),(256+sh d),.b ⟨map dB L,5,true⟩⟩,⟨(257+sh d),(257+sh d),(257+sh d),(257+sh d),.b ⟨map dB F,5,true⟩⟩,⟨(384+sh d),(384+sh d),(384+sh d),(384+sh d),.r ⟨(aQ 286 (ce T1 l k)).map nD,176,true⟩⟩,⟨(392+sh d),(392+sh d),(392+sh d),(392+sh d),.r ⟨W2.map nD,177,true⟩⟩] (480+sh d)⟩] 1000 64 (fun|⟨i,hi,_⟩,Q,ZB,ZD=>.B 2 ((i:Int)<k) (λ p0 Z9=>.K 1 (true&&decide ((i:Int)<k)&&true) ym<|.K 2 (VN (i*3+3) (length (flatMap bb l))) JY<|.lst (take 3 (drop (i*3) (flatMap bb l))) ([da (VE (Tn.lit (getD l i lh))),zN (Tn.dist (getD l i lh)),zN (Tn.long (getD l i lh))]) (aJ (k:=3) (i:=i) (λ _=>rfl) om om)<|.R 13 ((↑(Tn.long (getD l i lh)):Int)==0) (λ p1=>have Z8:=eq_of_beq p1;.I 8 (↑(VE (Tn.lit (getD l i lh))):Int) JZ<|.K 6 (true&&decide ((↑(VE (Tn.lit (getD l i lh))):Int)<(↑286:Int))) N7<|.O 3 ((map nD (aQ 286 (ce T1 l i)))[0+VE (Tn.lit (getD l i lh))*1]?) (nD (getD (aQ 286 (ce T1 l i)) (VE (Tn.lit (getD l i lh))) lh)) (@kQ 286 (ce T1 l i) (l.getD i lh).lit.toNat (0+VE (Tn.lit (getD l i lh))*1) gV om)<|.I 2 ((↑(getD (aQ 286 (ce T1 l i)) (VE (Tn.lit (getD l i lh))) lh):Int)+1) (by(have z1:=dK 286 (ce T1 l i) (l.getD i lh).lit.toNat;have z2:=lE (T1:=T1) (l:=l) (i:=i);have h5:=WB (l.getD i lh).lit;have h2:=bg hT1 hT2 (hl i);omega))<|.K 1 (true&&decide ((↑(VE (Tn.lit (getD l i lh))):Int)<(↑286:Int))) N7<|.K 2 (true&&VN (0+VE (Tn.lit (getD l i lh))*1+1) (length (map nD (aQ 286 (ce T1 l i))))) KB<|.lst (ag (map nD (aQ 286 (ce T1 l i))) (0+VE (Tn.lit (getD l i lh))*1) [zI ((↑(getD (aQ 286 (ce T1 l i)) (VE (Tn.lit (getD l i lh))) lh):Int)+1)]) (map nD (aQ 286 (ce T1 l i++[VE (Tn.lit (getD l i lh))]))) (@nk 286 (ce T1 l i) (l.getD i lh).lit.toNat (0+VE (Tn.lit (getD l i lh))*1) (VE (Tn.lit (getD l i lh))) gV om om)<|.W 2 (i+1)<|.V 1 12 (zI (i+1)) (zN (i+1)) D9<|.blk (384+sh d) (384+sh d) (VF (map nD (aQ 286 (ce T1 l i++[VE (Tn.lit (getD l i lh))]))) 176 true) (VF (map nD (aQ 286 (ce T1 l (i+1)))) 176 true) (by(refine aw ?_;rw[(xV (T1:=T1) (T2:=T2) (i:=i) om om).1]))<|.blk (392+sh d) (392+sh d) (VF (map nD (aQ 30 (du T2 l i))) 177 true) (VF (map nD (aQ 30 (du T2 l (i+1)))) 177 true) (by(refine aw ?_;rw[(xV (T1:=T1) (T2:=T2) (i:=i) om om).2]))<|Hn.next ZB ⟨(i+1),om,⟨⟩⟩ RG [(16,16),((96+sh d),(96+sh d)),((160+sh d),(160+sh d)),((256+sh d),(256+sh d)),((257+sh d),(257+sh d)),((384+sh d),(384+sh d)),((392+sh d),(392+sh d))] HK) (λ p1=>have Z8:=ap p1;.C 7 142 false [] (.fn vO (@j5 (T1) aO om om (Tn.long (getD l i lh)) gV gV))<|.K 23 (true&&decide ((↑(257+ak T1 (Tn.long (getD l i lh))):Int)<(↑286:Int))) Iq<|.O 3 ((map nD (aQ 286 (ce T1 l i)))[0+(257+ak T1 (Tn.long (getD l i lh)))*1]?) (nD (getD (aQ 286 (ce T1 l i)) (257+ak T1 (Tn.long (getD l i lh))) lh)) (@kQ 286 (ce T1 l i) (257+ak T1 (l.getD i lh).long) (0+(257+ak T1 (Tn.long (getD l i lh)))*1) gV om)<|.I 2 ((↑(getD (aQ 286 (ce T1 l i)) (257+ak T1 (Tn.long (getD l i lh))) lh):Int)+1) (by(have z1:=dK 286 (ce T1 l i) (257+ak T1 (l.getD i lh).long);have z2:=lE (T1:=T1) (l:=l) (i:=i);have h5:=WB (l.getD i lh).lit;have h2:=bg hT1 hT2 (hl i);omega))<|.K 1 (true&&decide ((↑(257+ak T1 (Tn.long (getD l i lh))):Int)<(↑286:Int))) Iq<|.K 2 (true&&VN (0+(257+ak T1 (Tn.long (getD l i lh)))*1+1) (length (map nD (aQ 286 (ce T1 l i))))) KB<|.lst (ag (map nD (aQ 286 (ce T1 l i))) (0+(257+ak T1 (Tn.long (getD l i lh)))*1) [zI ((↑(getD (aQ 286 (ce T1 l i)) (257+ak T1 (Tn.long (getD l i lh))) lh):Int)+1)]) (map nD (aQ 286 (ce T1 l i++[257+ak T1 (Tn.long (getD l i lh))]))) (@nk 286 (ce T1 l i) (257+ak T1 (l.getD i lh).long) (0+(257+ak T1 (Tn.long (getD l i lh)))*1) (257+ak T1 (Tn.long (getD l i lh))) gV om om)<|.C 7 143 false [] (.fn vP (@oo (T2) aO om om (Tn.dist (getD l i lh)) gV gV))<|.K 22 (true&&decide ((↑(ak T2 (Tn.dist (getD l i lh))):Int)<(↑30:Int))) Iq<|.O 3 ((map nD (aQ 30 (du T2 l i)))[0+ak T2 (Tn.dist (getD l i lh))*1]?) (nD (getD (aQ 30 (du T2 l i)) (ak T2 (Tn.dist (getD l i lh))) lh)) (@kQ 30 (du T2 l i) (ak T2 (l.getD i lh).dist) (0+ak T2 (Tn.dist (getD l i lh))*1) gV om)<|.I 2 ((↑(getD (aQ 30 (du T2 l i)) (ak T2 (Tn.dist (getD l i lh))) lh):Int)+1) (by(have z1:=dK 30 (du T2 l i) (ak T2 (l.getD i lh).dist);have z2:=rH (T2:=T2) (l:=l) i om;have h5:=WB (l.getD i lh).lit;have h2:=bg hT1 hT2 (hl i);omega))<|.K 1 (true&&decide ((↑(ak T2 (Tn.dist (getD l i lh))):Int)<(↑30:Int))) Iq<|.K 2 (true&&VN (0+ak T2 (Tn.dist (getD l i lh))*1+1) (length (map nD (aQ 30 (du T2 l i))))) KB<|.lst (ag (map nD (aQ 30 (du T2 l i))) (0+ak T2 (Tn.dist (getD l i lh))*1) [zI ((↑(getD (aQ 30 (du T2 l i)) (ak T2 (Tn.dist (getD l i lh))) lh):Int)+1)]) (map nD (aQ 30 (du T2 l i++[ak T2 (Tn.dist (getD l i lh))]))) (@nk 30 (du T2 l i) (ak T2 (l.getD i lh).dist) (0+ak T2 (Tn.dist (getD l i lh))*1) (ak T2 (Tn.dist (getD l i lh))) gV om om)<|.W 2 (i+1)<|.V 1 12 (zI (i+1)) (zN (i+1)) D9<|.blk (384+sh d) (384+sh d) (VF (map nD (aQ 286 (ce T1 l i++[257+ak T1 (Tn.long (getD l i lh))]))) 176 true) (VF (map nD (aQ 286 (ce T1 l (i+1)))) 176 true) (by(refine aw ?_;rw[(xW (T1:=T1) (T2:=T2) (i:=i) om om).1]))<|.blk (392+sh d) (392+sh d) (VF (map nD (aQ 30 (du T2 l i++[ak T2 (Tn.dist (getD l i lh))]))) 177 true) (VF (map nD (aQ 30 (du T2 l (i+1)))) 177 true) (by(refine aw ?_;rw[(xW (T1:=T1) (T2:=T2) (i:=i) om om).2]))<|Hn.next ZB ⟨(i+1),om,⟨⟩⟩ RG [(16,16),((96+sh d),(96+sh d)),((160+sh d),(160+sh d)),((256+sh d),(256+sh d)),((257+sh d),(257+sh d)),((384+sh d),(384+sh d)),((392+sh d),(392+sh d))] HK)) (λ p0 Z9=>.val 12 (zN i) (zN k) Mg<|.blk (384+sh d) (384+sh d) (VF (map nD (aQ 286 (ce T1 l i))) 176 true) (VF (map nD (aQ 286 (ce T1 l k))) 176 true) Mg<|.blk (392+sh d) (392+sh d) (VF (map nD (aQ 30 (du T2 l i))) 177 true) (VF (map nD W2) 177 true) (by(rw[show i=k from by omega,w2]))<|Hn.last ZD 0 (():Unit) rfl [(16,16),((96+sh d),(96+sh d)),((160+sh d),(160+sh d)),((256+sh d),(256+sh d)),((257+sh d),(257+sh d)),((384+sh d),(384+sh d)),((392+sh d),(392+sh d))] HK)) (fun|⟨i,hi,_⟩=>by cases d<;>kernel_rfl) ⟨(0),om,⟨⟩⟩ [(16,16),((96+sh d),(96+sh d)),((160+sh d),(160+sh d)),((256+sh d),(256+sh d)),((257+sh d),(257+sh d)),((384+sh d),(384+sh d)),((392+sh d),(392+sh d))] HK (bM (fun|()=>.O 11 ((map nD (aQ 286 (ce T1 l k)))[256]?) (nD (getD (aQ 286 (ce T1 l k)) 256 lh)) (@kQ 286 (ce T1 l k) 256 (256) om om)<|.I 2 ((↑(getD (aQ 286 (ce T1 l k)) 256 lh):Int)+1) (by(have z1:=dK 286 (ce T1 l k) 256;have z2:=lE (T1:=T1) (l:=l) (i:=k);omega))<|.K 4 (true&&VN 257 (length (map nD (aQ 286 (ce T1 l k))))) (by(rw[VP,cT];rfl))<|.lst (ag (map nD (aQ 286 (ce T1 l k))) 256 [zI ((↑(getD (aQ 286 (ce T1 l k)) 256 lh):Int)+1)]) (map nD W1) (@OW 286 (ce T1 l k) 256 W1 om (256) (256) om om om)<|.K 1 (true&&VN 286 (length (map nD W1))&&true) we<|.L 1 108 false [] (true&&(true&&VN 286 (length (map nD W1))&&true&&ae (bif true&&VK 286 (length (map nD W1))then map nD W1 else take 286 (drop 0 (map nD W1))))&&true) we ([V3 true 286 1 (bif true&&VK 286 (length (map nD W1))then map nD W1 else take 286 (drop 0 (map nD W1))),zI 15]) KA (.fn Q108 (@Cz (W1) (286) om om om (15) ym om (A) aO))<|.K 7 (true&&VN 30 (length (map nD W2))&&true) we<|.L 1 108 false [] (true&&(true&&VN 30 (length (map nD W2))&&true&&ae (bif true&&VK 30 (length (map nD W2))then map nD W2 else take 30 (drop 0 (map nD W2))))&&true) we ([V3 true 30 1 (bif true&&VK 30 (length (map nD W2))then map nD W2 else take 30 (drop 0 (map nD W2))),zI 15]) KA (.fn Q108 (@Cz (W2) (30) om om om (15) ym om (B) aO))<|.L 10 109 false [] (true&&(true&&VN 286 (length (map dB A))&&true&&ae (bif true&&VK 286 (length (map dB A))then map dB A else take 286 (drop 0 (map dB A))))&&true) we ([V3 true 286 1 (bif true&&VK 286 (length (map dB A))then map dB A else take 286 (drop 0 (map dB A))),zI 257]) KA (.fn Q109 (@wg (A) (286) om om (257) ym (n1) aO))<|.K 1 (aT none (some (n1:Int)) none 286&&true) we<|.L 3 109 false [] (true&&(true&&VN 30 (length (map dB B))&&true&&ae (bif true&&VK 30 (length (map dB B))then map dB B else take 30 (drop 0 (map dB B))))&&true) we ([V3 true 30 1 (bif true&&VK 30 (length (map dB B))then map dB B else take 30 (drop 0 (map dB B))),zI 1]) KA (.fn Q109 (@wg (B) (30) om om (1) ym (n2) aO))<|.K 1 (aT none (some (n2:Int)) none 30&&true) we<|.L 7 68 false [] (true&&(true&&(wB (map dB A) n1 1&&(wB (map dB B) n2 1&&true)))&&true) kV ([V3 true 2 1 [wD (map dB A) n1 1,wD (map dB B) n2 1]]) (by exact(V4 (D.sim.slc (cells:=[V3 (VN 1 n1) n1 1 (bif true&&VK (n1*1) (length (map dB A))then map dB A else take (n1*1) (drop 0 (map dB A))),V3 (VN 1 n2) n2 1 (bif true&&VK (n2*1) (length (map dB B))then map dB B else take (n2*1) (drop 0 (map dB B)))]) (cells':=[V3 false n1 1 (map dB (take n1 A)),V3 false n2 1 (map dB (take n2 B))]) rfl (V4 (D.sim.slw rfl ((bG (A) (0) (n1*1)).trans (by(simp;done)))) (V4 (D.sim.slw rfl ((bG (B) (0) (n2*1)).trans (by(simp;done)))) trivial))) trivial)) (V0 (ao.of Tryz.func68 rfl rfl) (@O3 (false) (false) (take n1 A) (take n2 B) (n1) (n2) om om om om))<|.L 1 110 false [] (true&&(wB (map dB (take n1 A++take n2 B)) (n1+n2) 1)&&true) kV ([wD (map dB (take n1 A++take n2 B)) (n1+n2) 1]) (by exact(V4 (D.sim.slw rfl (aL (by(simp;have y3:=oA 256;omega))|>.trans rfl)) trivial)) (V0 (ao.of Tryz.func110 rfl rfl) (@TP (take n1 A++take n2 B) (n1+n2) om om om (R0) aO))<|.M 12 (848+sh d) (848+sh d) (VF [zI 0,zI 0,zI 0,zI 0,zI 0,zI 0,zI 0,zI 0,zI 0,zI 0,zI 0,zI 0,zI 0,zI 0,zI 0,zI 0,zI 0,zI 0,zI 0] 185 false) (VF (map nD (aQ 19 (gx R0 0))) 185 false) (by(refine aw ?_;rw[Pd,xT,XU];rfl))<|Hn.inl T_ok ah false 149 (368+sh d) (aq Tryz.prog 88 0) (λ(x:(i:Nat)×'(hi:i<=R0.length)×'Unit)=>match x with|⟨i,hi,_⟩=>VZ [(0,V7 16 16 0),(4,VJ (408+sh d) (408+sh d) 0 n1 1),(5,VJ (416+sh d) (416+sh d) 0 n2 1),(8,VJ (424+sh d) (424+sh d) 0 (length R0) 2),(10,V7 (432+sh d) (432+sh d) 0),(55,VJ (424+sh d) (424+sh d) 0 (length R0) 2),(56,zN (length R0)),(57,nD i)] [⟨16,16,16,16,.b ⟨[VJ (160+sh d) (160+sh d) 0 2 2],123,false⟩⟩,⟨(96+sh d),(96+sh d),(96+sh d),(96+sh d),.b ⟨[ai e,zI 1,uI 2,zI 2],126,false⟩⟩,⟨(160+sh d),(160+sh d),(160+sh d),(160+sh d),.b ⟨[ai e,zI 1,uI 2,zI 2],126,true⟩⟩,⟨(256+sh d),(256+sh d),(256+sh d),(256+sh d),.b ⟨map dB L,5,true⟩⟩,⟨(257+sh d),(257+sh d),(257+sh d),(257+sh d),.b ⟨map dB F,5,true⟩⟩,⟨(408+sh d),(408+sh d),(600+sh d),(600+sh d),.b ⟨map dB A,5,true⟩⟩,⟨(416+sh d),(416+sh d),(648+sh d),(648+sh d),.b ⟨map dB B,5,true⟩⟩,⟨(424+sh d),(424+sh d),(800+sh d),(800+sh d),.b ⟨flatMap dp R0,187,true⟩⟩,⟨(432+sh d),(432+sh d),(848+sh d),(848+sh d),.r ⟨(aQ 19 (gx R0 i)).map nD,185,true⟩⟩] (440+sh d)) (λ(x:(i:Nat)×'(hi:i<=R0.length)×'Unit)=>match x with|⟨i,hi,_⟩=>R0.length-i) [⟨Unit,.exit 0,λ x=>match x with|()=>VZ [(0,V7 16 16 0),(4,VJ (408+sh d) (408+sh d) 0 n1 1),(5,VJ (416+sh d) (416+sh d) 0 n2 1),(8,VJ (424+sh d) (424+sh d) 0 (length R0) 2),(10,V7 (432+sh d) (432+sh d) 0),(55,VJ (424+sh d) (424+sh d) 0 (length R0) 2),(56,zN (length R0))] [⟨16,16,16,16,.b ⟨[VJ (160+sh d) (160+sh d) 0 2 2],123,false⟩⟩,⟨(96+sh d),(96+sh d),(96+sh d),(96+sh d),.b ⟨[ai e,zI 1,uI 2,zI 2],126,false⟩⟩,⟨(160+sh d),(160+sh d),(160+sh d),(160+sh d),.b ⟨[ai e,zI 1,uI 2,zI 2],126,true⟩⟩,⟨(256+sh d),(256+sh d),(256+sh d),(256+sh d),.b ⟨map dB L,5,true⟩⟩,⟨(257+sh d),(257+sh d),(257+sh d),(257+sh d),.b ⟨map dB F,5,true⟩⟩,⟨(408+sh d),(408+sh d),(600+sh d),(600+sh d),.b ⟨map dB A,5,true⟩⟩,⟨(416+sh d),(416+sh d),(648+sh d),(648+sh d),.b ⟨map dB B,5,true⟩⟩,⟨(424+sh d),(424+sh d),(800+sh d),(800+sh d),.b ⟨flatMap dp R0,187,true⟩⟩,⟨(432+sh d),(432+sh d),(848+sh d),(848+sh d),.r ⟨W3.map nD,185,true⟩⟩] (440+sh d)⟩] 1000 64 (fun|⟨i,hi,_⟩,Q,ZB,ZD=>.B 2 ((i:Int)<(↑(length R0):Int)) (λ p2 Z7=>.K 1 (true&&decide ((i:Int)<(↑(length R0):Int))) aO<|.K 2 (VN (0+i*2+2) (length (flatMap dp R0))) O6<|.lst (take 2 (drop (0+i*2) (flatMap dp R0))) ([zN (Rn.s (getD R0 i lh)),zN (Rn.x (getD R0 i lh))]) (aJ (k:=2) (i:=i) (λ _=>rfl) om om)<|.K 12 (true&&decide ((↑(Rn.s (getD R0 i lh)):Int)<(↑19:Int))) KC<|.O 3 ((map nD (aQ 19 (gx R0 i)))[0+Rn.s (getD R0 i lh)*1]?) (nD (getD (aQ 19 (gx R0 i)) (Rn.s (getD R0 i lh)) lh)) (@kQ 19 (gx R0 i) (R0.getD i lh).s (0+Rn.s (getD R0 i lh)*1) Cv om)<|.I 2 ((↑(getD (aQ 19 (gx R0 i)) (Rn.s (getD R0 i lh)) lh):Int)+1) Cv<|.K 1 (true&&decide ((↑(Rn.s (getD R0 i lh)):Int)<(↑19:Int))) KC<|.K 2 (true&&VN (0+Rn.s (getD R0 i lh)*1+1) (length (map nD (aQ 19 (gx R0 i))))) (by(simp only[VP,cT,V8,Wf];have z:=dK 19 (gx R0 i) (R0.getD i lh).s;have z2:=j7 R0 i;have z3:=oR i;refine VL ?_;omega))<|.lst (ag (map nD (aQ 19 (gx R0 i))) (0+Rn.s (getD R0 i lh)*1) [zI ((↑(getD (aQ 19 (gx R0 i)) (Rn.s (getD R0 i lh)) lh):Int)+1)]) (map nD (aQ 19 (gx R0 i++[Rn.s (getD R0 i lh)]))) (@nk 19 (gx R0 i) (R0.getD i lh).s (0+Rn.s (getD R0 i lh)*1) (Rn.s (getD R0 i lh)) Cv om om)<|.W 2 (i+1)<|.V 1 57 (zI (i+1)) (zN (i+1)) D9<|.blk (432+sh d) (432+sh d) (VF (map nD (aQ 19 (gx R0 i++[Rn.s (getD R0 i lh)]))) 185 true) (VF (map nD (aQ 19 (gx R0 (i+1)))) 185 true) (by(refine aw ?_;rw[Pf (i:=i) om]))<|Hn.next ZB ⟨(i+1),om,⟨⟩⟩ O7 [(16,16),((96+sh d),(96+sh d)),((160+sh d),(160+sh d)),((256+sh d),(256+sh d)),((257+sh d),(257+sh d)),((408+sh d),(408+sh d)),((416+sh d),(416+sh d)),((424+sh d),(424+sh d)),((432+sh d),(432+sh d))] HK) (λ p2 Z7=>.blk (432+sh d) (432+sh d) (VF (map nD (aQ 19 (gx R0 i))) 185 true) (VF (map nD W3) 185 true) (by(rw[show i=R0.length from by omega,Pe,w3]))<|Hn.last ZD 0 (():Unit) rfl [(16,16),((96+sh d),(96+sh d)),((160+sh d),(160+sh d)),((256+sh d),(256+sh d)),((257+sh d),(257+sh d)),((408+sh d),(408+sh d)),((416+sh d),(416+sh d)),((424+sh d),(424+sh d)),((432+sh d),(432+sh d))] HK)) (fun|⟨i,hi,_⟩=>by cases d<;>kernel_rfl) ⟨(0),om,⟨⟩⟩ [(16,16),((96+sh d),(96+sh d)),((160+sh d),(160+sh d)),((256+sh d),(256+sh d)),((257+sh d),(257+sh d)),((600+sh d),(600+sh d)),((648+sh d),(648+sh d)),((800+sh d),(800+sh d)),((848+sh d),(848+sh d))] HK (bM (fun|()=>.K 1 (true&&VN 19 (length (map nD W3))&&true) we<|.L 1 108 false [] (true&&(true&&VN 19 (length (map nD W3))&&true&&ae (bif true&&VK 19 (length (map nD W3))then map nD W3 else take 19 (drop 0 (map nD W3))))&&true) we ([V3 true 19 1 (bif true&&VK 19 (length (map nD W3))then map nD W3 else take 19 (drop 0 (map nD W3))),zI 7]) KA (.fn Q108 (@Cz (W3) (19) om om om (7) ym om (C) aO))<|.C 9 111 false [] (.fn Se (@EY))<|.s 1<|.nils 15 (520+sh d) 1 5<|.blk (520+sh d) (520+sh d) (VF [] 5 true) (VF (map dB (iJ C 0)) 5 true) (by(rw[If];rfl))<|Hn.inl T_ok ah false 149 (368+sh d) (aq Tryz.prog 88 1) (λ(x:(i:Nat)×'(hi:i<=19)×'Unit)=>match x with|⟨i,hi,_⟩=>VZ [(0,V7 16 16 0),(4,VJ (408+sh d) (408+sh d) 0 n1 1),(5,VJ (416+sh d) (416+sh d) 0 n2 1),(8,VJ (424+sh d) (424+sh d) 0 (length R0) 2),(13,VJ (432+sh d) (432+sh d) 0 19 1),(15,(VJ (440+sh d) (440+sh d) (0) (i) 1)),(73,Wu [zI 16,zI 17,zI 18,zI 0,zI 8,zI 7,zI 9,zI 6,zI 10,zI 5,zI 11,zI 4,zI 12,zI 3,zI 13,zI 2,zI 14,zI 1,zI 15]),(74,nD i)] [⟨16,16,16,16,.b ⟨[VJ (160+sh d) (160+sh d) 0 2 2],123,false⟩⟩,⟨(96+sh d),(96+sh d),(96+sh d),(96+sh d),.b ⟨[ai e,zI 1,uI 2,zI 2],126,false⟩⟩,⟨(160+sh d),(160+sh d),(160+sh d),(160+sh d),.b ⟨[ai e,zI 1,uI 2,zI 2],126,true⟩⟩,⟨(256+sh d),(256+sh d),(256+sh d),(256+sh d),.b ⟨map dB L,5,true⟩⟩,⟨(257+sh d),(257+sh d),(257+sh d),(257+sh d),.b ⟨map dB F,5,true⟩⟩,⟨(408+sh d),(408+sh d),(408+sh d),(408+sh d),.b ⟨map dB A,5,true⟩⟩,⟨(416+sh d),(416+sh d),(416+sh d),(416+sh d),.b ⟨map dB B,5,true⟩⟩,⟨(424+sh d),(424+sh d),(424+sh d),(424+sh d),.b ⟨flatMap dp R0,187,true⟩⟩,⟨(432+sh d),(432+sh d),(448+sh d),(448+sh d),.b ⟨map dB C,5,true⟩⟩,⟨(440+sh d),(440+sh d),(520+sh d),(520+sh d),.b ⟨(iJ C i).map dB,5,true⟩⟩] (448+sh d)) (λ(x:(i:Nat)×'(hi:i<=19)×'Unit)=>match x with|⟨i,hi,_⟩=>19-i) [⟨Unit,.exit 2,λ x=>match x with|()=>VZ [(0,V7 16 16 0),(4,VJ (408+sh d) (408+sh d) 0 n1 1),(5,VJ (416+sh d) (416+sh d) 0 n2 1),(8,VJ (424+sh d) (424+sh d) 0 (length R0) 2),(13,VJ (432+sh d) (432+sh d) 0 19 1),(15,(VJ (440+sh d) (440+sh d) (0) (19) 1)),(73,Wu [zI 16,zI 17,zI 18,zI 0,zI 8,zI 7,zI 9,zI 6,zI 10,zI 5,zI 11,zI 4,zI 12,zI 3,zI 13,zI 2,zI 14,zI 1,zI 15])] [⟨16,16,16,16,.b ⟨[VJ (160+sh d) (160+sh d) 0 2 2],123,false⟩⟩,⟨(96+sh d),(96+sh d),(96+sh d),(96+sh d),.b ⟨[ai e,zI 1,uI 2,zI 2],126,false⟩⟩,⟨(160+sh d),(160+sh d),(160+sh d),(160+sh d),.b ⟨[ai e,zI 1,uI 2,zI 2],126,true⟩⟩,⟨(256+sh d),(256+sh d),(256+sh d),(256+sh d),.b ⟨map dB L,5,true⟩⟩,⟨(257+sh d),(257+sh d),(257+sh d),(257+sh d),.b ⟨map dB F,5,true⟩⟩,⟨(408+sh d),(408+sh d),(408+sh d),(408+sh d),.b ⟨map dB A,5,true⟩⟩,⟨(416+sh d),(416+sh d),(416+sh d),(416+sh d),.b ⟨map dB B,5,true⟩⟩,⟨(424+sh d),(424+sh d),(424+sh d),(424+sh d),.b ⟨flatMap dp R0,187,true⟩⟩,⟨(432+sh d),(432+sh d),(448+sh d),(448+sh d),.b ⟨map dB C,5,true⟩⟩,⟨(440+sh d),(440+sh d),(520+sh d),(520+sh d),.b ⟨O.map dB,5,true⟩⟩] (448+sh d)⟩] 1000 64 (fun|⟨i,hi,_⟩,Q,ZB,ZD=>.B 2 ((i:Int)<19) (λ p3 Z6=>.K 1 (true&&decide ((i:Int)<(↑19:Int))) aO<|.opt ((map nD qk)[i*1]?) (nD (zH C (i*1))) (@Ih C (i*1) om)<|.K 5 (true&&decide ((↑(zH C (i*1)):Int)<(↑19:Int))) (by(have y:=rL C (i*1) om;rw[V8];refine decide_eq_true ?_;omega))<|.O 2 ((map dB C)[0+zH C (i*1)*1]?) (dB (getD C (0+zH C (i*1)*1) lh)) (am _ _ (by(have y:=rL C (i*1) om;omega)))<|.K 3 (true&&VK (i*1) (length (map dB (iJ C i)))&&true&&true&&true&&true&&VN ((i+1)*1) 140737488355328) (by(rw[VP,rJ C (i:=i) (by(omega))];simp only[V5,WK,V8,Wf];refine VL ?_;(omega)))<|.W 3 (i+1)<|.V 1 74 (zI (i+1)) (zN (i+1)) D9<|.blk (520+sh d) (520+sh d) (VF (map dB (iJ C i)++[da (VE (getD C (0+zH C (i*1)*1) lh))]) 5 true) (VF (map dB (iJ C (i+1))) 5 true) (by(refine aw ?_;rw[Ig C (i:=i) om,Wz];simp only[rK,V5,Wd];rfl))<|Hn.next ZB ⟨(i+1),om,⟨⟩⟩ (by show 19-(i+1)<19-i;clear ZB ZD;omega) [(16,16),((96+sh d),(96+sh d)),((160+sh d),(160+sh d)),((256+sh d),(256+sh d)),((257+sh d),(257+sh d)),((408+sh d),(408+sh d)),((416+sh d),(416+sh d)),((424+sh d),(424+sh d)),((432+sh d),(432+sh d)),((520+sh d),(520+sh d))] HK) (λ p3 Z6=>.val 15 (VJ (440+sh d) (440+sh d) 0 i 1) (VJ (440+sh d) (440+sh d) 0 19 1) we<|.blk (440+sh d) (440+sh d) (VF (map dB (iJ C i)) 5 true) (VF (map dB O) 5 true) (by(rw[show i=19 from by omega,eO]))<|Hn.last ZD 0 (():Unit) rfl [(16,16),((96+sh d),(96+sh d)),((160+sh d),(160+sh d)),((256+sh d),(256+sh d)),((257+sh d),(257+sh d)),((408+sh d),(408+sh d)),((416+sh d),(416+sh d)),((424+sh d),(424+sh d)),((432+sh d),(432+sh d)),((440+sh d),(440+sh d))] HK)) (fun|⟨i,hi,_⟩=>by cases d<;>kernel_rfl) ⟨(0),om,⟨⟩⟩ [(16,16),((96+sh d),(96+sh d)),((160+sh d),(160+sh d)),((256+sh d),(256+sh d)),((257+sh d),(257+sh d)),((408+sh d),(408+sh d)),((416+sh d),(416+sh d)),((424+sh d),(424+sh d)),((448+sh d),(448+sh d)),((520+sh d),(520+sh d))] HK (bM (fun|()=>.L 3 109 false [] (true&&(true&&VN 19 (length (map dB O))&&true&&ae (bif true&&VK 19 (length (map dB O))then map dB O else take 19 (drop 0 (map dB O))))&&true) we ([V3 true 19 1 (bif true&&VK 19 (length (map dB O))then map dB O else take 19 (drop 0 (map dB O))),zI 4]) KA (.fn Q109 (@wg (O) (19) om om (4) ym (n3) aO))<|.K 1 (aT none (some (n3:Int)) none 19&&true) we<|.W 6 (n1-256)<|.W 2 (n1-256-1)<|.O 1 (ay .u32 ((n1:Int)-256-1)) (uI (n1-256-1)) (aA om)<|.W 6 (n2-1)<|.O 1 (ay .u32 ((n2:Int)-1)) (uI (n2-1)) (aA om)<|.W 6 (n3-4)<|.O 1 (ay .u32 ((n3:Int)-4)) (uI (n3-4)) (aA om)<|.M 28 16 16 (VF [VJ (688+sh d) (688+sh d) 0 5 2] 123 false) (VF [VJ (688+sh d) (688+sh d) 0 (length (cO H3 gO (take n3 O) 0)) 2] 123 false) (by(rw[kO,lH3]))<|.blk (688+sh d) (688+sh d) (VF [ai e,zI 1,uI 2,zI 2,uI (n1-256-1),zI 5,uI (n2-1),zI 5,uI (n3-4),zI 4] 126 true) (VF (flatMap aD (cO H3 gO (take n3 O) 0)) 126 true) (by(refine aw ?_;rw[kO,hH3,hH];exact OX om om om))<|Hn.inl T_ok ah false 149 (368+sh d) (aq Tryz.prog 88 2) (λ(x:(i:Nat)×'(hi:i<=n3)×'Unit)=>match x with|⟨i,hi,_⟩=>VZ [(0,V7 16 16 0),(4,VJ (400+sh d) (400+sh d) 0 n1 1),(5,VJ (408+sh d) (408+sh d) 0 n2 1),(8,VJ (416+sh d) (416+sh d) 0 (length R0) 2),(13,VJ (424+sh d) (424+sh d) 0 19 1),(108,VJ (432+sh d) (432+sh d) 0 n3 1),(109,zN n3),(110,nD i)] [⟨16,16,16,16,.b ⟨[(VJ (440+sh d) (440+sh d) (0) ((cO H3 gO (O.take n3) i).length) 2)],123,false⟩⟩,⟨(96+sh d),(96+sh d),(96+sh d),(96+sh d),.b ⟨[ai e,zI 1,uI 2,zI 2],126,false⟩⟩,⟨(256+sh d),(256+sh d),(256+sh d),(256+sh d),.b ⟨map dB L,5,true⟩⟩,⟨(257+sh d),(257+sh d),(257+sh d),(257+sh d),.b ⟨map dB F,5,true⟩⟩,⟨(400+sh d),(400+sh d),(408+sh d),(408+sh d),.b ⟨map dB A,5,true⟩⟩,⟨(408+sh d),(408+sh d),(416+sh d),(416+sh d),.b ⟨map dB B,5,true⟩⟩,⟨(416+sh d),(416+sh d),(424+sh d),(424+sh d),.b ⟨flatMap dp R0,187,true⟩⟩,⟨(424+sh d),(424+sh d),(432+sh d),(432+sh d),.b ⟨map dB C,5,true⟩⟩,⟨(432+sh d),(432+sh d),(440+sh d),(440+sh d),.b ⟨map dB O,5,true⟩⟩,⟨(440+sh d),(440+sh d),(688+sh d),(688+sh d),.b ⟨(cO H3 gO (O.take n3) i).flatMap aD,126,true⟩⟩] (448+sh d)) (λ(x:(i:Nat)×'(hi:i<=n3)×'Unit)=>match x with|⟨i,hi,_⟩=>n3-i) [⟨Unit,.exit 4,λ x=>match x with|()=>VZ [(0,V7 16 16 0),(4,VJ (400+sh d) (400+sh d) 0 n1 1),(5,VJ (408+sh d) (408+sh d) 0 n2 1),(8,VJ (416+sh d) (416+sh d) 0 (length R0) 2),(13,VJ (424+sh d) (424+sh d) 0 19 1),(108,VJ (432+sh d) (432+sh d) 0 n3 1),(109,zN n3)] [⟨16,16,16,16,.b ⟨[(VJ (440+sh d) (440+sh d) (0) (H4.length) 2)],123,false⟩⟩,⟨(96+sh d),(96+sh d),(96+sh d),(96+sh d),.b ⟨[ai e,zI 1,uI 2,zI 2],126,false⟩⟩,⟨(256+sh d),(256+sh d),(256+sh d),(256+sh d),.b ⟨map dB L,5,true⟩⟩,⟨(257+sh d),(257+sh d),(257+sh d),(257+sh d),.b ⟨map dB F,5,true⟩⟩,⟨(400+sh d),(400+sh d),(408+sh d),(408+sh d),.b ⟨map dB A,5,true⟩⟩,⟨(408+sh d),(408+sh d),(416+sh d),(416+sh d),.b ⟨map dB B,5,true⟩⟩,⟨(416+sh d),(416+sh d),(424+sh d),(424+sh d),.b ⟨flatMap dp R0,187,true⟩⟩,⟨(424+sh d),(424+sh d),(432+sh d),(432+sh d),.b ⟨map dB C,5,true⟩⟩,⟨(432+sh d),(432+sh d),(440+sh d),(440+sh d),.b ⟨map dB O,5,true⟩⟩,⟨(440+sh d),(440+sh d),(688+sh d),(688+sh d),.b ⟨H4.flatMap aD,126,true⟩⟩] (448+sh d)⟩] 1000 64 (fun|⟨i,hi,_⟩,Q,ZB,ZD=>.B 2 ((i:Int)<n3) (λ p4 Z5=>.K 1 (true&&decide ((i:Int)<n3)) aO<|.O 2 ((map dB O)[0+i*1]?) (dB (getD O (0+i*1) lh)) (am _ _ om)<|.O 4 (ay .u32 (↑(VE (getD O (0+i*1) lh)):Int)) (ai (VE (getD O (0+i*1) lh))) (aA JZ)<|.K 17 (true&&VK (length (cO H3 gO (take n3 O) i)*2) (length (flatMap aD (cO H3 gO (take n3 O) i)))&&true&&true&&true&&true&&VN ((length (cO H3 gO (take n3 O) i)+1)*16) 140737488355328) (by(simp only[bX,lX3 i om,WK,V8,Wf];refine VL ?_;(omega)))<|.W 9 (i+1)<|.V 1 110 (zI (i+1)) (zN (i+1)) D9<|.blk 16 16 (VF [VJ (576+sh d) (576+sh d) 0 (length (cO H3 gO (take n3 O) i)+1) 2] 123 false) (VF [VJ (576+sh d) (576+sh d) 0 (length (cO H3 gO (take n3 O) (i+1))) 2] 123 false) (by(rw[kP (i:=i) om,VI];rfl))<|.blk (576+sh d) (576+sh d) (VF (flatMap aD (cO H3 gO (take n3 O) i)++[ai (VE (getD O (0+i*1) lh)),zI 3]) 126 true) (VF (flatMap aD (cO H3 gO (take n3 O) (i+1))) 126 true) (by(refine aw ?_;rw[kP (i:=i) om,cD];unfold gO;rw[x4 om,Wd,V5];rfl))<|Hn.next ZB ⟨(i+1),om,⟨⟩⟩ (by show n3-(i+1)<n3-i;clear ZB ZD;omega) [(16,16),((96+sh d),(96+sh d)),((256+sh d),(256+sh d)),((257+sh d),(257+sh d)),((400+sh d),(400+sh d)),((408+sh d),(408+sh d)),((416+sh d),(416+sh d)),((424+sh d),(424+sh d)),((432+sh d),(432+sh d)),((576+sh d),(576+sh d))] HK) (λ p4 Z5=>.blk 16 16 (VF [VJ (440+sh d) (440+sh d) 0 (length (cO H3 gO (take n3 O) i)) 2] 123 false) (VF [VJ (440+sh d) (440+sh d) 0 (length H4) 2] 123 false) (by(rw[show i=n3 from by omega,hH4]))<|.blk (440+sh d) (440+sh d) (VF (flatMap aD (cO H3 gO (take n3 O) i)) 126 true) (VF (flatMap aD H4) 126 true) (by(rw[show i=n3 from by omega,hH4]))<|Hn.last ZD 0 (():Unit) rfl [(16,16),((96+sh d),(96+sh d)),((256+sh d),(256+sh d)),((257+sh d),(257+sh d)),((400+sh d),(400+sh d)),((408+sh d),(408+sh d)),((416+sh d),(416+sh d)),((424+sh d),(424+sh d)),((432+sh d),(432+sh d)),((440+sh d),(440+sh d))] HK)) (fun|⟨i,hi,_⟩=>by cases d<;>kernel_rfl) ⟨(0),om,⟨⟩⟩ [(16,16),((96+sh d),(96+sh d)),((256+sh d),(256+sh d)),((257+sh d),(257+sh d)),((408+sh d),(408+sh d)),((416+sh d),(416+sh d)),((424+sh d),(424+sh d)),((432+sh d),(432+sh d)),((440+sh d),(440+sh d)),((688+sh d),(688+sh d))] HK (bM (fun|()=>.L 2 112 false [] (true&&(true&&VN 19 (length (map dB C))&&true&&ae (bif true&&VK 19 (length (map dB C))then map dB C else take 19 (drop 0 (map dB C))))&&true) we ([V3 true 19 1 (bif true&&VK 19 (length (map dB C))then map dB C else take 19 (drop 0 (map dB C))),zI 7]) KA (.fn Q112 (@kF (C) (19) om (7) ym om))<|.M 10 16 16 (VF [VJ (440+sh d) (440+sh d) 0 (length H4) 2] 123 false) (VF [VJ (440+sh d) (440+sh d) 0 (length (cO H4 (iv (ab C)) R0 0)) 2] 123 false) (by(refine aw ?_;rw[kO]))<|.blk (440+sh d) (440+sh d) (VF (flatMap aD H4) 126 true) (VF (flatMap aD (cO H4 (iv (ab C)) R0 0)) 126 true) (by(refine aw ?_;rw[kO]))<|Hn.inl T_ok ah false 149 (368+sh d) (aq Tryz.prog 88 3) (λ(x:(i:Nat)×'(hi:i<=R0.length)×'Unit)=>match x with|⟨i,hi,_⟩=>VZ [(0,V7 16 16 0),(4,VJ (400+sh d) (400+sh d) 0 n1 1),(5,VJ (408+sh d) (408+sh d) 0 n2 1),(20,VJ (432+sh d) (432+sh d) 0 19 2),(126,VJ (416+sh d) (416+sh d) 0 (length R0) 2),(127,zN (length R0)),(128,nD i)] [⟨16,16,16,16,.b ⟨[(VJ (424+sh d) (424+sh d) (0) ((cO H4 (iv (ab C)) R0 i).length) 2)],123,false⟩⟩,⟨(96+sh d),(96+sh d),(96+sh d),(96+sh d),.b ⟨[ai e,zI 1,uI 2,zI 2],126,false⟩⟩,⟨(256+sh d),(256+sh d),(256+sh d),(256+sh d),.b ⟨map dB L,5,true⟩⟩,⟨(257+sh d),(257+sh d),(257+sh d),(257+sh d),.b ⟨map dB F,5,true⟩⟩,⟨(400+sh d),(400+sh d),(400+sh d),(400+sh d),.b ⟨map dB A,5,true⟩⟩,⟨(408+sh d),(408+sh d),(408+sh d),(408+sh d),.b ⟨map dB B,5,true⟩⟩,⟨(416+sh d),(416+sh d),(416+sh d),(416+sh d),.b ⟨flatMap dp R0,187,true⟩⟩,⟨(424+sh d),(424+sh d),(440+sh d),(440+sh d),.b ⟨(cO H4 (iv (ab C)) R0 i).flatMap aD,126,true⟩⟩,⟨(432+sh d),(432+sh d),(456+sh d),(456+sh d),.b ⟨flatMap db (ab C),210,true⟩⟩] (440+sh d)) (λ(x:(i:Nat)×'(hi:i<=R0.length)×'Unit)=>match x with|⟨i,hi,_⟩=>R0.length-i) [⟨Unit,.exit 6,λ x=>match x with|()=>VZ [(0,V7 16 16 0),(4,VJ (400+sh d) (400+sh d) 0 n1 1),(5,VJ (408+sh d) (408+sh d) 0 n2 1),(20,VJ (432+sh d) (432+sh d) 0 19 2),(126,VJ (416+sh d) (416+sh d) 0 (length R0) 2),(127,zN (length R0))] [⟨16,16,16,16,.b ⟨[(VJ (424+sh d) (424+sh d) (0) (H5.length) 2)],123,false⟩⟩,⟨(96+sh d),(96+sh d),(96+sh d),(96+sh d),.b ⟨[ai e,zI 1,uI 2,zI 2],126,false⟩⟩,⟨(256+sh d),(256+sh d),(256+sh d),(256+sh d),.b ⟨map dB L,5,true⟩⟩,⟨(257+sh d),(257+sh d),(257+sh d),(257+sh d),.b ⟨map dB F,5,true⟩⟩,⟨(400+sh d),(400+sh d),(400+sh d),(400+sh d),.b ⟨map dB A,5,true⟩⟩,⟨(408+sh d),(408+sh d),(408+sh d),(408+sh d),.b ⟨map dB B,5,true⟩⟩,⟨(416+sh d),(416+sh d),(416+sh d),(416+sh d),.b ⟨flatMap dp R0,187,true⟩⟩,⟨(424+sh d),(424+sh d),(440+sh d),(440+sh d),.b ⟨H5.flatMap aD,126,true⟩⟩,⟨(432+sh d),(432+sh d),(456+sh d),(456+sh d),.b ⟨flatMap db (ab C),210,true⟩⟩] (440+sh d)⟩] 1000 64 (fun|⟨i,hi,_⟩,Q,ZB,ZD=>.B 2 ((i:Int)<(↑(length R0):Int)) (λ p5 p5f=>.K 1 (true&&decide ((i:Int)<(↑(length R0):Int))) aO<|.K 2 (VN (0+i*2+2) (length (flatMap dp R0))) O6<|.lst (take 2 (drop (0+i*2) (flatMap dp R0))) ([zN (Rn.s (getD R0 i lh)),zN (Rn.x (getD R0 i lh))]) (aJ (k:=2) (i:=i) (λ _=>rfl) om om)<|.C 12 113 false [] (.fn Sf (@Nh (Rn.s (getD R0 i lh)) Cv))<|.K 27 (true&&decide ((↑(Rn.s (getD R0 i lh)):Int)<(↑19:Int))) KC<|.K 2 (VN (0+Rn.s (getD R0 i lh)*2+2) (length (flatMap db (ab C)))) (by(rw[f9,mC];have y:=oR i;refine VL ?_;omega))<|.lst (take 2 (drop (0+Rn.s (getD R0 i lh)*2) (flatMap db (ab C)))) ([ai (V2 (getD (ab C) (Rn.s (getD R0 i lh)) lh)),da (VM (getD (ab C) (Rn.s (getD R0 i lh)) lh))]) (aJ (k:=2) (i:=Rn.s (getD R0 i lh)) (λ _=>rfl) Cv om)<|.I 18 (↑(VM (getD (ab C) (Rn.s (getD R0 i lh)) lh)):Int) O8<|.C 1 152 false [] (.fn ff (@cd (V2 (getD (ab C) (Rn.s (getD R0 i lh)) lh)) (VM (getD (ab C) (Rn.s (getD R0 i lh)) lh)) (by(exact VR (oC _).1 (by decide))) (by(exact(oC _).2))))<|.I 16 (↑(VM (getD (ab C) (Rn.s (getD R0 i lh)) lh)):Int) O8<|.O 4 (ay .u32 (↑(Rn.x (getD R0 i lh)):Int)) (uI ((↑(Rn.x (getD R0 i lh)):Int)%4294967296)) (aE _ _)<|.K 18 (true&&VK (length (cO H4 (iv (ab C)) R0 i)*2) (length (flatMap aD (cO H4 (iv (ab C)) R0 i)))&&true&&true&&true&&true&&VN ((length (cO H4 (iv (ab C)) R0 i)+2)*16) 140737488355328) (by(simp only[bX,lX4 i om,WK,V8,Wf];refine VL ?_;(omega)))<|.W 9 (i+1)<|.V 1 128 (zI (i+1)) (zN (i+1)) D9<|.blk 16 16 (VF [VJ (888+sh d) (888+sh d) 0 (length (cO H4 (iv (ab C)) R0 i)+2) 2] 123 false) (VF [VJ (888+sh d) (888+sh d) 0 (length (cO H4 (iv (ab C)) R0 (i+1))) 2] 123 false) (by(rw[kP (i:=i) om,VI];rfl))<|.blk (888+sh d) (888+sh d) (VF (flatMap aD (cO H4 (iv (ab C)) R0 i)++[ai (dG (V2 (getD (ab C) (Rn.s (getD R0 i lh)) lh)) (VM (getD (ab C) (Rn.s (getD R0 i lh)) lh))),zN (VM (getD (ab C) (Rn.s (getD R0 i lh)) lh)),uI ((↑(Rn.x (getD R0 i lh)):Int)%4294967296),zN (rb (Rn.s (getD R0 i lh)))]) 126 true) (VF (flatMap aD (cO H4 (iv (ab C)) R0 (i+1))) 126 true) (by(refine aw ?_;rw[kP (i:=i) om,cD];have y:=oR i;have y3:=xg (R0.getD i lh).s;have y5:(R0.getD i lh).x<128:=Wp y.2 y3.1;rw[show((R0.getD i lh).x:Int)%4294967296=(((R0.getD i lh).x:Nat):Int)from by omega];rfl))<|Hn.next ZB ⟨(i+1),om,⟨⟩⟩ O7 [(16,16),((96+sh d),(96+sh d)),((256+sh d),(256+sh d)),((257+sh d),(257+sh d)),((400+sh d),(400+sh d)),((408+sh d),(408+sh d)),((416+sh d),(416+sh d)),((888+sh d),(888+sh d)),((432+sh d),(432+sh d))] HK) (λ p5 p5f=>.blk 16 16 (VF [VJ (424+sh d) (424+sh d) 0 (length (cO H4 (iv (ab C)) R0 i)) 2] 123 false) (VF [VJ (424+sh d) (424+sh d) 0 (length H5) 2] 123 false) (by(rw[show i=R0.length from by omega,hH5]))<|.blk (424+sh d) (424+sh d) (VF (flatMap aD (cO H4 (iv (ab C)) R0 i)) 126 true) (VF (flatMap aD H5) 126 true) (by(rw[show i=R0.length from by omega,hH5]))<|Hn.last ZD 0 (():Unit) rfl [(16,16),((96+sh d),(96+sh d)),((256+sh d),(256+sh d)),((257+sh d),(257+sh d)),((400+sh d),(400+sh d)),((408+sh d),(408+sh d)),((416+sh d),(416+sh d)),((424+sh d),(424+sh d)),((432+sh d),(432+sh d))] HK)) (fun|⟨i,hi,_⟩=>by cases d<;>kernel_rfl) ⟨(0),om,⟨⟩⟩ [(16,16),((96+sh d),(96+sh d)),((256+sh d),(256+sh d)),((257+sh d),(257+sh d)),((400+sh d),(400+sh d)),((408+sh d),(408+sh d)),((416+sh d),(416+sh d)),((440+sh d),(440+sh d)),((456+sh d),(456+sh d))] HK (bM (fun|()=>.L 21 112 false [] (true&&(wB (map dB A) n1 1)&&true) kV ([wD (map dB A) n1 1,zI 15]) (by exact(V4 (D.sim.slw rfl ((bG (A) (0) (n1*1)).trans (by(simp;done)))) (qr trivial))) (.fn Q112 (@kF (take n1 A) (n1) om (15) ym om))<|.L 13 112 false [] (true&&(wB (map dB B) n2 1)&&true) kV ([wD (map dB B) n2 1,zI 15]) (by exact(V4 (D.sim.slw rfl ((bG (B) (0) (n2*1)).trans (by(simp;done)))) (qr trivial))) (.fn Q112 (@kF (take n2 B) (n2) om (15) ym om))<|.s 18<|.two (.B 2 (0<(k:Int)) (λ p6 p6f=>.K 1 (true&&decide (0<(k:Int))&&true) ym<|.K 2 (VN 3 (length (flatMap bb l))) JY<|.lst (take 3 (drop 0 (flatMap bb l))) ([da (VE (Tn.lit (getD l 0 lh))),zN (Tn.dist (getD l 0 lh)),zN (Tn.long (getD l 0 lh))]) (aJ (k:=3) (i:=0) (λ _=>rfl) om om)<|.R 13 ((↑(Tn.long (getD l 0 lh)):Int)==0) (λ p7=>have p7f:=eq_of_beq p7;.I 8 (↑(VE (Tn.lit (getD l 0 lh))):Int) JZ<|.K 18 (true&&decide ((↑(VE (Tn.lit (getD l 0 lh))):Int)<(n1:Int))) KD<|.K 2 (VN (0+VE (Tn.lit (getD l 0 lh))*2+2) (length (flatMap db (ab (take n1 A))))) Cw<|.lst (take 2 (drop (0+VE (Tn.lit (getD l 0 lh))*2) (flatMap db (ab (take n1 A))))) ([ai (V2 (getD (ab (take n1 A)) (VE (Tn.lit (getD l 0 lh))) lh)),da (VM (getD (ab (take n1 A)) (VE (Tn.lit (getD l 0 lh))) lh))]) (aJ (k:=2) (i:=VE (Tn.lit (getD l 0 lh))) (λ _=>rfl) rP om)<|.I 18 (↑(VM (getD (ab (take n1 A)) (VE (Tn.lit (getD l 0 lh))) lh)):Int) rP<|.C 1 152 false [] (.fn ff (@cd (V2 (getD (ab (take n1 A)) (VE (Tn.lit (getD l 0 lh))) lh)) (VM (getD (ab (take n1 A)) (VE (Tn.lit (getD l 0 lh))) lh)) FM (by(exact(oA _).2))))<|.I 16 (↑(VM (getD (ab (take n1 A)) (VE (Tn.lit (getD l 0 lh))) lh)):Int) rP<|.K 23 (true&&VK (length H5*2) (length (flatMap aD H5))&&true&&true&&true&&true&&VN ((length H5+2)*16) 140737488355328) Cy<|.M 11 16 16 (VF [VJ (1200+sh d) (1200+sh d) 0 (length H5+2) 2] 123 false) (VF [VJ (1200+sh d) (1200+sh d) 0 (length (bf T1 T2 (ab (take n1 A)) (ab (take n2 B)) H5 l 1)) 2] 123 false) (by(rw[fh (i:=0) om om,iX,VI];rfl))<|.blk (1200+sh d) (1200+sh d) (VF (flatMap aD H5++[ai (dG (V2 (getD (ab (take n1 A)) (VE (Tn.lit (getD l 0 lh))) lh)) (VM (getD (ab (take n1 A)) (VE (Tn.lit (getD l 0 lh))) lh))),zN (VM (getD (ab (take n1 A)) (VE (Tn.lit (getD l 0 lh))) lh)),uI 0,zI 0]) 126 true) (VF (flatMap aD (bf T1 T2 (ab (take n1 A)) (ab (take n2 B)) H5 l 1)) 126 true) (by(refine aw ?_;rw[fh (i:=0) om om,iX,cD];rfl))<|Hn.inl T_ok ah false 53 (736+sh d) (aq Tryz.prog 106 0) (λ(x:(i:Nat)×'(hi:1<=i∧i<=k)×'Unit)=>match x with|⟨i,hi,_⟩=>VZ [(1,XG (WG 115) [] [V7 (576+sh d) (576+sh d) 0,V7 (688+sh d) (688+sh d) 0,V7 (624+sh d) (624+sh d) 0]),(10,V3 false k 3 (flatMap bb l)),(11,zN k),(12,nD i)] [⟨16,16,16,16,.b ⟨[(VJ (840+sh d) (840+sh d) (0) ((bf T1 T2 (ab (A.take n1)) (ab (B.take n2)) H5 l i).length) 2)],123,false⟩⟩,⟨(96+sh d),(96+sh d),(96+sh d),(96+sh d),.b ⟨[ai e,zI 1,uI 2,zI 2],126,false⟩⟩,⟨(256+sh d),(256+sh d),(256+sh d),(256+sh d),.b ⟨map dB L,5,true⟩⟩,⟨(257+sh d),(257+sh d),(257+sh d),(257+sh d),.b ⟨map dB F,5,true⟩⟩,⟨(400+sh d),(400+sh d),(400+sh d),(400+sh d),.b ⟨map dB A,5,true⟩⟩,⟨(408+sh d),(408+sh d),(408+sh d),(408+sh d),.b ⟨map dB B,5,true⟩⟩,⟨(416+sh d),(416+sh d),(416+sh d),(416+sh d),.b ⟨flatMap dp R0,187,true⟩⟩,⟨(432+sh d),(432+sh d),(432+sh d),(432+sh d),.b ⟨flatMap db (ab C),210,true⟩⟩,⟨(576+sh d),(576+sh d),(576+sh d),(576+sh d),.b ⟨[V7 16 16 0],105,false⟩⟩,⟨(592+sh d),(592+sh d),(592+sh d),(592+sh d),.b ⟨flatMap db (ab (take n1 A)),210,true⟩⟩,⟨(624+sh d),(624+sh d),(624+sh d),(624+sh d),.b ⟨[VJ (592+sh d) (592+sh d) 0 n1 2],189,false⟩⟩,⟨(656+sh d),(656+sh d),(656+sh d),(656+sh d),.b ⟨flatMap db (ab (take n2 B)),210,true⟩⟩,⟨(688+sh d),(688+sh d),(688+sh d),(688+sh d),.b ⟨[VJ (656+sh d) (656+sh d) 0 n2 2],189,false⟩⟩,⟨(840+sh d),(840+sh d),(1200+sh d),(1200+sh d),.b ⟨(bf T1 T2 (ab (A.take n1)) (ab (B.take n2)) H5 l i).flatMap aD,126,true⟩⟩] (848+sh d)) (λ(x:(i:Nat)×'(hi:1<=i∧i<=k)×'Unit)=>match x with|⟨i,hi,_⟩=>k-i) [⟨Unit,.exit 0,λ x=>match x with|()=>VZ [(1,XG (WG 115) [] [V7 (576+sh d) (576+sh d) 0,V7 (688+sh d) (688+sh d) 0,V7 (624+sh d) (624+sh d) 0]),(10,V3 false k 3 (flatMap bb l)),(11,zN k),(12,nD k)] [⟨16,16,16,16,.b ⟨[(VJ (840+sh d) (840+sh d) (0) ((bf T1 T2 (ab (A.take n1)) (ab (B.take n2)) H5 l k).length) 2)],123,false⟩⟩,⟨(96+sh d),(96+sh d),(96+sh d),(96+sh d),.b ⟨[ai e,zI 1,uI 2,zI 2],126,false⟩⟩,⟨(256+sh d),(256+sh d),(256+sh d),(256+sh d),.b ⟨map dB L,5,true⟩⟩,⟨(257+sh d),(257+sh d),(257+sh d),(257+sh d),.b ⟨map dB F,5,true⟩⟩,⟨(400+sh d),(400+sh d),(400+sh d),(400+sh d),.b ⟨map dB A,5,true⟩⟩,⟨(408+sh d),(408+sh d),(408+sh d),(408+sh d),.b ⟨map dB B,5,true⟩⟩,⟨(416+sh d),(416+sh d),(416+sh d),(416+sh d),.b ⟨flatMap dp R0,187,true⟩⟩,⟨(432+sh d),(432+sh d),(432+sh d),(432+sh d),.b ⟨flatMap db (ab C),210,true⟩⟩,⟨(576+sh d),(576+sh d),(576+sh d),(576+sh d),.b ⟨[V7 16 16 0],105,false⟩⟩,⟨(592+sh d),(592+sh d),(592+sh d),(592+sh d),.b ⟨flatMap db (ab (take n1 A)),210,true⟩⟩,⟨(624+sh d),(624+sh d),(624+sh d),(624+sh d),.b ⟨[VJ (592+sh d) (592+sh d) 0 n1 2],189,false⟩⟩,⟨(656+sh d),(656+sh d),(656+sh d),(656+sh d),.b ⟨flatMap db (ab (take n2 B)),210,true⟩⟩,⟨(688+sh d),(688+sh d),(688+sh d),(688+sh d),.b ⟨[VJ (656+sh d) (656+sh d) 0 n2 2],189,false⟩⟩,⟨(840+sh d),(840+sh d),(1200+sh d),(1200+sh d),.b ⟨(bf T1 T2 (ab (A.take n1)) (ab (B.take n2)) H5 l k).flatMap aD,126,true⟩⟩] (848+sh d)⟩] 1000 64 (fun|⟨i,hi,_⟩,Q,ZB,ZD=>.B 2 ((i:Int)<k) (λ p8 p8f=>.K 1 (true&&decide ((i:Int)<k)&&true) ym<|.K 2 (VN (i*3+3) (length (flatMap bb l))) JY<|.lst (take 3 (drop (i*3) (flatMap bb l))) ([da (VE (Tn.lit (getD l i lh))),zN (Tn.dist (getD l i lh)),zN (Tn.long (getD l i lh))]) (aJ (k:=3) (i:=i) (λ _=>rfl) om om)<|.R 13 ((↑(Tn.long (getD l i lh)):Int)==0) (λ p9=>have p9f:=eq_of_beq p9;.I 8 (↑(VE (Tn.lit (getD l i lh))):Int) JZ<|.K 18 (true&&decide ((↑(VE (Tn.lit (getD l i lh))):Int)<(n1:Int))) N7<|.K 2 (VN (0+VE (Tn.lit (getD l i lh))*2+2) (length (flatMap db (ab (take n1 A))))) zW<|.lst (take 2 (drop (0+VE (Tn.lit (getD l i lh))*2) (flatMap db (ab (take n1 A))))) ([ai (V2 (getD (ab (take n1 A)) (VE (Tn.lit (getD l i lh))) lh)),da (VM (getD (ab (take n1 A)) (VE (Tn.lit (getD l i lh))) lh))]) (aJ (k:=2) (i:=VE (Tn.lit (getD l i lh))) (λ _=>rfl) gV om)<|.I 18 (↑(VM (getD (ab (take n1 A)) (VE (Tn.lit (getD l i lh))) lh)):Int) gV<|.C 1 152 false [] (.fn ff (@cd (V2 (getD (ab (take n1 A)) (VE (Tn.lit (getD l i lh))) lh)) (VM (getD (ab (take n1 A)) (VE (Tn.lit (getD l i lh))) lh)) FM (by(exact(oA _).2))))<|.I 16 (↑(VM (getD (ab (take n1 A)) (VE (Tn.lit (getD l i lh))) lh)):Int) gV<|.K 23 (true&&VK (length (bf T1 T2 (ab (take n1 A)) (ab (take n2 B)) H5 l i)*2) (length (flatMap aD (bf T1 T2 (ab (take n1 A)) (ab (take n2 B)) H5 l i)))&&true&&true&&true&&true&&VN ((length (bf T1 T2 (ab (take n1 A)) (ab (take n2 B)) H5 l i)+2)*16) 140737488355328) FP<|.W 9 (i+1)<|.V 1 12 (zI (i+1)) (zN (i+1)) D9<|.blk 16 16 (VF [VJ (1288+sh d) (1288+sh d) 0 (length (bf T1 T2 (ab (take n1 A)) (ab (take n2 B)) H5 l i)+2) 2] 123 false) (VF [VJ (1288+sh d) (1288+sh d) 0 (length (bf T1 T2 (ab (take n1 A)) (ab (take n2 B)) H5 l (i+1))) 2] 123 false) (by(rw[fh om om,VI];rfl))<|.blk (1288+sh d) (1288+sh d) (VF (flatMap aD (bf T1 T2 (ab (take n1 A)) (ab (take n2 B)) H5 l i)++[ai (dG (V2 (getD (ab (take n1 A)) (VE (Tn.lit (getD l i lh))) lh)) (VM (getD (ab (take n1 A)) (VE (Tn.lit (getD l i lh))) lh))),zN (VM (getD (ab (take n1 A)) (VE (Tn.lit (getD l i lh))) lh)),uI 0,zI 0]) 126 true) (VF (flatMap aD (bf T1 T2 (ab (take n1 A)) (ab (take n2 B)) H5 l (i+1))) 126 true) (by(refine aw ?_;rw[fh om om,cD];rfl))<|Hn.next ZB ⟨(i+1),om,⟨⟩⟩ RG [(16,16),((96+sh d),(96+sh d)),((256+sh d),(256+sh d)),((257+sh d),(257+sh d)),((400+sh d),(400+sh d)),((408+sh d),(408+sh d)),((416+sh d),(416+sh d)),((432+sh d),(432+sh d)),((576+sh d),(576+sh d)),((592+sh d),(592+sh d)),((624+sh d),(624+sh d)),((656+sh d),(656+sh d)),((688+sh d),(688+sh d)),((1288+sh d),(1288+sh d))] HK) (λ p9=>have p9f:=ap p9;.C 7 142 false [] (.fn vO (@j5 (T1) aO om om (Tn.long (getD l i lh)) gV gV))<|.K 35 (true&&decide ((↑(257+ak T1 (Tn.long (getD l i lh))):Int)<(n1:Int))) Iq<|.K 2 (VN (0+(257+ak T1 (Tn.long (getD l i lh)))*2+2) (length (flatMap db (ab (take n1 A))))) zW<|.lst (take 2 (drop (0+(257+ak T1 (Tn.long (getD l i lh)))*2) (flatMap db (ab (take n1 A))))) ([ai (V2 (getD (ab (take n1 A)) (257+ak T1 (Tn.long (getD l i lh))) lh)),da (VM (getD (ab (take n1 A)) (257+ak T1 (Tn.long (getD l i lh))) lh))]) (aJ (k:=2) (i:=257+ak T1 (Tn.long (getD l i lh))) (λ _=>rfl) gV om)<|.I 18 (↑(VM (getD (ab (take n1 A)) (257+ak T1 (Tn.long (getD l i lh))) lh)):Int) gV<|.C 1 152 false [] (.fn ff (@cd (V2 (getD (ab (take n1 A)) (257+ak T1 (Tn.long (getD l i lh))) lh)) (VM (getD (ab (take n1 A)) (257+ak T1 (Tn.long (getD l i lh))) lh)) FM (by(exact(oA _).2))))<|.I 16 (↑(VM (getD (ab (take n1 A)) (257+ak T1 (Tn.long (getD l i lh))) lh)):Int) gV<|.O 4 (ay .u32 (↑(Tn.long (getD l i lh)-Sy.least (getD T1 (ak T1 (Tn.long (getD l i lh))) lh)):Int)) (ai (Tn.long (getD l i lh)-Sy.least (getD T1 (ak T1 (Tn.long (getD l i lh))) lh))) (aA gV)<|.K 18 (true&&VK (length (bf T1 T2 (ab (take n1 A)) (ab (take n2 B)) H5 l i)*2) (length (flatMap aD (bf T1 T2 (ab (take n1 A)) (ab (take n2 B)) H5 l i)))&&true&&true&&true&&true&&VN ((length (bf T1 T2 (ab (take n1 A)) (ab (take n2 B)) H5 l i)+2)*16) 140737488355328) FP<|.C 14 143 false [] (.fn vP (@oo (T2) aO om om (Tn.dist (getD l i lh)) gV gV))<|.K 34 (true&&decide ((↑(ak T2 (Tn.dist (getD l i lh))):Int)<(n2:Int))) Iq<|.K 2 (VN (0+ak T2 (Tn.dist (getD l i lh))*2+2) (length (flatMap db (ab (take n2 B))))) zW<|.lst (take 2 (drop (0+ak T2 (Tn.dist (getD l i lh))*2) (flatMap db (ab (take n2 B))))) ([ai (V2 (getD (ab (take n2 B)) (ak T2 (Tn.dist (getD l i lh))) lh)),da (VM (getD (ab (take n2 B)) (ak T2 (Tn.dist (getD l i lh))) lh))]) (aJ (k:=2) (i:=ak T2 (Tn.dist (getD l i lh))) (λ _=>rfl) gV om)<|.I 18 (↑(VM (getD (ab (take n2 B)) (ak T2 (Tn.dist (getD l i lh))) lh)):Int) gV<|.C 1 152 false [] (.fn ff (@cd (V2 (getD (ab (take n2 B)) (ak T2 (Tn.dist (getD l i lh))) lh)) (VM (getD (ab (take n2 B)) (ak T2 (Tn.dist (getD l i lh))) lh)) KE (by(exact(oB _).2))))<|.I 16 (↑(VM (getD (ab (take n2 B)) (ak T2 (Tn.dist (getD l i lh))) lh)):Int) gV<|.O 4 (ay .u32 (↑(Tn.dist (getD l i lh)-Sy.least (getD T2 (ak T2 (Tn.dist (getD l i lh))) lh)):Int)) (ai (Tn.dist (getD l i lh)-Sy.least (getD T2 (ak T2 (Tn.dist (getD l i lh))) lh))) (aA gV)<|.K 18 (true&&VK ((length (bf T1 T2 (ab (take n1 A)) (ab (take n2 B)) H5 l i)+2)*2) (length (flatMap aD (bf T1 T2 (ab (take n1 A)) (ab (take n2 B)) H5 l i)++[ai (dG (V2 (getD (ab (take n1 A)) (257+ak T1 (Tn.long (getD l i lh))) lh)) (VM (getD (ab (take n1 A)) (257+ak T1 (Tn.long (getD l i lh))) lh))),zN (VM (getD (ab (take n1 A)) (257+ak T1 (Tn.long (getD l i lh))) lh)),ai (Tn.long (getD l i lh)-Sy.least (getD T1 (ak T1 (Tn.long (getD l i lh))) lh)),zN (Sy.bits (getD T1 (ak T1 (Tn.long (getD l i lh))) lh))]))&&true&&true&&true&&true&&VN ((length (bf T1 T2 (ab (take n1 A)) (ab (take n2 B)) H5 l i)+2+2)*16) 140737488355328) O9<|.W 9 (i+1)<|.V 1 12 (zI (i+1)) (zN (i+1)) D9<|.blk 16 16 (VF [VJ (2064+sh d) (2064+sh d) 0 (length (bf T1 T2 (ab (take n1 A)) (ab (take n2 B)) H5 l i)+2+2) 2] 123 false) (VF [VJ (2064+sh d) (2064+sh d) 0 (length (bf T1 T2 (ab (take n1 A)) (ab (take n2 B)) H5 l (i+1))) 2] 123 false) (by(rw[gr om om,VI];rfl))<|.blk (2064+sh d) (2064+sh d) (VF (flatMap aD (bf T1 T2 (ab (take n1 A)) (ab (take n2 B)) H5 l i)++[ai (dG (V2 (getD (ab (take n1 A)) (257+ak T1 (Tn.long (getD l i lh))) lh)) (VM (getD (ab (take n1 A)) (257+ak T1 (Tn.long (getD l i lh))) lh))),zN (VM (getD (ab (take n1 A)) (257+ak T1 (Tn.long (getD l i lh))) lh)),ai (Tn.long (getD l i lh)-Sy.least (getD T1 (ak T1 (Tn.long (getD l i lh))) lh)),zN (Sy.bits (getD T1 (ak T1 (Tn.long (getD l i lh))) lh))]++[ai (dG (V2 (getD (ab (take n2 B)) (ak T2 (Tn.dist (getD l i lh))) lh)) (VM (getD (ab (take n2 B)) (ak T2 (Tn.dist (getD l i lh))) lh))),zN (VM (getD (ab (take n2 B)) (ak T2 (Tn.dist (getD l i lh))) lh)),ai (Tn.dist (getD l i lh)-Sy.least (getD T2 (ak T2 (Tn.dist (getD l i lh))) lh)),zN (Sy.bits (getD T2 (ak T2 (Tn.dist (getD l i lh))) lh))]) 126 true) (VF (flatMap aD (bf T1 T2 (ab (take n1 A)) (ab (take n2 B)) H5 l (i+1))) 126 true) N9<|Hn.next ZB ⟨(i+1),om,⟨⟩⟩ RG [(16,16),((96+sh d),(96+sh d)),((256+sh d),(256+sh d)),((257+sh d),(257+sh d)),((400+sh d),(400+sh d)),((408+sh d),(408+sh d)),((416+sh d),(416+sh d)),((432+sh d),(432+sh d)),((576+sh d),(576+sh d)),((592+sh d),(592+sh d)),((624+sh d),(624+sh d)),((656+sh d),(656+sh d)),((688+sh d),(688+sh d)),((2064+sh d),(2064+sh d))] HK)) (λ p8 p8f=>.val 12 (zN i) (zN k) Mg<|.blk 16 16 (VF [VJ (840+sh d) (840+sh d) 0 (length (bf T1 T2 (ab (take n1 A)) (ab (take n2 B)) H5 l i)) 2] 123 false) (VF [VJ (840+sh d) (840+sh d) 0 (length (bf T1 T2 (ab (take n1 A)) (ab (take n2 B)) H5 l k)) 2] 123 false) Mg<|.blk (840+sh d) (840+sh d) (VF (flatMap aD (bf T1 T2 (ab (take n1 A)) (ab (take n2 B)) H5 l i)) 126 true) (VF (flatMap aD (bf T1 T2 (ab (take n1 A)) (ab (take n2 B)) H5 l k)) 126 true) Mg<|Hn.last ZD 0 (():Unit) rfl [(16,16),((96+sh d),(96+sh d)),((256+sh d),(256+sh d)),((257+sh d),(257+sh d)),((400+sh d),(400+sh d)),((408+sh d),(408+sh d)),((416+sh d),(416+sh d)),((432+sh d),(432+sh d)),((576+sh d),(576+sh d)),((592+sh d),(592+sh d)),((624+sh d),(624+sh d)),((656+sh d),(656+sh d)),((688+sh d),(688+sh d)),((840+sh d),(840+sh d))] HK)) (fun|⟨i,hi,_⟩=>by cases d<;>kernel_rfl) ⟨(1),om,⟨⟩⟩ [(16,16),((96+sh d),(96+sh d)),((256+sh d),(256+sh d)),((257+sh d),(257+sh d)),((400+sh d),(400+sh d)),((408+sh d),(408+sh d)),((416+sh d),(416+sh d)),((432+sh d),(432+sh d)),((576+sh d),(576+sh d)),((592+sh d),(592+sh d)),((624+sh d),(624+sh d)),((656+sh d),(656+sh d)),((688+sh d),(688+sh d)),((1200+sh d),(1200+sh d))] HK (bM (fun|()=>.K 19 (true&&decide (256<(n1:Int))) vW<|.K 2 (VN 514 (length (flatMap db (ab (take n1 A))))) Cw<|.lst (take 2 (drop 512 (flatMap db (ab (take n1 A))))) ([ai (V2 (getD (ab (take n1 A)) 256 lh)),da (VM (getD (ab (take n1 A)) 256 lh))]) (aJ (k:=2) (i:=256) (λ _=>rfl) om om)<|.I 18 (↑(VM (getD (ab (take n1 A)) 256 lh)):Int) rP<|.C 1 152 false [] (.fn ff (@cd (V2 (getD (ab (take n1 A)) 256 lh)) (VM (getD (ab (take n1 A)) 256 lh)) FM (by(exact(oA _).2))))<|.I 16 (↑(VM (getD (ab (take n1 A)) 256 lh)):Int) rP<|.K 23 (true&&VK (length (bf T1 T2 (ab (take n1 A)) (ab (take n2 B)) H5 l k)*2) (length (flatMap aD (bf T1 T2 (ab (take n1 A)) (ab (take n2 B)) H5 l k)))&&true&&true&&true&&true&&VN ((length (bf T1 T2 (ab (take n1 A)) (ab (take n2 B)) H5 l k)+2)*16) 140737488355328) Cy<|.U 9 [16,(1200+sh d)] [16,(1200+sh d)] (V7 0 0 0) [VF [VJ 1 1 0 (length (bf T1 T2 (ab (take n1 A)) (ab (take n2 B)) H5 l k)+2) 2] 123 false,VF (flatMap aD (bf T1 T2 (ab (take n1 A)) (ab (take n2 B)) H5 l k)++[ai (dG (V2 (getD (ab (take n1 A)) 256 lh)) (VM (getD (ab (take n1 A)) 256 lh))),zN (VM (getD (ab (take n1 A)) 256 lh)),uI 0,zI 0]) 126 true] R (ok _ _ wr (by(rw[VI,cD];rfl)))))) (λ p7=>have p7f:=ap p7;.C 7 142 false [] (.fn vO (@j5 (T1) aO om om (Tn.long (getD l 0 lh)) rP rP))<|.K 35 (true&&decide ((↑(257+ak T1 (Tn.long (getD l 0 lh))):Int)<(n1:Int))) KD<|.K 2 (VN (0+(257+ak T1 (Tn.long (getD l 0 lh)))*2+2) (length (flatMap db (ab (take n1 A))))) Cw<|.lst (take 2 (drop (0+(257+ak T1 (Tn.long (getD l 0 lh)))*2) (flatMap db (ab (take n1 A))))) ([ai (V2 (getD (ab (take n1 A)) (257+ak T1 (Tn.long (getD l 0 lh))) lh)),da (VM (getD (ab (take n1 A)) (257+ak T1 (Tn.long (getD l 0 lh))) lh))]) (aJ (k:=2) (i:=257+ak T1 (Tn.long (getD l 0 lh))) (λ _=>rfl) rP om)<|.I 18 (↑(VM (getD (ab (take n1 A)) (257+ak T1 (Tn.long (getD l 0 lh))) lh)):Int) rP<|.C 1 152 false [] (.fn ff (@cd (V2 (getD (ab (take n1 A)) (257+ak T1 (Tn.long (getD l 0 lh))) lh)) (VM (getD (ab (take n1 A)) (257+ak T1 (Tn.long (getD l 0 lh))) lh)) FM (by(exact(oA _).2))))<|.I 16 (↑(VM (getD (ab (take n1 A)) (257+ak T1 (Tn.long (getD l 0 lh))) lh)):Int) rP<|.O 4 (ay .u32 (↑(Tn.long (getD l 0 lh)-Sy.least (getD T1 (ak T1 (Tn.long (getD l 0 lh))) lh)):Int)) (ai (Tn.long (getD l 0 lh)-Sy.least (getD T1 (ak T1 (Tn.long (getD l 0 lh))) lh))) (aA rP)<|.K 18 (true&&VK (length H5*2) (length (flatMap aD H5))&&true&&true&&true&&true&&VN ((length H5+2)*16) 140737488355328) Cy<|.C 14 143 false [] (.fn vP (@oo (T2) aO om om (Tn.dist (getD l 0 lh)) rP rP))<|.K 34 (true&&decide ((↑(ak T2 (Tn.dist (getD l 0 lh))):Int)<(n2:Int))) KD<|.K 2 (VN (0+ak T2 (Tn.dist (getD l 0 lh))*2+2) (length (flatMap db (ab (take n2 B))))) Cw<|.lst (take 2 (drop (0+ak T2 (Tn.dist (getD l 0 lh))*2) (flatMap db (ab (take n2 B))))) ([ai (V2 (getD (ab (take n2 B)) (ak T2 (Tn.dist (getD l 0 lh))) lh)),da (VM (getD (ab (take n2 B)) (ak T2 (Tn.dist (getD l 0 lh))) lh))]) (aJ (k:=2) (i:=ak T2 (Tn.dist (getD l 0 lh))) (λ _=>rfl) rP om)<|.I 18 (↑(VM (getD (ab (take n2 B)) (ak T2 (Tn.dist (getD l 0 lh))) lh)):Int) rP<|.C 1 152 false [] (.fn ff (@cd (V2 (getD (ab (take n2 B)) (ak T2 (Tn.dist (getD l 0 lh))) lh)) (VM (getD (ab (take n2 B)) (ak T2 (Tn.dist (getD l 0 lh))) lh)) KE (by(exact(oB _).2))))<|.I 16 (↑(VM (getD (ab (take n2 B)) (ak T2 (Tn.dist (getD l 0 lh))) lh)):Int) rP<|.O 4 (ay .u32 (↑(Tn.dist (getD l 0 lh)-Sy.least (getD T2 (ak T2 (Tn.dist (getD l 0 lh))) lh)):Int)) (ai (Tn.dist (getD l 0 lh)-Sy.least (getD T2 (ak T2 (Tn.dist (getD l 0 lh))) lh))) (aA rP)<|.K 18 (true&&VK ((length H5+2)*2) (length (flatMap aD H5++[ai (dG (V2 (getD (ab (take n1 A)) (257+ak T1 (Tn.long (getD l 0 lh))) lh)) (VM (getD (ab (take n1 A)) (257+ak T1 (Tn.long (getD l 0 lh))) lh))),zN (VM (getD (ab (take n1 A)) (257+ak T1 (Tn.long (getD l 0 lh))) lh)),ai (Tn.long (getD l 0 lh)-Sy.least (getD T1 (ak T1 (Tn.long (getD l 0 lh))) lh)),zN (Sy.bits (getD T1 (ak T1 (Tn.long (getD l 0 lh))) lh))]))&&true&&true&&true&&true&&VN ((length H5+2+2)*16) 140737488355328) ym<|.M 11 16 16 (VF [VJ (1976+sh d) (1976+sh d) 0 (length H5+2+2) 2] 123 false) (VF [VJ (1976+sh d) (1976+sh d) 0 (length (bf T1 T2 (ab (take n1 A)) (ab (take n2 B)) H5 l 1)) 2] 123 false) (by(rw[gr (i:=0) om om,iX,VI];rfl))<|.blk (1976+sh d) (1976+sh d) (VF (flatMap aD H5++[ai (dG (V2 (getD (ab (take n1 A)) (257+ak T1 (Tn.long (getD l 0 lh))) lh)) (VM (getD (ab (take n1 A)) (257+ak T1 (Tn.long (getD l 0 lh))) lh))),zN (VM (getD (ab (take n1 A)) (257+ak T1 (Tn.long (getD l 0 lh))) lh)),ai (Tn.long (getD l 0 lh)-Sy.least (getD T1 (ak T1 (Tn.long (getD l 0 lh))) lh)),zN (Sy.bits (getD T1 (ak T1 (Tn.long (getD l 0 lh))) lh))]++[ai (dG (V2 (getD (ab (take n2 B)) (ak T2 (Tn.dist (getD l 0 lh))) lh)) (VM (getD (ab (take n2 B)) (ak T2 (Tn.dist (getD l 0 lh))) lh))),zN (VM (getD (ab (take n2 B)) (ak T2 (Tn.dist (getD l 0 lh))) lh)),ai (Tn.dist (getD l 0 lh)-Sy.least (getD T2 (ak T2 (Tn.dist (getD l 0 lh))) lh)),zN (Sy.bits (getD T2 (ak T2 (Tn.dist (getD l 0 lh))) lh))]) 126 true) (VF (flatMap aD (bf T1 T2 (ab (take n1 A)) (ab (take n2 B)) H5 l 1)) 126 true) (by(refine aw ?_;rw[gr (i:=0) om om,iX,cD,cD,Wc];rfl))<|Hn.inl T_ok ah false 53 (736+sh d) (aq Tryz.prog 106 0) (λ(x:(i:Nat)×'(hi:1<=i∧i<=k)×'Unit)=>match x with|⟨i,hi,_⟩=>VZ [(1,XG (WG 115) [] [V7 (576+sh d) (576+sh d) 0,V7 (688+sh d) (688+sh d) 0,V7 (624+sh d) (624+sh d) 0]),(10,V3 false k 3 (flatMap bb l)),(11,zN k),(12,nD i)] [⟨16,16,16,16,.b ⟨[(VJ (840+sh d) (840+sh d) (0) ((bf T1 T2 (ab (A.take n1)) (ab (B.take n2)) H5 l i).length) 2)],123,false⟩⟩,⟨(96+sh d),(96+sh d),(96+sh d),(96+sh d),.b ⟨[ai e,zI 1,uI 2,zI 2],126,false⟩⟩,⟨(256+sh d),(256+sh d),(256+sh d),(256+sh d),.b ⟨map dB L,5,true⟩⟩,⟨(257+sh d),(257+sh d),(257+sh d),(257+sh d),.b ⟨map dB F,5,true⟩⟩,⟨(400+sh d),(400+sh d),(400+sh d),(400+sh d),.b ⟨map dB A,5,true⟩⟩,⟨(408+sh d),(408+sh d),(408+sh d),(408+sh d),.b ⟨map dB B,5,true⟩⟩,⟨(416+sh d),(416+sh d),(416+sh d),(416+sh d),.b ⟨flatMap dp R0,187,true⟩⟩,⟨(432+sh d),(432+sh d),(432+sh d),(432+sh d),.b ⟨flatMap db (ab C),210,true⟩⟩,⟨(576+sh d),(576+sh d),(576+sh d),(576+sh d),.b ⟨[V7 16 16 0],105,false⟩⟩,⟨(592+sh d),(592+sh d),(592+sh d),(592+sh d),.b ⟨flatMap db (ab (take n1 A)),210,true⟩⟩,⟨(624+sh d),(624+sh d),(624+sh d),(624+sh d),.b ⟨[VJ (592+sh d) (592+sh d) 0 n1 2],189,false⟩⟩,⟨(656+sh d),(656+sh d),(656+sh d),(656+sh d),.b ⟨flatMap db (ab (take n2 B)),210,true⟩⟩,⟨(688+sh d),(688+sh d),(688+sh d),(688+sh d),.b ⟨[VJ (656+sh d) (656+sh d) 0 n2 2],189,false⟩⟩,⟨(840+sh d),(840+sh d),(1976+sh d),(1976+sh d),.b ⟨(bf T1 T2 (ab (A.take n1)) (ab (B.take n2)) H5 l i).flatMap aD,126,true⟩⟩] (848+sh d)) (λ(x:(i:Nat)×'(hi:1<=i∧i<=k)×'Unit)=>match x with|⟨i,hi,_⟩=>k-i) [⟨Unit,.exit 0,λ x=>match x with|()=>VZ [(1,XG (WG 115) [] [V7 (576+sh d) (576+sh d) 0,V7 (688+sh d) (688+sh d) 0,V7 (624+sh d) (624+sh d) 0]),(10,V3 false k 3 (flatMap bb l)),(11,zN k),(12,nD k)] [⟨16,16,16,16,.b ⟨[(VJ (840+sh d) (840+sh d) (0) ((bf T1 T2 (ab (A.take n1)) (ab (B.take n2)) H5 l k).length) 2)],123,false⟩⟩,⟨(96+sh d),(96+sh d),(96+sh d),(96+sh d),.b ⟨[ai e,zI 1,uI 2,zI 2],126,false⟩⟩,⟨(256+sh d),(256+sh d),(256+sh d),(256+sh d),.b ⟨map dB L,5,true⟩⟩,⟨(257+sh d),(257+sh d),(257+sh d),(257+sh d),.b ⟨map dB F,5,true⟩⟩,⟨(400+sh d),(400+sh d),(400+sh d),(400+sh d),.b ⟨map dB A,5,true⟩⟩,⟨(408+sh d),(408+sh d),(408+sh d),(408+sh d),.b ⟨map dB B,5,true⟩⟩,⟨(416+sh d),(416+sh d),(416+sh d),(416+sh d),.b ⟨flatMap dp R0,187,true⟩⟩,⟨(432+sh d),(432+sh d),(432+sh d),(432+sh d),.b ⟨flatMap db (ab C),210,true⟩⟩,⟨(576+sh d),(576+sh d),(576+sh d),(576+sh d),.b ⟨[V7 16 16 0],105,false⟩⟩,⟨(592+sh d),(592+sh d),(592+sh d),(592+sh d),.b ⟨flatMap db (ab (take n1 A)),210,true⟩⟩,⟨(624+sh d),(624+sh d),(624+sh d),(624+sh d),.b ⟨[VJ (592+sh d) (592+sh d) 0 n1 2],189,false⟩⟩,⟨(656+sh d),(656+sh d),(656+sh d),(656+sh d),.b ⟨flatMap db (ab (take n2 B)),210,true⟩⟩,⟨(688+sh d),(688+sh d),(688+sh d),(688+sh d),.b ⟨[VJ (656+sh d) (656+sh d) 0 n2 2],189,false⟩⟩,⟨(840+sh d),(840+sh d),(1976+sh d),(1976+sh d),.b ⟨(bf T1 T2 (ab (A.take n1)) (ab (B.take n2)) H5 l k).flatMap aD,126,true⟩⟩] (848+sh d)⟩] 1000 64 (fun|⟨i,hi,_⟩,Q,ZB,ZD=>.B 2 ((i:Int)<k) (λ p10 p10f=>.K 1 (true&&decide ((i:Int)<k)&&true) ym<|.K 2 (VN (i*3+3) (length (flatMap bb l))) JY<|.lst (take 3 (drop (i*3) (flatMap bb l))) ([da (VE (Tn.lit (getD l i lh))),zN (Tn.dist (getD l i lh)),zN (Tn.long (getD l i lh))]) (aJ (k:=3) (i:=i) (λ _=>rfl) om om)<|.R 13 ((↑(Tn.long (getD l i lh)):Int)==0) (λ p11=>have p11f:=eq_of_beq p11;.I 8 (↑(VE (Tn.lit (getD l i lh))):Int) JZ<|.K 18 (true&&decide ((↑(VE (Tn.lit (getD l i lh))):Int)<(n1:Int))) N7<|.K 2 (VN (0+VE (Tn.lit (getD l i lh))*2+2) (length (flatMap db (ab (take n1 A))))) zW<|.lst (take 2 (drop (0+VE (Tn.lit (getD l i lh))*2) (flatMap db (ab (take n1 A))))) ([ai (V2 (getD (ab (take n1 A)) (VE (Tn.lit (getD l i lh))) lh)),da (VM (getD (ab (take n1 A)) (VE (Tn.lit (getD l i lh))) lh))]) (aJ (k:=2) (i:=VE (Tn.lit (getD l i lh))) (λ _=>rfl) gV om)<|.I 18 (↑(VM (getD (ab (take n1 A)) (VE (Tn.lit (getD l i lh))) lh)):Int) gV<|.C 1 152 false [] (.fn ff (@cd (V2 (getD (ab (take n1 A)) (VE (Tn.lit (getD l i lh))) lh)) (VM (getD (ab (take n1 A)) (VE (Tn.lit (getD l i lh))) lh)) FM (by(exact(oA _).2))))<|.I 16 (↑(VM (getD (ab (take n1 A)) (VE (Tn.lit (getD l i lh))) lh)):Int) gV<|.K 23 (true&&VK (length (bf T1 T2 (ab (take n1 A)) (ab (take n2 B)) H5 l i)*2) (length (flatMap aD (bf T1 T2 (ab (take n1 A)) (ab (take n2 B)) H5 l i)))&&true&&true&&true&&true&&VN ((length (bf T1 T2 (ab (take n1 A)) (ab (take n2 B)) H5 l i)+2)*16) 140737488355328) FP<|.W 9 (i+1)<|.V 1 12 (zI (i+1)) (zN (i+1)) D9<|.blk 16 16 (VF [VJ (1288+sh d) (1288+sh d) 0 (length (bf T1 T2 (ab (take n1 A)) (ab (take n2 B)) H5 l i)+2) 2] 123 false) (VF [VJ (1288+sh d) (1288+sh d) 0 (length (bf T1 T2 (ab (take n1 A)) (ab (take n2 B)) H5 l (i+1))) 2] 123 false) (by(rw[fh om om,VI];rfl))<|.blk (1288+sh d) (1288+sh d) (VF (flatMap aD (bf T1 T2 (ab (take n1 A)) (ab (take n2 B)) H5 l i)++[ai (dG (V2 (getD (ab (take n1 A)) (VE (Tn.lit (getD l i lh))) lh)) (VM (getD (ab (take n1 A)) (VE (Tn.lit (getD l i lh))) lh))),zN (VM (getD (ab (take n1 A)) (VE (Tn.lit (getD l i lh))) lh)),uI 0,zI 0]) 126 true) (VF (flatMap aD (bf T1 T2 (ab (take n1 A)) (ab (take n2 B)) H5 l (i+1))) 126 true) (by(refine aw ?_;rw[fh om om,cD];rfl))<|Hn.next ZB ⟨(i+1),om,⟨⟩⟩ RG [(16,16),((96+sh d),(96+sh d)),((256+sh d),(256+sh d)),((257+sh d),(257+sh d)),((400+sh d),(400+sh d)),((408+sh d),(408+sh d)),((416+sh d),(416+sh d)),((432+sh d),(432+sh d)),((576+sh d),(576+sh d)),((592+sh d),(592+sh d)),((624+sh d),(624+sh d)),((656+sh d),(656+sh d)),((688+sh d),(688+sh d)),((1288+sh d),(1288+sh d))] HK) (λ p11=>have p11f:=ap p11;.C 7 142 false [] (.fn vO (@j5 (T1) aO om om (Tn.long (getD l i lh)) gV gV))<|.K 35 (true&&decide ((↑(257+ak T1 (Tn.long (getD l i lh))):Int)<(n1:Int))) Iq<|.K 2 (VN (0+(257+ak T1 (Tn.long (getD l i lh)))*2+2) (length (flatMap db (ab (take n1 A))))) zW<|.lst (take 2 (drop (0+(257+ak T1 (Tn.long (getD l i lh)))*2) (flatMap db (ab (take n1 A))))) ([ai (V2 (getD (ab (take n1 A)) (257+ak T1 (Tn.long (getD l i lh))) lh)),da (VM (getD (ab (take n1 A)) (257+ak T1 (Tn.long (getD l i lh))) lh))]) (aJ (k:=2) (i:=257+ak T1 (Tn.long (getD l i lh))) (λ _=>rfl) gV om)<|.I 18 (↑(VM (getD (ab (take n1 A)) (257+ak T1 (Tn.long (getD l i lh))) lh)):Int) gV<|.C 1 152 false [] (.fn ff (@cd (V2 (getD (ab (take n1 A)) (257+ak T1 (Tn.long (getD l i lh))) lh)) (VM (getD (ab (take n1 A)) (257+ak T1 (Tn.long (getD l i lh))) lh)) FM (by(exact(oA _).2))))<|.I 16 (↑(VM (getD (ab (take n1 A)) (257+ak T1 (Tn.long (getD l i lh))) lh)):Int) gV<|.O 4 (ay .u32 (↑(Tn.long (getD l i lh)-Sy.least (getD T1 (ak T1 (Tn.long (getD l i lh))) lh)):Int)) (ai (Tn.long (getD l i lh)-Sy.least (getD T1 (ak T1 (Tn.long (getD l i lh))) lh))) (aA gV)<|.K 18 (true&&VK (length (bf T1 T2 (ab (take n1 A)) (ab (take n2 B)) H5 l i)*2) (length (flatMap aD (bf T1 T2 (ab (take n1 A)) (ab (take n2 B)) H5 l i)))&&true&&true&&true&&true&&VN ((length (bf T1 T2 (ab (take n1 A)) (ab (take n2 B)) H5 l i)+2)*16) 140737488355328) FP<|.C 14 143 false [] (.fn vP (@oo (T2) aO om om (Tn.dist (getD l i lh)) gV gV))<|.K 34 (true&&decide ((↑(ak T2 (Tn.dist (getD l i lh))):Int)<(n2:Int))) Iq<|.K 2 (VN (0+ak T2 (Tn.dist (getD l i lh))*2+2) (length (flatMap db (ab (take n2 B))))) zW<|.lst (take 2 (drop (0+ak T2 (Tn.dist (getD l i lh))*2) (flatMap db (ab (take n2 B))))) ([ai (V2 (getD (ab (take n2 B)) (ak T2 (Tn.dist (getD l i lh))) lh)),da (VM (getD (ab (take n2 B)) (ak T2 (Tn.dist (getD l i lh))) lh))]) (aJ (k:=2) (i:=ak T2 (Tn.dist (getD l i lh))) (λ _=>rfl) gV om)<|.I 18 (↑(VM (getD (ab (take n2 B)) (ak T2 (Tn.dist (getD l i lh))) lh)):Int) gV<|.C 1 152 false [] (.fn ff (@cd (V2 (getD (ab (take n2 B)) (ak T2 (Tn.dist (getD l i lh))) lh)) (VM (getD (ab (take n2 B)) (ak T2 (Tn.dist (getD l i lh))) lh)) KE (by(exact(oB _).2))))<|.I 16 (↑(VM (getD (ab (take n2 B)) (ak T2 (Tn.dist (getD l i lh))) lh)):Int) gV<|.O 4 (ay .u32 (↑(Tn.dist (getD l i lh)-Sy.least (getD T2 (ak T2 (Tn.dist (getD l i lh))) lh)):Int)) (ai (Tn.dist (getD l i lh)-Sy.least (getD T2 (ak T2 (Tn.dist (getD l i lh))) lh))) (aA gV)<|.K 18 (true&&VK ((length (bf T1 T2 (ab (take n1 A)) (ab (take n2 B)) H5 l i)+2)*2) (length (flatMap aD (bf T1 T2 (ab (take n1 A)) (ab (take n2 B)) H5 l i)++[ai (dG (V2 (getD (ab (take n1 A)) (257+ak T1 (Tn.long (getD l i lh))) lh)) (VM (getD (ab (take n1 A)) (257+ak T1 (Tn.long (getD l i lh))) lh))),zN (VM (getD (ab (take n1 A)) (257+ak T1 (Tn.long (getD l i lh))) lh)),ai (Tn.long (getD l i lh)-Sy.least (getD T1 (ak T1 (Tn.long (getD l i lh))) lh)),zN (Sy.bits (getD T1 (ak T1 (Tn.long (getD l i lh))) lh))]))&&true&&true&&true&&true&&VN ((length (bf T1 T2 (ab (take n1 A)) (ab (take n2 B)) H5 l i)+2+2)*16) 140737488355328) O9<|.W 9 (i+1)<|.V 1 12 (zI (i+1)) (zN (i+1)) D9<|.blk 16 16 (VF [VJ (2064+sh d) (2064+sh d) 0 (length (bf T1 T2 (ab (take n1 A)) (ab (take n2 B)) H5 l i)+2+2) 2] 123 false) (VF [VJ (2064+sh d) (2064+sh d) 0 (length (bf T1 T2 (ab (take n1 A)) (ab (take n2 B)) H5 l (i+1))) 2] 123 false) (by(rw[gr om om,VI];rfl))<|.blk (2064+sh d) (2064+sh d) (VF (flatMap aD (bf T1 T2 (ab (take n1 A)) (ab (take n2 B)) H5 l i)++[ai (dG (V2 (getD (ab (take n1 A)) (257+ak T1 (Tn.long (getD l i lh))) lh)) (VM (getD (ab (take n1 A)) (257+ak T1 (Tn.long (getD l i lh))) lh))),zN (VM (getD (ab (take n1 A)) (257+ak T1 (Tn.long (getD l i lh))) lh)),ai (Tn.long (getD l i lh)-Sy.least (getD T1 (ak T1 (Tn.long (getD l i lh))) lh)),zN (Sy.bits (getD T1 (ak T1 (Tn.long (getD l i lh))) lh))]++[ai (dG (V2 (getD (ab (take n2 B)) (ak T2 (Tn.dist (getD l i lh))) lh)) (VM (getD (ab (take n2 B)) (ak T2 (Tn.dist (getD l i lh))) lh))),zN (VM (getD (ab (take n2 B)) (ak T2 (Tn.dist (getD l i lh))) lh)),ai (Tn.dist (getD l i lh)-Sy.least (getD T2 (ak T2 (Tn.dist (getD l i lh))) lh)),zN (Sy.bits (getD T2 (ak T2 (Tn.dist (getD l i lh))) lh))]) 126 true) (VF (flatMap aD (bf T1 T2 (ab (take n1 A)) (ab (take n2 B)) H5 l (i+1))) 126 true) N9<|Hn.next ZB ⟨(i+1),om,⟨⟩⟩ RG [(16,16),((96+sh d),(96+sh d)),((256+sh d),(256+sh d)),((257+sh d),(257+sh d)),((400+sh d),(400+sh d)),((408+sh d),(408+sh d)),((416+sh d),(416+sh d)),((432+sh d),(432+sh d)),((576+sh d),(576+sh d)),((592+sh d),(592+sh d)),((624+sh d),(624+sh d)),((656+sh d),(656+sh d)),((688+sh d),(688+sh d)),((2064+sh d),(2064+sh d))] HK)) (λ p10 p10f=>.val 12 (zN i) (zN k) Mg<|.blk 16 16 (VF [VJ (840+sh d) (840+sh d) 0 (length (bf T1 T2 (ab (take n1 A)) (ab (take n2 B)) H5 l i)) 2] 123 false) (VF [VJ (840+sh d) (840+sh d) 0 (length (bf T1 T2 (ab (take n1 A)) (ab (take n2 B)) H5 l k)) 2] 123 false) Mg<|.blk (840+sh d) (840+sh d) (VF (flatMap aD (bf T1 T2 (ab (take n1 A)) (ab (take n2 B)) H5 l i)) 126 true) (VF (flatMap aD (bf T1 T2 (ab (take n1 A)) (ab (take n2 B)) H5 l k)) 126 true) Mg<|Hn.last ZD 0 (():Unit) rfl [(16,16),((96+sh d),(96+sh d)),((256+sh d),(256+sh d)),((257+sh d),(257+sh d)),((400+sh d),(400+sh d)),((408+sh d),(408+sh d)),((416+sh d),(416+sh d)),((432+sh d),(432+sh d)),((576+sh d),(576+sh d)),((592+sh d),(592+sh d)),((624+sh d),(624+sh d)),((656+sh d),(656+sh d)),((688+sh d),(688+sh d)),((840+sh d),(840+sh d))] HK)) (fun|⟨i,hi,_⟩=>by cases d<;>kernel_rfl) ⟨(1),om,⟨⟩⟩ [(16,16),((96+sh d),(96+sh d)),((256+sh d),(256+sh d)),((257+sh d),(257+sh d)),((400+sh d),(400+sh d)),((408+sh d),(408+sh d)),((416+sh d),(416+sh d)),((432+sh d),(432+sh d)),((576+sh d),(576+sh d)),((592+sh d),(592+sh d)),((624+sh d),(624+sh d)),((656+sh d),(656+sh d)),((688+sh d),(688+sh d)),((1976+sh d),(1976+sh d))] HK (bM (fun|()=>.K 19 (true&&decide (256<(n1:Int))) vW<|.K 2 (VN 514 (length (flatMap db (ab (take n1 A))))) Cw<|.lst (take 2 (drop 512 (flatMap db (ab (take n1 A))))) ([ai (V2 (getD (ab (take n1 A)) 256 lh)),da (VM (getD (ab (take n1 A)) 256 lh))]) (aJ (k:=2) (i:=256) (λ _=>rfl) om om)<|.I 18 (↑(VM (getD (ab (take n1 A)) 256 lh)):Int) rP<|.C 1 152 false [] (.fn ff (@cd (V2 (getD (ab (take n1 A)) 256 lh)) (VM (getD (ab (take n1 A)) 256 lh)) FM (by(exact(oA _).2))))<|.I 16 (↑(VM (getD (ab (take n1 A)) 256 lh)):Int) rP<|.K 23 (true&&VK (length (bf T1 T2 (ab (take n1 A)) (ab (take n2 B)) H5 l k)*2) (length (flatMap aD (bf T1 T2 (ab (take n1 A)) (ab (take n2 B)) H5 l k)))&&true&&true&&true&&true&&VN ((length (bf T1 T2 (ab (take n1 A)) (ab (take n2 B)) H5 l k)+2)*16) 140737488355328) Cy<|.U 9 [16,(1200+sh d)] [16,(1200+sh d)] (V7 0 0 0) [VF [VJ 1 1 0 (length (bf T1 T2 (ab (take n1 A)) (ab (take n2 B)) H5 l k)+2) 2] 123 false,VF (flatMap aD (bf T1 T2 (ab (take n1 A)) (ab (take n2 B)) H5 l k)++[ai (dG (V2 (getD (ab (take n1 A)) 256 lh)) (VM (getD (ab (take n1 A)) 256 lh))),zN (VM (getD (ab (take n1 A)) 256 lh)),uI 0,zI 0]) 126 true] R (ok _ _ wr (by(rw[VI,cD];rfl))))))) (λ p6 p6f=>.K 19 (true&&decide (256<(n1:Int))) vW<|.K 2 (VN 514 (length (flatMap db (ab (take n1 A))))) (by(rw[f9];refine VL ?_;(omega)))<|.lst (take 2 (drop 512 (flatMap db (ab (take n1 A))))) ([ai (V2 (getD (ab (take n1 A)) 256 lh)),da (VM (getD (ab (take n1 A)) 256 lh))]) (aJ (k:=2) (i:=256) (λ _=>rfl) om om)<|.I 18 (↑(VM (getD (ab (take n1 A)) 256 lh)):Int) (by(have y3:=oA 256;omega))<|.C 1 152 false [] (.fn ff (@cd (V2 (getD (ab (take n1 A)) 256 lh)) (VM (getD (ab (take n1 A)) 256 lh)) FM (by(exact(oA _).2))))<|.I 16 (↑(VM (getD (ab (take n1 A)) 256 lh)):Int) (by(have y3:=oA 256;omega))<|.K 23 (true&&VK (length H5*2) (length (flatMap aD H5))&&true&&true&&true&&true&&VN ((length H5+2)*16) 140737488355328) Cy<|.U 9 [16,(1120+sh d)] [16,(1120+sh d)] (V7 0 0 0) [VF [VJ 1 1 0 (length H5+2) 2] 123 false,VF (flatMap aD H5++[ai (dG (V2 (getD (ab (take n1 A)) 256 lh)) (VM (getD (ab (take n1 A)) 256 lh))),zN (VM (getD (ab (take n1 A)) 256 lh)),uI 0,zI 0]) 126 true] R (ok _ _ wr (by(rw[show k=0 from by omega,iX,VI,cD];rfl))))) .nil))))))))))):Hn Tryz.prog)) (λ t h=>SpecH.run T_ok ah Tryz.func65 rfl rfl rfl ⟨rfl,dn (λ _=>rfl) _,trivial⟩ rfl 1000 64 (λ R ok=>.s 43 (t true 1 H H3 H4 H5 hH hH3 hH4 hH5 R ok)) h) (λ t h=>SpecH.run T_ok ah Tryz.func65 rfl rfl rfl ⟨rfl,dn (λ _=>rfl) _,trivial⟩ rfl 1000 64 (λ R ok=>.s 42 (t false 0 H' H3' H4' H5' hH' hH3' hH4' hH5' R ok)) h) kr kr
theorem Pg (l:List Tn)(k:Nat)(hk:k=l.length)(hk2:k<=65535)(hl:∀i,ci (l.getD i lh))(T1 T2:List Sy)(hT1:T1=aB)(hT2:T2=aM)(hl1:T1.length=29)(hl2:T2.length=30)(hz1:bk T1)(hz2:bk T2)(W1 W2:List Nat)(A B:Z4)(n1 n2:Nat)(R0:List Rn)(W3:List Nat)(C O:Z4)(n3:Nat)(D:DyV T1 T2 l k W1 W2 A B n1 n2 R0 W3 C O n3)(L F:Z4)(hL:L=cn)(hF:F=dV)(H H3 H4 H5:List Nm)(hH:H=k6 1 2)(hH3:H3=H++[⟨n1-257,5⟩,⟨n2-1,5⟩,⟨n3-4,4⟩])(hH4:cO H3 gO (O.take n3) n3=H4)(hH5:cO H4 (iv (ab C)) R0 R0.length=H5)(a:Nat)(ha:a<=7)(raw:Z4)(r:Nat)(hr:r=raw.length)(hr2:r<=65535):S0 65 [nD a,dY 2,.sl false r 1 (raw.map dB),.sl false k 3 (l.flatMap bb),.v (.bool true)] [] (.ptr 0 0 0) [⟨[.ref 1 1 0 ((bf T1 T2 (ab (A.take n1)) (ab (B.take n2)) H5 l k)++iF (ab (A.take n1)) 256 0 0).length 2], 123,false⟩,⟨((bf T1 T2 (ab (A.take n1)) (ab (B.take n2)) H5 l k)++iF (ab (A.take n1)) 256 0 0).flatMap aD, 126,true⟩]:=(Is l k hk hk2 hl T1 T2 hT1 hT2 hl1 hl2 hz1 hz2 W1 W2 A B n1 n2 R0 W3 C O n3 D L F hL hF a ha raw r hr hr2 H H3 H4 H5 hH hH3 hH4 hH5 _ _ _ _ rfl rfl rfl rfl).1
theorem Ph (l:List Tn)(k:Nat)(hk:k=l.length)(hk2:k<=65535)(hl:∀i,ci (l.getD i lh))(T1 T2:List Sy)(hT1:T1=aB)(hT2:T2=aM)(hl1:T1.length=29)(hl2:T2.length=30)(hz1:bk T1)(hz2:bk T2)(W1 W2:List Nat)(A B:Z4)(n1 n2:Nat)(R0:List Rn)(W3:List Nat)(C O:Z4)(n3:Nat)(D:DyV T1 T2 l k W1 W2 A B n1 n2 R0 W3 C O n3)(L F:Z4)(hL:L=cn)(hF:F=dV)(H H3 H4 H5:List Nm)(hH:H=k6 0 2)(hH3:H3=H++[⟨n1-257,5⟩,⟨n2-1,5⟩,⟨n3-4,4⟩])(hH4:cO H3 gO (O.take n3) n3=H4)(hH5:cO H4 (iv (ab C)) R0 R0.length=H5)(a:Nat)(ha:a<=7)(raw:Z4)(r:Nat)(hr:r=raw.length)(hr2:r<=65535):S0 65 [nD a,dY 2,.sl false r 1 (raw.map dB),.sl false k 3 (l.flatMap bb),.v (.bool false)] [] (.ptr 0 0 0) [⟨[.ref 1 1 0 ((bf T1 T2 (ab (A.take n1)) (ab (B.take n2)) H5 l k)++iF (ab (A.take n1)) 256 0 0).length 2], 123,false⟩,⟨((bf T1 T2 (ab (A.take n1)) (ab (B.take n2)) H5 l k)++iF (ab (A.take n1)) 256 0 0).flatMap aD, 126,true⟩]:=(Is l k hk hk2 hl T1 T2 hT1 hT2 hl1 hl2 hz1 hz2 W1 W2 A B n1 n2 R0 W3 C O n3 D L F hL hF a ha raw r hr hr2 _ _ _ _ rfl rfl rfl rfl H H3 H4 H5 hH hH3 hH4 hH5).2
theorem RM {p:Prop}(h:p:=by rw[jv];decide+kernel):p:=h
def TQ (e:Nat)(l:List Tn):List Nm:=lk l (bf aB aM (ab cn) (ab dV) (k6 e 1) l l.length++iF (ab cn) 256 0 0)
theorem i8 (e:Nat)(l:List Tn):TQ e l=bf aB aM (ab cn) (ab dV) (k6 e 1) l l.length++iF (ab cn) 256 0 0:=aP _ _
def nq (l:List Tn):Z4:=lk l (u7 (bK (aQ 286 (ce aB l l.length++[256])) 15) 257)
def rQ (l:List Tn):Z4:=lk l (u7 (bK (aQ 30 (du aM l l.length)) 15) 1)
def u9 (l:List Tn):List Rn:=lk l (xh (nq l++rQ l))
def nr (l:List Tn):Z4:=lk l (bK (aQ 19 ((u9 l).map Rn.s)) 7)
def yn (l:List Tn):Z4:=lk l (u7 (iJ (nr l) 19) 4)
def Eb (e:Nat)(l:List Tn):List Nm:=lk l (cO (cO (k6 e 2++[⟨(nq l).length-257,5⟩,⟨(rQ l).length-1,5⟩,⟨(yn l).length-4,4⟩]) gO (yn l) (yn l).length) (iv (ab (nr l))) (u9 l) (u9 l).length)
def TR (e:Nat)(l:List Tn):List Nm:=lk l (bf aB aM (ab (nq l)) (ab (rQ l)) (Eb e l) l l.length++iF (ab (nq l)) 256 0 0)
theorem rR (l:List Tn):nq l=u7 (bK (aQ 286 (ce aB l l.length++[256])) 15) 257:=aP _ _
theorem rS (l:List Tn):rQ l=u7 (bK (aQ 30 (du aM l l.length)) 15) 1:=aP _ _
theorem KG (l:List Tn):u9 l=xh (nq l++rQ l):=aP _ _
theorem KH (l:List Tn):nr l=bK (aQ 19 ((u9 l).map Rn.s)) 7:=aP _ _
theorem rT (l:List Tn):yn l=u7 (iJ (nr l) 19) 4:=aP _ _
theorem lN (e:Nat)(l:List Tn):Eb e l=cO (cO (k6 e 2++[⟨(nq l).length-257,5⟩,⟨(rQ l).length-1,5⟩,⟨(yn l).length-4,4⟩]) gO (yn l) (yn l).length) (iv (ab (nr l))) (u9 l) (u9 l).length:=aP _ _
theorem i9 (e:Nat)(l:List Tn):TR e l=bf aB aM (ab (nq l)) (ab (rQ l)) (Eb e l) l l.length++iF (ab (nq l)) 256 0 0:=aP _ _
theorem fj (l:Z4)(m:Nat):u7 l m=l.take (gS l m):=lG l m
theorem rU (l:List Tn):DyV aB aM l l.length (aQ 286 (ce aB l l.length++[256])) (aQ 30 (du aM l l.length)) (bK (aQ 286 (ce aB l l.length++[256])) 15) (bK (aQ 30 (du aM l l.length)) 15) (gS (bK (aQ 286 (ce aB l l.length++[256])) 15) 257) (gS (bK (aQ 30 (du aM l l.length)) 15) 1) (u9 l) (aQ 19 ((u9 l).map Rn.s)) (nr l) (iJ (nr l) 19) (gS (iJ (nr l) 19) 4):=
 ⟨rfl,rfl,⟨rfl⟩,⟨rfl⟩,⟨rfl⟩,⟨rfl⟩,⟨by rw[KG,rR,rS,fj,fj]⟩,rfl,⟨(KH l).symm⟩,rfl,⟨rfl⟩⟩
def rV (a kd:Nat)(raw:Z4)(l:List Tn)(e:Nat):List Nm:=lk [()] (if kd=0 then qi e a raw else if kd=1 then TQ e l else TR e l)
theorem eJ (a kd:Nat)(raw:Z4)(l:List Tn)(e:Nat):rV a kd raw l e=if kd=0 then qi e a raw else if kd=1 then TQ e l else TR e l:=aP _ _
theorem dW:dI cn 15=0:=by decide+kernel
theorem gQ:dI dV 15=0:=by decide+kernel
def gy (X:List Nm):Prop:=∀x∈X,x.v<2^x.n∧x.n<=32
theorem cU {X Y:List Nm}(h1:gy X)(h2:gy Y):gy (X++Y):=λ x hx=>(List.mem_append.1 hx).elim (h1 x) (h2 x)
theorem rW {α:Type}{g:α->List Nm}:∀{l:List α},(∀x∈l,gy (g x))->gy (l.flatMap g):=fun{l} h x hx=>by
 obtain⟨y,hy,hx⟩:=List.mem_flatMap.1 hx;exact h y hy x hx
theorem cj {x:Nm}{X:List Nm}(h:x.v<2^x.n∧x.n<=32)(h2:gy X):gy (x::X):=λ y hy=>(List.mem_cons.1 hy).elim (λ e=>by rw[e];exact h) (h2 y)
theorem iw:gy []:=λ x hx=>absurd hx Yq
theorem CB {X:List Nm}(h:gy X)(i:Nat):(X.getD i lh).v<2^(X.getD i lh).n∧(X.getD i lh).n<=32:=by
 rw[VH]
 cases hq:X[i]? with
 |none=>exact⟨by decide,VS rfl⟩
 |some x=>exact h x (W4 hq)
theorem lP {C:List (Nat×Nat)}(hC:jZ C)(s:Nat){n x:Nat}(hx:x<2^n)(hn:n<=32):gy (iF C s n x):=
 cj ⟨od _ _,VR (hC s).1 (by decide)⟩ (cj ⟨hx,hn⟩ iw)
theorem rX {e k:Nat}(he:e<=1)(hk:k<=3):gy (k6 e k):=cj ⟨show e<2^1 by omega,VS rfl⟩ (cj ⟨show k<2^2 by omega,VS rfl⟩ iw)
theorem KI {T:List Sy}(h:T.all (λ y=>decide (y.many<=2^y.bits))=true)(i:Nat):i<T.length->(T.getD i lh).many<=2^(T.getD i lh).bits:=λ hi=>by
 rw[VH,VG hi];exact of_decide_eq_true (List.all_eq_true.1 h _ (WE hi))
theorem It {T:List Sy}(h:T.all (λ y=>decide (y.many<=2^y.bits))=true){n:Nat}(hi:ak T n<T.length):n-(T.getD (ak T n) lh).least<2^(T.getD (ak T n) lh).bits:=by
 have q:=tG (T:=T) (n:=n) T.length 0 (by rw[<-fM];omega);rw[<-fM]at q;have p:=KI h _ hi;omega
theorem zX:aB.all (λ y=>decide (y.many<=2^y.bits))=true:=by decide+kernel
theorem CC:aM.all (λ y=>decide (y.many<=2^y.bits))=true:=by decide+kernel
theorem CD {A B:List (Nat×Nat)}(hA:jZ A)(hB:jZ B){t:Tn}(h:ci t):gy (tS aB aM A B t):=by
 unfold tS
 split
 ·exact lP hA _ (by decide) (by decide)
 ·next h0=>
  have te:=bg rfl rfl h h0;have s1:=cN (ak aB t.long);have s2:=dq (ak aM t.dist);exact cU (lP hA _ (It zX te.1) om) (lP hB _ (It CC te.2) om)
theorem yo {A B:List (Nat×Nat)}(hA:jZ A)(hB:jZ B){H:List Nm}(hH:gy H){l:List Tn}(hl:∀t∈l,ci t):gy (bf aB aM A B H l l.length):=by
 rw[gq];exact cU hH (rW λ t ht=>CD hA hB (hl t (WU ht)))
theorem ns {l:List Tn}(hl:∀i,ci (l.getD i lh)):∀t∈l,ci t:=λ t ht=>by
 obtain⟨i,hi⟩:=WO ht;have:=hl i
 rwa [VH,hi]at this
theorem rY (a:Nat):fv a<=7:=by rw[kD];omega
theorem CE {e a:Nat}{raw:Z4}(he:e<=1)(hr:raw.length<=65535):gy (qi e a raw):=by
 unfold qi;rw[gn];have:=rY a;refine cU (cj ⟨show e<2^1 by omega,VS rfl⟩ (cj ⟨by decide,VS rfl⟩ (cj ⟨XT _,by show fv a<=32;omega⟩ (cj ⟨show raw.length<2^16 by omega,VS rfl⟩ (cj ⟨show 65535-raw.length<2^16 by omega,VS rfl⟩ iw))))) λ x hx=>?_
 obtain⟨y,hy,rfl⟩:=List.mem_map.1 hx;exact⟨y.toNat_lt,VS rfl⟩
structure DyG (l:List Tn):Prop where
 f:DyF (aQ 286 (ce aB l l.length++[256])) (aQ 30 (du aM l l.length)) (bK (aQ 286 (ce aB l l.length++[256])) 15) (bK (aQ 30 (du aM l l.length)) 15) (gS (bK (aQ 286 (ce aB l l.length++[256])) 15) 257) (gS (bK (aQ 30 (du aM l l.length)) 15) 1) (u9 l) (aQ 19 ((u9 l).map Rn.s)) (nr l) (iJ (nr l) 19) (gS (iJ (nr l) 19) 4)
 lL:(nq l).length=gS (bK (aQ 286 (ce aB l l.length++[256])) 15) 257
 lB:(rQ l).length=gS (bK (aQ 30 (du aM l l.length)) 15) 1
 lO:(yn l).length=gS (iJ (nr l) 19) 4
 cL:dI (nq l) 15=0
 cB:dI (rQ l) 15=0
 oL:jZ (ab (nq l))
 oB:jZ (ab (rQ l))
theorem Mn (l:List Tn)(hk:l.length<=65535):DyG l:=by
 have F:=(rU l).f rfl hk;have eL:nq l=(bK (aQ 286 (ce aB l l.length++[256])) 15).take (gS (bK (aQ 286 (ce aB l l.length++[256])) 15) 257):=by rw[rR,fj]
 have eB:rQ l=(bK (aQ 30 (du aM l l.length)) 15).take (gS (bK (aQ 30 (du aM l l.length)) 15) 1):=by rw[rS,fj]
 have eO:yn l=(iJ (nr l) 19).take (gS (iJ (nr l) 19) 4):=by rw[rT,fj]
 exact⟨F,by rw[eL];exact F.lA2,by rw[eB];exact F.lB2,by rw[eO];exact F.lO2,by rw[eL];exact F.cA,by rw[eB];exact F.cB,by rw[eL];exact F.oA,by rw[eB];exact F.oB⟩
theorem rZ {e:Nat}{l:List Tn}(he:e<=1)(hk:l.length<=65535):gy (Eb e l):=by
 have G:=Mn l hk;have F:=G.f;rw[lN,gv,gv];have k1:=F.k1;have k2:=F.k2;have k3:=F.k3;refine cU (cU (cU (rX he (by decide)) (cj ⟨show(nq l).length-257<2^5 by rw[G.lL];omega,VS rfl⟩ (cj ⟨show(rQ l).length-1<2^5 by rw[G.lB];omega,VS rfl⟩ (cj ⟨show(yn l).length-4<2^4 by rw[G.lO];omega,VS rfl⟩ iw)))) (rW λ x hx=>cj ⟨?_,VS rfl⟩ iw)) (rW λ r hr=>?_)
 ·obtain⟨i,hi⟩:=WO (WU hx)
  have q:=F.bO i;have e1:(iJ (nr l) 19).getD i lh=x:=by
   rw[rT,fj]at hi;have hi2:=(WA▸hi:(if i<_ then(iJ (nr l) 19)[i]? else none)=some x)
   split at hi2
   ·rw[VH,hi2];rfl
   ·cases hi2
  rw[e1]at q;show x.toNat<2^3;omega
 ·obtain⟨i,hi⟩:=WO (WU hr)
  have q:=F.oR i;have e1:(u9 l).getD i lh=r:=by rw[VH,hi];rfl
  rw[e1]at q;exact lP F.oC _ q.2 (VR (xg _).2 (by decide))
theorem KJ {a kd:Nat}{raw:Z4}{l:List Tn}{e:Nat}(he:e<=1)(hr:raw.length<=65535)(hk:l.length<=65535)(hl:∀i,ci (l.getD i lh)):gy (rV a kd raw l e):=by
 rw[eJ]
 split
 ·exact CE he hr
 ·split
  ·rw[i8]
   exact cU (yo (eI dW) (eI gQ) (rX he (by decide)) (ns hl)) (lP (eI dW) _ (by decide) (by decide))
  ·have G:=Mn l hk
   rw[i9];exact cU (yo G.oL G.oB (rZ he hk) (ns hl)) (lP G.oL _ (by decide) (by decide))
theorem r6 {e:Nat}{l:List Tn}(hk:l.length<=65535):(Eb e l).length<=1000:=by
 have G:=Mn l hk;have F:=G.f;rw[lN,iu (c:=2) (λ _=>rfl) _ (VT _),iu (c:=1) (λ _=>rfl) _ (VT _),VI];have:=F.lR;have:=F.k3;have:=G.lO;show 2+3+_+_<=_;omega
theorem FQ {a kd:Nat}{raw:Z4}{l:List Tn}{e:Nat}(hr:raw.length<=65535)(hk:l.length<=65535):(rV a kd raw l e).length<=1000000:=by
 rw[eJ]
 split
 ·unfold qi;rw[kE (VT _)];omega
 ·split
  ·rw[i8,VI]
   have:=cE (T1:=aB) (T2:=aM) (A:=ab cn) (B:=ab dV) (H:=k6 e 1) (l:=l) l.length (VT _);have e2:(k6 e 1).length=2:=rfl;have e3:(iF (ab cn) 256 0 0).length=2:=rfl;omega
  ·rw[i9,VI]
   have:=cE (T1:=aB) (T2:=aM) (A:=ab (nq l)) (B:=ab (rQ l)) (H:=Eb e l) (l:=l) l.length (VT _);have e2:=r6 (e:=e) hk;have e3:(iF (ab (nq l)) 256 0 0).length=2:=rfl;omega
theorem TS (a kd:Nat)(ha:a<=7)(hkd:kd<=2)(raw:Z4)(hr2:raw.length<=65535)(l:List Tn)(hk2:l.length<=65535)(hl:∀i,ci (l.getD i lh))(last:Bool):S0 65 [nD a,dY kd,.sl false raw.length 1 (raw.map dB),.sl false l.length 3 (l.flatMap bb),bD last] [] (.ptr 0 0 0) [⟨[.ref 1 1 0 (rV a kd raw l (if last then 1 else 0)).length 2], 123,false⟩,⟨(rV a kd raw l (if last then 1 else 0)).flatMap aD, 126,true⟩]:=by
 rw[eJ]
 by_cases h0:kd=0
 ·subst h0
  rw[ZF rfl];have e5:(qi (if last then 1 else 0) a raw).length=5+raw.length:=by unfold qi;exact kE (VT _)
  rw[e5]
  cases last
  ·exact N4 l.length (l.flatMap bb) (cS l) a ha raw _ rfl hr2 _ _ rfl rfl
  ·exact N3 l.length (l.flatMap bb) (cS l) a ha raw _ rfl hr2 _ _ rfl rfl
 ·rw[ZE h0]
  by_cases h1:kd=1
  ·subst h1
   rw[ZF rfl,i8];have q1:=eI dW;have q2:=eI gQ
   cases last
   ·exact Oe l _ rfl hk2 hl _ _ rfl rfl (by decide) (by decide) cN dq _ _ rfl rfl (by decide+kernel) (by decide+kernel) dW gQ RM RM q1 q2 _ rfl rfl a ha raw _ rfl hr2
   ·exact Od l _ rfl hk2 hl _ _ rfl rfl (by decide) (by decide) cN dq _ _ rfl rfl (by decide+kernel) (by decide+kernel) dW gQ RM RM q1 q2 _ rfl rfl a ha raw _ rfl hr2
  ·have h2:kd=2:=by omega
   subst h2;rw[ZE h1,i9];have G:=Mn l hk2;have e1:Eb (if last then 1 else 0) l=cO (cO (k6 (if last then 1 else 0) 2++[⟨gS (bK (aQ 286 (ce aB l l.length++[256])) 15) 257-257,5⟩,⟨gS (bK (aQ 30 (du aM l l.length)) 15) 1-1,5⟩,⟨gS (iJ (nr l) 19) 4-4,4⟩]) gO ((iJ (nr l) 19).take (gS (iJ (nr l) 19) 4)) (gS (iJ (nr l) 19) 4)) (iv (ab (nr l))) (u9 l) (u9 l).length:=by
    rw[lN,G.lL,G.lB,G.lO,rT,fj]
   have eL:nq l=(bK (aQ 286 (ce aB l l.length++[256])) 15).take (gS (bK (aQ 286 (ce aB l l.length++[256])) 15) 257):=by rw[rR,fj]
   have eB:rQ l=(bK (aQ 30 (du aM l l.length)) 15).take (gS (bK (aQ 30 (du aM l l.length)) 15) 1):=by rw[rS,fj]
   rw[eL,eB]
   cases last
   ·exact Ph l _ rfl hk2 hl _ _ rfl rfl (by decide) (by decide) cN dq _ _ _ _ _ _ _ _ _ _ _ (rU l) _ _ rfl rfl _ _ _ _ rfl rfl rfl e1.symm a ha raw _ rfl hr2
   ·exact Pg l _ rfl hk2 hl _ _ rfl rfl (by decide) (by decide) cN dq _ _ _ _ _ _ _ _ _ _ _ (rU l) _ _ rfl rfl _ _ _ _ rfl rfl rfl e1.symm a ha raw _ rfl hr2
def uA (T:List Sy)(n:Nat):Nat->Nat
 |0=>0
 |i+1=>if(T.getD i lh).least<=n then i else uA T n i
theorem KK {T:List Sy}{n i:Nat}(h:(T.getD i lh).least<=n):uA T n (i+1)=i:=ZF h
theorem KL {T:List Sy}{n i:Nat}(h:¬(T.getD i lh).least<=n):uA T n (i+1)=uA T n i:=ZE h
theorem CG {T:List Sy}{n:Nat}(hs:∀i j,i<j->j<T.length->(T.getD i lh).least+(T.getD i lh).many<=(T.getD j lh).least)(hI:ak T n<T.length):∀k,ak T n<k->k<=T.length->uA T n k=ak T n
 |0,h,_=>absurd h (Xi _)
 |k+1,h,h2=>by
  have q:=tG (T:=T) (n:=n) T.length 0 (by rw[<-fM];omega);rw[<-fM]at q
  by_cases e:k=ak T n
  ·rw[e];exact KK q.1
  ·have s:=hs (ak T n) k om om
   rw[KL om];exact CG hs hI k om om
theorem FT:∀i j,i<j->j<aB.length->(aB.getD i lh).least+(aB.getD i lh).many<=(aB.getD j lh).least:=by
 have h:∀j:Fin 29,∀i:Fin 29,i.1<j.1->(aB.getD i.1 lh).least+(aB.getD i.1 lh).many<=(aB.getD j.1 lh).least:=by decide+kernel
 exact λ i j hij hj=>h ⟨j,hj⟩ ⟨i,Nat.lt_trans hij hj⟩ hij
theorem KM:∀i j,i<j->j<aM.length->(aM.getD i lh).least+(aM.getD i lh).many<=(aM.getD j lh).least:=by
 have h:∀j:Fin 30,∀i:Fin 30,i.1<j.1->(aM.getD i.1 lh).least+(aM.getD i.1 lh).many<=(aM.getD j.1 lh).least:=by decide+kernel
 exact λ i j hij hj=>h ⟨j,hj⟩ ⟨i,Nat.lt_trans hij hj⟩ hij
def bL:List Nat:=[0,0,0,0,0,0,0,0,1,1,1,1,2,2,2,2,3,3,3,3,4,4,4,4,5,5,5,5,0]
def bF:List Nat:=[0,0,0,0,1,1,2,2,3,3,4,4,5,5,6,6,7,7,8,8,9,9,10,10,11,11,12,12,13,13]
def lL:List Nat:=[3,4,5,6,7,8,9,10,11,13,15,17,19,23,27,31,35,43,51,59,67,83,99,115,131,163,195,227,258]
def lF:List Nat:=[1,2,3,4,5,7,9,13,17,25,33,49,65,97,129,193,257,385,513,769,1025,1537,2049,3073,4097,6145,8193,12289,16385,24577]
theorem yp {T:List Sy}{f:Sy->Nat}{B:List Nat}(h0:B=T.map f){i:Nat}(h:i<T.length):(B.map nD)[0+i*1]? =some (nD (f (T.getD i lh))):=by
 subst h0;rw[Wd,V5,V6,V6,VH,VG h];rfl
theorem Pi {T:List Sy}(hT:T=aB){i:Nat}(h:i<29):(lL.map nD)[0+i*1]? =some (nD (T.getD i lh).least):=by subst hT;exact yp (T:=aB) (f:=Sy.least) rfl (show i<aB.length from h)
theorem TU {T:List Sy}(hT:T=aB){i:Nat}(h:i<29):(bL.map nD)[0+i*1]? =some (nD (T.getD i lh).bits):=by subst hT;exact yp (T:=aB) (f:=Sy.bits) rfl (show i<aB.length from h)
theorem Pj {T:List Sy}(hT:T=aM){i:Nat}(h:i<30):(lF.map nD)[0+i*1]? =some (nD (T.getD i lh).least):=by subst hT;exact yp (T:=aM) (f:=Sy.least) rfl (show i<aM.length from h)
theorem TV {T:List Sy}(hT:T=aM){i:Nat}(h:i<30):(bF.map nD)[0+i*1]? =some (nD (T.getD i lh).bits):=by subst hT;exact yp (T:=aM) (f:=Sy.bits) rfl (show i<aM.length from h)
theorem Pk (T:List Sy)(hT:T=aB)(hTl:T.length=29)(hz:bk T)(n:Nat)(hn:3<=n∧n<=258)(I:Nat)(hI:uA T n 29=I)(hIk:I<29)(hIe:(T.getD I lh).least<=n):S0 132 [nD n] [] (.tup [nD (257+I),nD (T.getD I lh).bits,nD (n-(T.getD I lh).least),iD 0]) []:=SpR Tryz.func132 rfl rfl rfl trivial rfl 1000 64 (λ R ok=>.F 9 (decide ((n:Int)<3)) ru<|.F 4 (decide (258<(n:Int))) ru<|.s 58<|Hn.inl T_ok ah false 40 0 (aq Tryz.prog 132 0) (λ(x:(i:Nat)×'(hi:i<=29)×'Unit)=>match x with|⟨i,hi,_⟩=>VZ [(0,zN n),(6,V7 0 0 0),(7,V7 8 8 0),(8,nD (uA T n i)),(9,nD i)] [⟨0,0,216,216,.b ⟨[zI 3,zI 4,zI 5,zI 6,zI 7,zI 8,zI 9,zI 10,zI 11,zI 13,zI 15,zI 17,zI 19,zI 23,zI 27,zI 31,zI 35,zI 43,zI 51,zI 59,zI 67,zI 83,zI 99,zI 115,zI 131,zI 163,zI 195,zI 227,zI 258],256,false⟩⟩,⟨8,8,224,224,.b ⟨[zI 0,zI 0,zI 0,zI 0,zI 0,zI 0,zI 0,zI 0,zI 1,zI 1,zI 1,zI 1,zI 2,zI 2,zI 2,zI 2,zI 3,zI 3,zI 3,zI 3,zI 4,zI 4,zI 4,zI 4,zI 5,zI 5,zI 5,zI 5,zI 0],256,false⟩⟩] 16) (λ(x:(i:Nat)×'(hi:i<=29)×'Unit)=>match x with|⟨i,hi,_⟩=>29-i) [⟨Unit,.exit 0,λ x=>match x with|()=>VZ [(0,zN n),(6,V7 0 0 0),(7,V7 8 8 0),(8,nD I),(9,nD 29)] [⟨0,0,216,216,.b ⟨[zI 3,zI 4,zI 5,zI 6,zI 7,zI 8,zI 9,zI 10,zI 11,zI 13,zI 15,zI 17,zI 19,zI 23,zI 27,zI 31,zI 35,zI 43,zI 51,zI 59,zI 67,zI 83,zI 99,zI 115,zI 131,zI 163,zI 195,zI 227,zI 258],256,false⟩⟩,⟨8,8,224,224,.b ⟨[zI 0,zI 0,zI 0,zI 0,zI 0,zI 0,zI 0,zI 0,zI 1,zI 1,zI 1,zI 1,zI 2,zI 2,zI 2,zI 2,zI 3,zI 3,zI 3,zI 3,zI 4,zI 4,zI 4,zI 4,zI 5,zI 5,zI 5,zI 5,zI 0],256,false⟩⟩] 16⟩] 1000 64 (fun|⟨i,hi,_⟩,Q,ZB,ZD=>.B 3 ((i:Int)<29) (λ p0 Z9=>.K 2 (true&&decide ((i:Int)<(↑29:Int))) aO<|.O 3 ((map nD lL)[0+i*1]?) (nD (Sy.least (getD T i lh))) (@Pi T hT i om)<|.B 3 ((↑(Sy.least (getD T i lh)):Int)<=(n:Int)) (λ p1 Z8=>.W 5 (i+1)<|.V 1 8 (zN i) (zN (uA T n (i+1))) (by(rw[KK om]))<|.val 9 (zI (i+1)) (zN (i+1)) D9<|Hn.next ZB ⟨(i+1),om,⟨⟩⟩ (by show 29-(i+1)<29-i;clear ZB ZD;omega) [(0,0),(8,8)] ro) (λ p1 Z8=>.W 3 (i+1)<|.V 1 8 (zN (uA T n i)) (zN (uA T n (i+1))) (by(rw[KL om]))<|.val 9 (zI (i+1)) (zN (i+1)) D9<|Hn.next ZB ⟨(i+1),om,⟨⟩⟩ (by show 29-(i+1)<29-i;clear ZB ZD;omega) [(0,0),(8,8)] ro)) (λ p0 Z9=>.val 8 (zN (uA T n i)) (zN I) (by(rw[show i=29 from by omega,hI]))<|.val 9 (zN i) (zI 29) D9<|Hn.last ZD 0 (():Unit) rfl [(0,0),(8,8)] ro)) (fun|⟨i,hi,_⟩=>by kernel_rfl) ⟨(0),om,⟨⟩⟩ [(216,216),(224,224)] ro (bM (fun|()=>.W 4 (257+(I:Int))<|.K 2 (true&&decide ((I:Int)<(↑29:Int))) vW<|.O 3 ((map nD bL)[0+I*1]?) (nD (Sy.bits (getD T I lh))) (@TU T hT I om)<|.K 3 (true&&decide ((I:Int)<(↑29:Int))) vW<|.O 3 ((map nD lL)[0+I*1]?) (nD (Sy.least (getD T I lh))) (@Pi T hT I om)<|.W 2 (n-(↑(Sy.least (getD T I lh)):Int))<|.U 4 [] [] (WL [zI (257+(I:Int)),zN (Sy.bits (getD T I lh)),zI (n-(↑(Sy.least (getD T I lh)):Int)),zI 0]) [] R (ok _ _ (by(simp_all<;>omega)) wr)))) kr
theorem TW (T:List Sy)(hT:T=aM)(hTl:T.length=30)(hz:bk T)(n:Nat)(hn:1<=n∧n<=32768)(I:Nat)(hI:uA T n 30=I)(hIk:I<30)(hIe:(T.getD I lh).least<=n):S0 133 [nD n] [] (.tup [nD (I),nD (T.getD I lh).bits,nD (n-(T.getD I lh).least),iD 0]) []:=SpR Tryz.func133 rfl rfl rfl trivial rfl 1000 64 (λ R ok=>.F 9 (decide ((n:Int)<1)) ru<|.F 4 (decide (32768<(n:Int))) ru<|.s 58<|Hn.inl T_ok ah false 39 0 (aq Tryz.prog 133 0) (λ(x:(i:Nat)×'(hi:i<=30)×'Unit)=>match x with|⟨i,hi,_⟩=>VZ [(0,zN n),(6,V7 0 0 0),(7,V7 8 8 0),(8,nD (uA T n i)),(9,nD i)] [⟨0,0,216,216,.b ⟨[zI 1,zI 2,zI 3,zI 4,zI 5,zI 7,zI 9,zI 13,zI 17,zI 25,zI 33,zI 49,zI 65,zI 97,zI 129,zI 193,zI 257,zI 385,zI 513,zI 769,zI 1025,zI 1537,zI 2049,zI 3073,zI 4097,zI 6145,zI 8193,zI 12289,zI 16385,zI 24577],177,false⟩⟩,⟨8,8,224,224,.b ⟨[zI 0,zI 0,zI 0,zI 0,zI 1,zI 1,zI 2,zI 2,zI 3,zI 3,zI 4,zI 4,zI 5,zI 5,zI 6,zI 6,zI 7,zI 7,zI 8,zI 8,zI 9,zI 9,zI 10,zI 10,zI 11,zI 11,zI 12,zI 12,zI 13,zI 13],177,false⟩⟩] 16) (λ(x:(i:Nat)×'(hi:i<=30)×'Unit)=>match x with|⟨i,hi,_⟩=>30-i) [⟨Unit,.exit 0,λ x=>match x with|()=>VZ [(0,zN n),(6,V7 0 0 0),(7,V7 8 8 0),(8,nD I),(9,nD 30)] [⟨0,0,216,216,.b ⟨[zI 1,zI 2,zI 3,zI 4,zI 5,zI 7,zI 9,zI 13,zI 17,zI 25,zI 33,zI 49,zI 65,zI 97,zI 129,zI 193,zI 257,zI 385,zI 513,zI 769,zI 1025,zI 1537,zI 2049,zI 3073,zI 4097,zI 6145,zI 8193,zI 12289,zI 16385,zI 24577],177,false⟩⟩,⟨8,8,224,224,.b ⟨[zI 0,zI 0,zI 0,zI 0,zI 1,zI 1,zI 2,zI 2,zI 3,zI 3,zI 4,zI 4,zI 5,zI 5,zI 6,zI 6,zI 7,zI 7,zI 8,zI 8,zI 9,zI 9,zI 10,zI 10,zI 11,zI 11,zI 12,zI 12,zI 13,zI 13],177,false⟩⟩] 16⟩] 1000 64 (fun|⟨i,hi,_⟩,Q,ZB,ZD=>.B 3 ((i:Int)<30) (λ p0 Z9=>.K 2 (true&&decide ((i:Int)<(↑30:Int))) aO<|.O 3 ((map nD lF)[0+i*1]?) (nD (Sy.least (getD T i lh))) (@Pj T hT i om)<|.B 3 ((↑(Sy.least (getD T i lh)):Int)<=(n:Int)) (λ p1 Z8=>.W 5 (i+1)<|.V 1 8 (zN i) (zN (uA T n (i+1))) (by(rw[KK om]))<|.val 9 (zI (i+1)) (zN (i+1)) D9<|Hn.next ZB ⟨(i+1),om,⟨⟩⟩ (by show 30-(i+1)<30-i;clear ZB ZD;omega) [(0,0),(8,8)] ro) (λ p1 Z8=>.W 3 (i+1)<|.V 1 8 (zN (uA T n i)) (zN (uA T n (i+1))) (by(rw[KL om]))<|.val 9 (zI (i+1)) (zN (i+1)) D9<|Hn.next ZB ⟨(i+1),om,⟨⟩⟩ (by show 30-(i+1)<30-i;clear ZB ZD;omega) [(0,0),(8,8)] ro)) (λ p0 Z9=>.val 8 (zN (uA T n i)) (zN I) (by(rw[show i=30 from by omega,hI]))<|.val 9 (zN i) (zI 30) D9<|Hn.last ZD 0 (():Unit) rfl [(0,0),(8,8)] ro)) (fun|⟨i,hi,_⟩=>by kernel_rfl) ⟨(0),om,⟨⟩⟩ [(216,216),(224,224)] ro (bM (fun|()=>.K 4 (true&&decide ((I:Int)<(↑30:Int))) vW<|.O 3 ((map nD bF)[0+I*1]?) (nD (Sy.bits (getD T I lh))) (@TV T hT I om)<|.K 3 (true&&decide ((I:Int)<(↑30:Int))) vW<|.O 3 ((map nD lF)[0+I*1]?) (nD (Sy.least (getD T I lh))) (@Pj T hT I om)<|.W 2 (n-(↑(Sy.least (getD T I lh)):Int))<|.U 4 [] [] (WL [zN I,zN (Sy.bits (getD T I lh)),zI (n-(↑(Sy.least (getD T I lh)):Int)),zI 0]) [] R (ok _ _ (by(simp_all<;>omega)) wr)))) kr
theorem CH {p:Prop}(h:p:=by(have h7:=XK v (2^i);rw[Vu _ om,TX rfl])):p:=h
theorem CI {p:Prop}(h:p:=by show n-(i+1)<n-i;clear ZB ZD;omega):p:=h
theorem FU {p:Prop}(h:p:=by(rw[show i=n from by omega])):p:=h
theorem FV {p:Prop}(h:p:=by(refine decide_eq_true ?_;have h9:=ac (aX l v i);have h8:=bc l v i;have h7:=XK v (2^i);omega)):p:=h
theorem FW {p:Prop}(h:p:=by(have h6:=ac (aX l v (i+1));have h5:=bc l v (i+1);have h9:=ac (aX l v i);have h8:=bc l v i;refine RN ?_ ?_<;>omega)):p:=h
theorem KN {p:Prop}(h:p:=by(simp;have h9:=ac (aX l v i);have h8:=bc l v i;have h7:=XK v (2^i);omega)):p:=h
theorem Pl {p:Prop}(h:p:=by(have h9:=ac (aX l v i);have h8:=bc l v i;have h7:=XK v (2^i);omega)):p:=h
theorem Pm {v i x:Nat}(h:x=v/2^i):2*dG v i+x%2=dG v (i+1):=by
 subst h;rw[dG,XF];have:=Nat.mod_lt (v/2^i) (show 0<2 by decide)
 by_cases q:v/2^i%2=1
 ·rw[q];rfl
 ·rw[show v/2^i%2=0 from by omega];rfl
theorem TX {v i x:Nat}(h:x=v/2^i):x/2=v/2^(i+1):=by subst h;rw[Nat.div_div_eq_div_mul,Xj]
theorem Iu (v:Nat){i n:Nat}(hi:i<=n)(hn:n<=32):dG v i<4294967296:=Wp (od v i) (WF (n:=2) (by decide) (show i<=32 by omega))
theorem TY (x:Nat):((x:Nat):Int).tmod 2=((x%2:Nat):Int):=rfl
theorem Vu (x:Nat)(h:x<4294967296):IntKind.u32.wrap (((x:Nat):Int).tdiv 2)=((x/2:Nat):Int):=by
 rw[show((x:Nat):Int).tdiv 2=((x/2:Nat):Int)from rfl];show((x/2:Nat):Int)%4294967296=_;omega
theorem FX (v n:Nat)(hn:n<=32)(hv:v<4294967296):S0 165 [uD v,nD n] [] (uD (dG v n)) []:=SpR Tryz.func165 rfl rfl rfl trivial rfl 1000 64 (λ R ok=>.V 3 0 (ai v) (ai (v/1)) D9<|Hn.inl T_ok ah false 20 0 (aq Tryz.prog 165 0) (λ(x:(i:Nat)×'(hi:i<=n)×'Unit)=>match x with|⟨i,hi,_⟩=>VZ [(0,uD (v/2^i)),(1,zN n),(5,uD (dG v i)),(6,nD i)] [] 0) (λ(x:(i:Nat)×'(hi:i<=n)×'Unit)=>match x with|⟨i,hi,_⟩=>n-i) [⟨Unit,.exit 0,λ x=>match x with|()=>VZ [(1,zN n),(5,uD (dG v n)),(6,nD n)] [] 0⟩] 1000 64 (fun|⟨i,hi,_⟩,Q,ZB,ZD=>.B 4 ((i:Int)<n) (λ p0 Z9=>.O 3 (ay .u32 (2*(↑(dG v i):Int))) (uI (2*(↑(dG v i):Int))) (aA (by(have h9:=Iu v (i:=i+1) (n:=n) om hn;have h8:=Pm (v:=v) (i:=i) (x:=v/2^i) rfl;have h7:=XK v (2^i);omega)))<|.O 3 (aV Wn (WW (↑(v/2^i):Int) 2)) (uI (WW (↑(v/2^i):Int) 2)) (cb _ _)<|.O 2 (ay .u32 (2*(↑(dG v i):Int)+WW (↑(v/2^i):Int) 2)) (uI ((2*(↑(dG v i):Int)+WW (↑(v/2^i):Int) 2)%4294967296)) (aE _ _)<|.O 4 (aV Wn (VU Wn (WZ (↑(v/2^i):Int) 2))) (uI (VU Wn (WZ (↑(v/2^i):Int) 2))) (cb _ _)<|.W 4 (i+1)<|.V 1 0 (uI (VU Wn (WZ (↑(v/2^i):Int) 2))) (ai (v/2^(i+1))) CH<|.val 5 (uI ((2*(↑(dG v i):Int)+WW (↑(v/2^i):Int) 2)%4294967296)) (ai (dG v (i+1))) (by(have h9:=Iu v (i:=i+1) (n:=n) om hn;have h8:=Pm (v:=v) (i:=i) (x:=v/2^i) rfl;rw[TY];refine congrArg (λ z=>D.v (.int .u32 z)) ?_;omega))<|.val 6 (zI (i+1)) (zN (i+1)) D9<|Hn.next ZB ⟨(i+1),om,⟨⟩⟩ CI [] ro) (λ p0 Z9=>.val 5 (ai (dG v i)) (ai (dG v n)) FU<|.val 6 (zN i) (zN n) FU<|Hn.last ZD 0 (():Unit) rfl [] ro)) (fun|⟨i,hi,_⟩=>by kernel_rfl) ⟨(0),om,⟨⟩⟩ [] ro (bM (fun|()=>.Y 2 [] [] (ai (dG v n)) [] ok))) kr
theorem Iv (l:List Bool)(m:Nat)(hm:m=(pk l).length)(hl:l.length<=10000000):S0 31 [m5 m l] [] (.agg [.ref 0 0 0 m 1,nD l.length]) [⟨(pk l).map dB, 5,true⟩]:=SpR Tryz.func31 rfl rfl rfl ⟨aI _,trivial⟩ rfl 1000 64 (λ R ok=>.K 12 (true&&VN ((0+m)*1) 140737488355328) (by((refine aC ?_ ?_)<;>(repeat' (first|(refine aC ?_ ?_)|(with_reducible rfl)|(refine decide_eq_true ?_)|(refine VL ?_)|(refine dA ?_)))<;>(have h9:=ac l;omega)))<|.Y 14 [32] [32] (Wu [VJ 0 0 0 m 1,zN (length l)]) [VF (map dB (pk l)) 5 true] ok) kr
theorem Pn {X:Z4}{d:D}{x:Int}(hk:x=((X.length:Nat):Int)):(X.map dB++[d])[0+x.toNat*1]? =some d:=by
 subst hk;rw[XB,V5,Wd,We (by rw[VP];exact VT _),VP,W5];rfl
theorem CJ {l:List Bool}{v i:Nat}(h:(l.length+i)%8=0):pk (aX l v (i+1))=pk (aX l v i)++[WI (v.testBit i).toNat]:=by
 rw[<-xl,(Bi (by rw[bc];exact h)).2]
theorem CK {l:List Bool}{v i:Nat}(h:(l.length+i)%8≠0):pk (aX l v (i+1))=(pk (aX l v i)).set ((l.length+i)/8) (WI (((pk (aX l v i)).getD ((l.length+i)/8) lh).toNat+2^((l.length+i)%8)*(v.testBit i).toNat)):=by
 rw[<-xl,(Hu (by rw[bc];exact h)).2,bc]
theorem Po {v i:Nat}(h:(((v/2^i:Nat):Int)).tmod 2=1):v.testBit i=true:=by
 rw[TY]at h;rw[XF];exact decide_eq_true om
theorem Pp {v i:Nat}(h:(((v/2^i:Nat):Int)).tmod 2≠1):v.testBit i=false:=by
 rw[TY]at h;rw[XF];exact decide_eq_false om
theorem RN {k g n n':Nat}{x:Int}{y:Nat}{t:TypeId}(h2:n=n')(h3:x=((y:Nat):Int)):(⟨[VJ k g 0 n 1,D.v (.int .i64 x)],t,false⟩:Blk)=⟨[VJ k g 0 n' 1,D.v (.int .i64 ((y:Nat):Int))],t,false⟩:=by subst h2 h3;rfl
theorem FY (k:Nat):dJ k=2^k:=by
 induction k with
 |zero=>rfl
 |succ k ih=>rw[dJ,ih,Xj];omega
theorem FZ {X:Z4}{d:D}{y:UInt8}{k:Nat}{z:Int}(hk:k=X.length)(hz:z=((y.toNat:Nat):Int)):ag (X.map dB++[d]) k [D.v (.int .u8 z)]=(X++[y]).map dB:=by
 subst hk hz;apply WD;intro i;rw[cv (by simp),Wz]
 by_cases h:i=X.length
 ·subst h
  rw[ZF (by simp),We (by simp),VP,W5];rfl
 ·rw[ZE (by simp only[Wv];omega)]
  rcases Wl i X.length with q|q
  ·rw[Wi (by simpa using q),Wi (by simpa using q)]
  ·rw[Wh (by simp;omega),Wh (by simp;omega)]
theorem KO {X:Z4}{y:UInt8}{k j:Nat}{z:Int}(hk:k=j)(hj:j<X.length)(hz:z=((y.toNat:Nat):Int)):ag (X.map dB) k [D.v (.int .u8 z)]=(X.set j y).map dB:=by
 subst hk hz;apply WD;intro i;rw[cv (by simp;omega),List.map_set,W7,VP]
 by_cases h:k=i
 ·subst h
  rw[ZF (by simp),ZF rfl,ZF hj,W5];rfl
 ·rw[ZE (by simp only[Wv];omega),ZE h]
theorem Pq {l:List Bool}{v i k:Nat}{z:Int}{d:D}(h:(l.length+i)%8=0)(hb:v.testBit i=true)(hk:k=(l.length+i)/8)(hz:z=1):ag ((pk (aX l v i)).map dB++[d]) k [D.v (.int .u8 z)]=(pk (aX l v (i+1))).map dB:=by
 rw[CJ h,hb];exact FZ (by rw[ac,bc];omega) (by rw[hz];rfl)
theorem Pr {l:List Bool}{v i:Nat}(h:(l.length+i)%8=0)(hb:v.testBit i=false):(pk (aX l v i)).map dB++[D.v (.int .u8 0)]=(pk (aX l v (i+1))).map dB:=by
 rw[CJ h,hb,Wz];rfl
theorem Ps {l:List Bool}{v i k:Nat}{z:Int}(h:(l.length+i)%8≠0)(hb:v.testBit i=true)(hk:k=(l.length+i)/8)(hz:z=((((pk (aX l v i)).getD k lh).toNat:Nat)+((dJ ((l.length+i)%8):Nat):Int)%256)%256):ag ((pk (aX l v i)).map dB) k [D.v (.int .u8 z)]=(pk (aX l v (i+1))).map dB:=by
 rw[CK h,hb];refine KO hk (by rw[ac,bc];omega) ?_;rw[hz,hk,FY];show _=(((WI (_+2^((l.length+i)%8)*1)).toNat:Nat):Int);rw[UInt8.toNat_ofNat',V5];show _=(((_+2^((l.length+i)%8))%256:Nat):Int);omega
theorem Pt {l:List Bool}{v i:Nat}(h:(l.length+i)%8≠0)(hb:v.testBit i=false):pk (aX l v i)=pk (aX l v (i+1)):=by
 rw[CK h,hb];show _=(pk (aX l v i)).set _ (WI (_+2^_*0));have hl:(l.length+i)/8<(pk (aX l v i)).length:=by rw[ac,bc];omega
 rw[Nat.mul_zero,Xw,UInt8.ofNat_toNat,VH,VG hl];exact(List.set_getElem_self hl).symm
theorem Iw (k:Nat):S0 129 [iD ((k:Int)%8)] [] (.v (.int .u64 ((dJ (k%8):Nat):Int))) []:=by
 have h:=SV (k%8) om
 rwa [show nD (k%8)=iD ((k:Int)%8)from congrArg (λ z=>D.v (.int .i64 z)) om]at h
theorem Pu (l:List Bool)(m:Nat)(hm:m=(pk l).length)(hl:l.length<=10000000)(v n:Nat)(hn:n<=32)(hv:v<4294967296):S0 98 [m5 m l,uD v,nD n] [] (.agg [.ref 0 0 0 (pk (aX l v n)).length 1,nD (l.length+n)]) [⟨(pk (aX l v n)).map dB, 5,true⟩]:=SpR Tryz.func98 rfl rfl rfl ⟨aI _,trivial⟩ rfl 1000 64 (λ R ok=>.C 9 31 false [] (.fn Sc (@Iv (l) (m) om om))<|.V 6 1 (ai v) (ai (v/1)) D9<|.blk 24 24 (VF (map dB (pk l)) 5 true) (VF (map dB (pk (aX l v 0))) 5 true) (by(rw[xk]))<|.blk 32 32 (VF [VJ 24 24 0 m 1,zN (length l)] 26 false) (VF [VJ 24 24 0 (length (pk (aX l v 0))) 1,zN (length l+0)] 26 false) (by(refine RN ?_ rfl;rw[xk,hm]))<|Hn.inl T_ok ah false 54 0 (aq Tryz.prog 98 0) (λ(x:(i:Nat)×'(hi:i<=n)×'Unit)=>match x with|⟨i,hi,_⟩=>VZ [(1,uD (v/2^i)),(2,zN n),(6,V7 0 0 0),(7,V7 16 16 0),(8,nD i)] [⟨0,0,8,8,.b ⟨[zS,zI 0],26,false⟩⟩,⟨8,8,24,24,.b ⟨(pk (aX l v i)).map dB,5,true⟩⟩,⟨16,16,32,32,.b ⟨[(VJ 8 8 (0) ((pk (aX l v i)).length) 1),nD (l.length+i)],26,false⟩⟩] 24) (λ(x:(i:Nat)×'(hi:i<=n)×'Unit)=>match x with|⟨i,hi,_⟩=>n-i) [⟨Unit,.exit 0,λ x=>match x with|()=>VZ [(2,zN n),(6,V7 0 0 0),(7,V7 16 16 0)] [⟨0,0,8,8,.b ⟨[zS,zI 0],26,false⟩⟩,⟨8,8,24,24,.b ⟨(pk (aX l v n)).map dB,5,true⟩⟩,⟨16,16,32,32,.b ⟨[(VJ 8 8 (0) ((pk (aX l v n)).length) 1),nD (l.length+n)],26,false⟩⟩] 24⟩] 1000 64 (fun|⟨i,hi,_⟩,Q,ZB,ZD=>.B 4 ((i:Int)<n) (λ p0 Z9=>.O 8 (aV VV (WW (↑(length l+i):Int) 8)) (zI ((↑(length l+i):Int)%8)) (au (@bw  ((↑(length l+i):Int)) (8) om))<|.R 2 ((↑(length l+i):Int)%8==0) (λ p1=>have Z8:=eq_of_beq p1;.K 9 (true&&VK (length (pk (aX l v i))*1) (length (map dB (pk (aX l v i))))&&true&&true&&true&&true&&VN ((length (pk (aX l v i))+1)*1) 140737488355328) KN<|.O 9 (aV Wn (WW (↑(v/2^i):Int) 2)) (uI (WW (↑(v/2^i):Int) 2)) (cb _ _)<|.R 2 (WW (↑(v/2^i):Int) 2==1) (λ p2=>have Z7:=eq_of_beq p2;.O 15 (aV VV (VU VV (WZ (↑(length l+i):Int) 8))) (zI ((↑(length l+i):Int)/8)) (au (@aN  ((↑(length l+i):Int)) (8) om om))<|.O 14 (aV VV (VU VV (WZ (↑(length l+i):Int) 8))) (zI ((↑(length l+i):Int)/8)) (au (@aN  ((↑(length l+i):Int)) (8) om om))<|.K 1 (true&&decide ((↑(length l+i):Int)/8<(↑(length (pk (aX l v i))+1):Int))) FV<|.O 2 ((map dB (pk (aX l v i))++[bI 0])[0+zq ((↑(length l+i):Int)/8)*1]?) (bI 0) (@Pn (pk (aX l v i)) (bI 0) ((↑(length l+i):Int)/8) Pl)<|.O 8 (aV VV (WW (↑(length l+i):Int) 8)) (zI ((↑(length l+i):Int)%8)) (au (@bw  ((↑(length l+i):Int)) (8) om))<|.C 1 129 false [] (.fn M9 (@Iw (length l+i)))<|.O 1 (ay .u8 (↑(dJ ((length l+i)%8)):Int)) (bI ((↑(dJ ((length l+i)%8)):Int)%256)) (aE _ _)<|.O 2 (ay .u8 (0+(↑(dJ ((length l+i)%8)):Int)%256)) (bI (0+(↑(dJ ((length l+i)%8)):Int)%256)) (gI om)<|.K 1 (true&&decide ((↑(length l+i):Int)/8<(↑(length (pk (aX l v i))+1):Int))) FV<|.K 1 (true&&VN (0+zq ((↑(length l+i):Int)/8)*1+1) (length (map dB (pk (aX l v i))++[bI 0]))) KN<|.lst (ag (map dB (pk (aX l v i))++[bI 0]) (0+zq ((↑(length l+i):Int)/8)*1) [bI (0+(↑(dJ ((length l+i)%8)):Int)%256)]) (ag (map dB (pk (aX l v i))++[bI 0]) (zq ((↑(length l+i):Int)/8)) [bI (0+(↑(dJ ((length l+i)%8)):Int)%256)]) (by(simp;done))<|.O 3 (aV Wn (VU Wn (WZ (↑(v/2^i):Int) 2))) (uI (VU Wn (WZ (↑(v/2^i):Int) 2))) (cb _ _)<|.W 9 ((↑(length l+i):Int)+1)<|.W 9 (i+1)<|.V 1 1 (uI (VU Wn (WZ (↑(v/2^i):Int) 2))) (ai (v/2^(i+1))) CH<|.val 8 (zI (i+1)) (zN (i+1)) D9<|.blk 16 16 (VF [VJ 104 104 0 (length (pk (aX l v i))+1) 1,zI ((↑(length l+i):Int)+1)] 26 false) (VF [VJ 104 104 0 (length (pk (aX l v (i+1)))) 1,zN (length l+(i+1))] 26 false) FW<|.blk 104 104 (VF (ag (map dB (pk (aX l v i))++[bI 0]) (zq ((↑(length l+i):Int)/8)) [bI (0+(↑(dJ ((length l+i)%8)):Int)%256)]) 5 true) (VF (map dB (pk (aX l v (i+1)))) 5 true) (by((try simp only[show aaK 8=8 from rfl]at *);refine aw (Pq om (Po aO) om ?_);rw[show(l.length+i)%8=0 from by omega];rfl))<|Hn.next ZB ⟨(i+1),om,⟨⟩⟩ CI [(0,0),(104,104),(16,16)] ro) (λ p2=>have Z7:=ap p2;.O 3 (aV Wn (VU Wn (WZ (↑(v/2^i):Int) 2))) (uI (VU Wn (WZ (↑(v/2^i):Int) 2))) (cb _ _)<|.W 9 ((↑(length l+i):Int)+1)<|.W 9 (i+1)<|.V 1 1 (uI (VU Wn (WZ (↑(v/2^i):Int) 2))) (ai (v/2^(i+1))) CH<|.val 8 (zI (i+1)) (zN (i+1)) D9<|.blk 16 16 (VF [VJ 104 104 0 (length (pk (aX l v i))+1) 1,zI ((↑(length l+i):Int)+1)] 26 false) (VF [VJ 104 104 0 (length (pk (aX l v (i+1)))) 1,zN (length l+(i+1))] 26 false) FW<|.blk 104 104 (VF (map dB (pk (aX l v i))++[bI 0]) 5 true) (VF (map dB (pk (aX l v (i+1)))) 5 true) (by((try simp only[show aaK 8=8 from rfl]at *);refine aw (Pr om (Pp aO))))<|Hn.next ZB ⟨(i+1),om,⟨⟩⟩ CI [(0,0),(104,104),(16,16)] ro)) (λ p1=>have Z8:=ap p1;.O 3 (aV Wn (WW (↑(v/2^i):Int) 2)) (uI (WW (↑(v/2^i):Int) 2)) (cb _ _)<|.R 2 (WW (↑(v/2^i):Int) 2==1) (λ p3=>have Z6:=eq_of_beq p3;.O 15 (aV VV (VU VV (WZ (↑(length l+i):Int) 8))) (zI ((↑(length l+i):Int)/8)) (au (@aN  ((↑(length l+i):Int)) (8) om om))<|.O 14 (aV VV (VU VV (WZ (↑(length l+i):Int) 8))) (zI ((↑(length l+i):Int)/8)) (au (@aN  ((↑(length l+i):Int)) (8) om om))<|.K 1 (true&&decide ((↑(length l+i):Int)/8<(↑(length (pk (aX l v i))):Int))) FV<|.O 2 ((map dB (pk (aX l v i)))[0+zq ((↑(length l+i):Int)/8)*1]?) (dB (getD (pk (aX l v i)) (0+zq ((↑(length l+i):Int)/8)*1) lh)) (am _ _ Pl)<|.O 8 (aV VV (WW (↑(length l+i):Int) 8)) (zI ((↑(length l+i):Int)%8)) (au (@bw  ((↑(length l+i):Int)) (8) om))<|.C 1 129 false [] (.fn M9 (@Iw (length l+i)))<|.O 1 (ay .u8 (↑(dJ ((length l+i)%8)):Int)) (bI ((↑(dJ ((length l+i)%8)):Int)%256)) (aE _ _)<|.O 2 (ay .u8 ((↑(VE (getD (pk (aX l v i)) (0+zq ((↑(length l+i):Int)/8)*1) lh)):Int)+(↑(dJ ((length l+i)%8)):Int)%256)) (bI (((↑(VE (getD (pk (aX l v i)) (0+zq ((↑(length l+i):Int)/8)*1) lh)):Int)+(↑(dJ ((length l+i)%8)):Int)%256)%256)) (aE _ _)<|.K 1 (true&&decide ((↑(length l+i):Int)/8<(↑(length (pk (aX l v i))):Int))) FV<|.K 1 (true&&VN (0+zq ((↑(length l+i):Int)/8)*1+1) (length (map dB (pk (aX l v i))))) KN<|.lst (ag (map dB (pk (aX l v i))) (0+zq ((↑(length l+i):Int)/8)*1) [bI (((↑(VE (getD (pk (aX l v i)) (0+zq ((↑(length l+i):Int)/8)*1) lh)):Int)+(↑(dJ ((length l+i)%8)):Int)%256)%256)]) (ag (map dB (pk (aX l v i))) (zq ((↑(length l+i):Int)/8)) [bI (((↑(VE (getD (pk (aX l v i)) (zq ((↑(length l+i):Int)/8)) lh)):Int)+(↑(dJ ((length l+i)%8)):Int)%256)%256)]) (by(simp;done))<|.O 3 (aV Wn (VU Wn (WZ (↑(v/2^i):Int) 2))) (uI (VU Wn (WZ (↑(v/2^i):Int) 2))) (cb _ _)<|.W 9 ((↑(length l+i):Int)+1)<|.W 9 (i+1)<|.V 1 1 (uI (VU Wn (WZ (↑(v/2^i):Int) 2))) (ai (v/2^(i+1))) CH<|.val 8 (zI (i+1)) (zN (i+1)) D9<|.blk 16 16 (VF [VJ 8 8 0 (length (pk (aX l v i))) 1,zI ((↑(length l+i):Int)+1)] 26 false) (VF [VJ 8 8 0 (length (pk (aX l v (i+1)))) 1,zN (length l+(i+1))] 26 false) FW<|.blk 8 8 (VF (ag (map dB (pk (aX l v i))) (zq ((↑(length l+i):Int)/8)) [bI (((↑(VE (getD (pk (aX l v i)) (zq ((↑(length l+i):Int)/8)) lh)):Int)+(↑(dJ ((length l+i)%8)):Int)%256)%256)]) 5 true) (VF (map dB (pk (aX l v (i+1)))) 5 true) (by((try simp only[show aaK 8=8 from rfl]at *);refine aw (Ps om (Po aO) om rfl)))<|Hn.next ZB ⟨(i+1),om,⟨⟩⟩ CI [(0,0),(8,8),(16,16)] ro) (λ p3=>have Z6:=ap p3;.O 3 (aV Wn (VU Wn (WZ (↑(v/2^i):Int) 2))) (uI (VU Wn (WZ (↑(v/2^i):Int) 2))) (cb _ _)<|.W 9 ((↑(length l+i):Int)+1)<|.W 9 (i+1)<|.V 1 1 (uI (VU Wn (WZ (↑(v/2^i):Int) 2))) (ai (v/2^(i+1))) CH<|.val 8 (zI (i+1)) (zN (i+1)) D9<|.blk 16 16 (VF [VJ 8 8 0 (length (pk (aX l v i))) 1,zI ((↑(length l+i):Int)+1)] 26 false) (VF [VJ 8 8 0 (length (pk (aX l v (i+1)))) 1,zN (length l+(i+1))] 26 false) FW<|.blk 8 8 (VF (map dB (pk (aX l v i))) 5 true) (VF (map dB (pk (aX l v (i+1)))) 5 true) (by((try simp only[show aaK 8=8 from rfl]at *);refine aw (congrArg (map dB) (Pt om (Pp aO)))))<|Hn.next ZB ⟨(i+1),om,⟨⟩⟩ CI [(0,0),(8,8),(16,16)] ro))) (λ p0 Z9=>.blk 16 16 (VF [VJ 8 8 0 (length (pk (aX l v i))) 1,zN (length l+i)] 26 false) (VF [VJ 8 8 0 (length (pk (aX l v n))) 1,zN (length l+n)] 26 false) FU<|.blk 8 8 (VF (map dB (pk (aX l v i))) 5 true) (VF (map dB (pk (aX l v n))) 5 true) FU<|Hn.last ZD 0 (():Unit) rfl [(0,0),(8,8),(16,16)] ro)) (fun|⟨i,hi,_⟩=>by kernel_rfl) ⟨(0),om,⟨⟩⟩ [(8,8),(24,24),(32,32)] ro (bM (fun|()=>.Y 10 [8] [8] (Wu [VJ 0 0 0 (length (pk (aX l v n))) 1,zN (length l+n)]) [VF (map dB (pk (aX l v n))) 5 true] ok))) kr
theorem wi {p:Prop}(h:p:=by(have h9:=hl i;have h5:=WB (l.getD i lh).lit;have h6:=hin i om;have h2:=bg hT1 hT2 (hl i);have h8:=gy (l.getD i lh).lit.toNat;have h4:=gy (257+ak T1 (l.getD i lh).long);have h3:=w5 (ak T2 (l.getD i lh).dist);have g1:=hz1 (ak T1 (l.getD i lh).long);have g2:=hz2 (ak T2 (l.getD i lh).dist);have g3:=gy 256;have h7:=ja (T1:=T1) (T2:=T2) (A:=ab A) (B:=ab B) (l:=l) i om;unfold ci at h9;omega)):p:=h
theorem zZ {p:Prop}(h:p:=by(have h9:=hl i;have h5:=WB (l.getD i lh).lit;have h6:=hin i om;have h2:=bg hT1 hT2 (hl i);have h8:=gy (l.getD i lh).lit.toNat;have h4:=gy (257+ak T1 (l.getD i lh).long);have h3:=w5 (ak T2 (l.getD i lh).dist);have g1:=hz1 (ak T1 (l.getD i lh).long);have g2:=hz2 (ak T2 (l.getD i lh).dist);have g3:=gy 256;have h7:=ja (T1:=T1) (T2:=T2) (A:=ab A) (B:=ab B) (l:=l) i om;unfold ci at h9;simp only[yr,WK,V8,Wf,VO,Xa,WT];omega)):p:=h
theorem KP {p:Prop}(h:p:=by(refine decide_eq_true ?_;have h9:=hl i;have h5:=WB (l.getD i lh).lit;have h6:=hin i om;have h2:=bg hT1 hT2 (hl i);have h8:=gy (l.getD i lh).lit.toNat;have h4:=gy (257+ak T1 (l.getD i lh).long);have h3:=w5 (ak T2 (l.getD i lh).dist);have g1:=hz1 (ak T1 (l.getD i lh).long);have g2:=hz2 (ak T2 (l.getD i lh).dist);have g3:=gy 256;have h7:=ja (T1:=T1) (T2:=T2) (A:=ab A) (B:=ab B) (l:=l) i om;unfold ci at h9;omega)):p:=h
theorem KQ {p:Prop}(h:p:=by(rw[r7];refine VL ?_;have h9:=hl i;have h5:=WB (l.getD i lh).lit;have h6:=hin i om;have h2:=bg hT1 hT2 (hl i);have h8:=gy (l.getD i lh).lit.toNat;have h4:=gy (257+ak T1 (l.getD i lh).long);have h3:=w5 (ak T2 (l.getD i lh).dist);have g1:=hz1 (ak T1 (l.getD i lh).long);have g2:=hz2 (ak T2 (l.getD i lh).dist);have g3:=gy 256;have h7:=ja (T1:=T1) (T2:=T2) (A:=ab A) (B:=ab B) (l:=l) i om;unfold ci at h9;omega)):p:=h
theorem yq (T:List Sy)(hT:T=aB)(hTl:T.length=29)(hz:bk T)(n:Nat)(hn:3<=n∧n<=258):S0 132 [nD n] [] (.tup [nD (257+ak T n),nD (T.getD (ak T n) lh).bits,nD (n-(T.getD (ak T n) lh).least),iD 0]) []:=by
 have h1:=tT hT hn;have q:=tG (T:=T) (n:=n) T.length 0 (by rw[<-fM];omega);rw[<-fM]at q;exact Pk T hT hTl hz n hn _ (by subst hT;exact CG FT (by rw[hTl];exact h1) 29 h1 (by rw[hTl];exact VT _)) h1 q.1
theorem CL (T:List Sy)(hT:T=aM)(hTl:T.length=30)(hz:bk T)(n:Nat)(hn:1<=n∧n<=32768):S0 133 [nD n] [] (.tup [nD (ak T n),nD (T.getD (ak T n) lh).bits,nD (n-(T.getD (ak T n) lh).least),iD 0]) []:=by
 have h1:=xq hT hn;have q:=tG (T:=T) (n:=n) T.length 0 (by rw[<-fM];omega);rw[<-fM]at q;exact TW T hT hTl hz n hn _ (by subst hT;exact CG KM (by rw[hTl];exact h1) 30 h1 (by rw[hTl];exact VT _)) h1 q.1
def uB (C:List (Nat×Nat))(s:Nat):Nm:=⟨dG (C.getD s lh).1 (C.getD s lh).2,(C.getD s lh).2⟩
def Aq (T1 T2:List Sy)(A B:List (Nat×Nat))(t:Tn):List Nm:=
 if t.long=0 then[uB A t.lit.toNat]
 else[uB A (257+ak T1 t.long),⟨t.long-(T1.getD (ak T1 t.long) lh).least,(T1.getD (ak T1 t.long) lh).bits⟩,uB B (ak T2 t.dist),⟨t.dist-(T2.getD (ak T2 t.dist) lh).least,(T2.getD (ak T2 t.dist) lh).bits⟩]
def fC (T1 T2:List Sy)(A B:List (Nat×Nat))(l:List Tn)(i:Nat):List Nm:=lk l ((l.take i).flatMap (Aq T1 T2 A B))
section
variable {T1 T2:List Sy} {A B:List (Nat×Nat)} {l:List Tn} {i:Nat}
theorem oQ:fC T1 T2 A B l i=(l.take i).flatMap (Aq T1 T2 A B):=aP _ _
theorem CM:fC T1 T2 A B l 0=[]:=by rw[oQ];rfl
theorem CN (h:i<l.length):fC T1 T2 A B l (i+1)=fC T1 T2 A B l i++Aq T1 T2 A B (l.getD i lh):=by
 have e1:l.take (i+1)=l.take i++[l.getD i lh]:=by
  rw[Wo h,VH,VG h];rfl
 rw[oQ,oQ,e1,WH,Yc]
theorem F0 (t:Tn):(Aq T1 T2 A B t).length<=4:=by
 unfold Aq;split
 ·show 1<=4;decide
 ·show 4<=4;decide
theorem ja:∀i,i<=l.length->(fC T1 T2 A B l i).length<=4*i
 |0,_=>by rw[CM];exact VT _
 |i+1,h=>by
  rw[CN om,VI];have:=ja i om;have:=F0 (T1:=T1) (T2:=T2) (A:=A) (B:=B) (l.getD i lh);omega
theorem CP (h:i<l.length)(h0:(l.getD i lh).long=0):fC T1 T2 A B l (i+1)=fC T1 T2 A B l i++[uB A (l.getD i lh).lit.toNat]:=by
 rw[CN h,Aq,ZF h0]
theorem CQ (h:i<l.length)(h0:(l.getD i lh).long≠0):fC T1 T2 A B l (i+1)=fC T1 T2 A B l i++[uB A (257+ak T1 (l.getD i lh).long),⟨(l.getD i lh).long-(T1.getD (ak T1 (l.getD i lh).long) lh).least,(T1.getD (ak T1 (l.getD i lh).long) lh).bits⟩,uB B (ak T2 (l.getD i lh).dist),⟨(l.getD i lh).dist-(T2.getD (ak T2 (l.getD i lh).dist) lh).least,(T2.getD (ak T2 (l.getD i lh).dist) lh).bits⟩]:=by
 rw[CN h,Aq,ZE h0]
end
theorem r7 (l:List (Nat×Nat)):(l.flatMap dO).length=l.length*2:=bj (k:=2) (λ _=>rfl) l
theorem yr (l:List Nm):(l.flatMap aD).length=l.length*2:=bj (k:=2) (λ _=>rfl) l
theorem uC (c:Nat×Nat)(h:c.2<=15)(h2:c.1<2^c.2):S0 131 [.agg [cR c.1,dY c.2]] [] (.agg [cR (dG c.1 c.2),nD c.2]) []:=by
 have h9:c.1<4294967296:=Wp h2 (WF (n:=2) (by decide) (show c.2<=32 by omega));refine SpR Tryz.func131 rfl rfl rfl trivial rfl 1000 64 (λ R ok=>.W 18 (↑(VM c):Int)<|.C 1 165 false [] (.fn Ss (@FX (V2 c) (VM c) om om))<|.W 7 (↑(VM c):Int)<|.U 8 [] [] (Wu [ai (dG (V2 c) (VM c)),zN (VM c)]) [] R (ok _ _ (by exact rfl) wr)) kr
theorem TZ (l:List Tn)(k:Nat)(hk:k=l.length)(hk2:k<=65535)(hl:∀i,ci (l.getD i lh))(T1 T2:List Sy)(hT1:T1=aB)(hT2:T2=aM)(hl1:T1.length=29)(hl2:T2.length=30)(hz1:bk T1)(hz2:bk T2)(A B:Z4)(n1 n2:Nat)(hA:n1=A.length)(hB:n2=B.length)(hn1:n1<=320)(hn2:n2<=320)(hmA:(ab A).length=n1)(hmB:(ab B).length=n2)(gy:jZ (ab A))(w5:jZ (ab B))(hin:∀i,i<k->((l.getD i lh).long=0->(l.getD i lh).lit.toNat<n1)∧((l.getD i lh).long≠0->257+ak T1 (l.getD i lh).long<n1∧ak T2 (l.getD i lh).dist<n2))(h256:256<n1):S0 99 [.sl false k 3 (l.flatMap bb),.sl false n1 1 (A.map dB),.sl false n2 1 (B.map dB)] [] (.ref 0 0 0 ((fC T1 T2 (ab A) (ab B) l k)++[uB (ab A) 256]).length 2) [⟨((fC T1 T2 (ab A) (ab B) l k)++[uB (ab A) 256]).flatMap aD, 169,true⟩]:=SpR Tryz.func99 rfl rfl rfl ⟨dn (λ _=>rfl) _,trivial⟩ rfl 1000 64 (λ R ok=>.C 3 130 false [] (.fn Na (@Bt (A) (n1) om om))<|.C 3 130 false [] (.fn Na (@Bt (B) (n2) om om))<|.s 3<|.nils 9 72 2 169<|.val 9 (VJ 72 72 0 0 2) (VJ 72 72 0 (length (fC T1 T2 (ab A) (ab B) l 0)) 2) (by(rw[CM];rfl))<|.blk 72 72 (VF [] 169 true) (VF (flatMap aD (fC T1 T2 (ab A) (ab B) l 0)) 169 true) (by(rw[CM];rfl))<|Hn.inl T_ok ah false 97 0 (aq Tryz.prog 99 0) (λ(x:(i:Nat)×'(hi:i<=k)×'Unit)=>match x with|⟨i,hi,_⟩=>VZ [(0,V3 false k 3 (flatMap bb l)),(7,VJ 0 0 0 (length (ab A)) 2),(8,VJ 8 8 0 (length (ab B)) 2),(9,(VJ 16 16 (0) ((fC T1 T2 (ab A) (ab B) l i).length) 2)),(10,nD i)] [⟨0,0,16,16,.b ⟨flatMap dO (ab A),210,true⟩⟩,⟨8,8,40,40,.b ⟨flatMap dO (ab B),210,true⟩⟩,⟨16,16,72,72,.b ⟨(fC T1 T2 (ab A) (ab B) l i).flatMap aD,169,true⟩⟩] 24) (λ(x:(i:Nat)×'(hi:i<=k)×'Unit)=>match x with|⟨i,hi,_⟩=>k-i) [⟨Unit,.exit 0,λ x=>match x with|()=>VZ [(0,V3 false k 3 (flatMap bb l)),(7,VJ 0 0 0 (length (ab A)) 2),(8,VJ 8 8 0 (length (ab B)) 2),(9,(VJ 16 16 (0) ((fC T1 T2 (ab A) (ab B) l k).length) 2))] [⟨0,0,16,16,.b ⟨flatMap dO (ab A),210,true⟩⟩,⟨8,8,40,40,.b ⟨flatMap dO (ab B),210,true⟩⟩,⟨16,16,72,72,.b ⟨(fC T1 T2 (ab A) (ab B) l k).flatMap aD,169,true⟩⟩] 24⟩] 1000 64 (fun|⟨i,hi,_⟩,Q,ZB,ZD=>.B 5 ((i:Int)<k) (λ p0 Z9=>.K 3 (true&&decide ((i:Int)<k)&&true) zZ<|.O 5 ((flatMap bb l)[i*3+2]?) (zN (Tn.long (getD l i lh))) (cX (k:=3) (i:=i) (j:=2) (λ _=>rfl) om om rfl)<|.R 2 ((↑(Tn.long (getD l i lh)):Int)==0) (λ p1=>have Z8:=eq_of_beq p1;.K 5 (true&&decide ((i:Int)<k)&&true) zZ<|.O 5 ((flatMap bb l)[i*3+0]?) (da (VE (Tn.lit (getD l i lh)))) (cX (k:=3) (i:=i) (j:=0) (λ _=>rfl) om om rfl)<|.K 1 (true&&decide ((↑(VE (Tn.lit (getD l i lh))):Int)<(↑(length (ab A)):Int))) KP<|.K 2 (VN (0+VE (Tn.lit (getD l i lh))*2+2) (length (flatMap dO (ab A)))) KQ<|.lst (take 2 (drop (0+VE (Tn.lit (getD l i lh))*2) (flatMap dO (ab A)))) ([ai (V2 (getD (ab A) (VE (Tn.lit (getD l i lh))) lh)),da (VM (getD (ab A) (VE (Tn.lit (getD l i lh))) lh))]) (aJ (k:=2) (i:=VE (Tn.lit (getD l i lh))) (λ _=>rfl) wi om)<|.L 1 131 false [] (true) wr ([Wu [ai (V2 (getD (ab A) (VE (Tn.lit (getD l i lh))) lh)),da (VM (getD (ab A) (VE (Tn.lit (getD l i lh))) lh))]]) (by exact(qr trivial)) (.fn Q131 (@uC (getD (ab A) (VE (Tn.lit (getD l i lh))) lh) (by(exact(gy _).1)) (by(exact(gy _).2))))<|.K 3 (true&&VK (length (fC T1 T2 (ab A) (ab B) l i)*2) (length (flatMap aD (fC T1 T2 (ab A) (ab B) l i)))&&true&&true&&true&&true&&VN ((length (fC T1 T2 (ab A) (ab B) l i)+1)*16) 140737488355328) zZ<|.W 4 (i+1)<|.V 1 9 (VJ 192 192 0 (length (fC T1 T2 (ab A) (ab B) l i)+1) 2) (VJ 192 192 0 (length (fC T1 T2 (ab A) (ab B) l (i+1))) 2) (by(rw[CP om om,VI];rfl))<|.val 10 (zI (i+1)) (zN (i+1)) (by(refine aG ?_;(omega)))<|.blk 192 192 (VF (flatMap aD (fC T1 T2 (ab A) (ab B) l i)++[ai (dG (V2 (getD (ab A) (VE (Tn.lit (getD l i lh))) lh)) (VM (getD (ab A) (VE (Tn.lit (getD l i lh))) lh))),zN (VM (getD (ab A) (VE (Tn.lit (getD l i lh))) lh))]) 169 true) (VF (flatMap aD (fC T1 T2 (ab A) (ab B) l (i+1))) 169 true) (by(refine aw ?_;rw[CP om om,WH];rfl))<|Hn.next ZB ⟨(i+1),om,⟨⟩⟩ (by show k-(i+1)<k-i;clear ZB ZD;omega) [(0,0),(8,8),(192,192)] ro) (λ p1=>have Z8:=ap p1;.K 3 (true&&decide ((i:Int)<k)&&true) zZ<|.O 5 ((flatMap bb l)[i*3+2]?) (zN (Tn.long (getD l i lh))) (cX (k:=3) (i:=i) (j:=2) (λ _=>rfl) om om rfl)<|.C 1 132 false [] (.fn Nb (@yq (T1) aO om om (Tn.long (getD l i lh)) wi))<|.K 16 (true&&decide ((i:Int)<k)&&true) zZ<|.O 5 ((flatMap bb l)[i*3+1]?) (zN (Tn.dist (getD l i lh))) (cX (k:=3) (i:=i) (j:=1) (λ _=>rfl) om om rfl)<|.C 1 133 false [] (.fn Nc (@CL (T2) aO om om (Tn.dist (getD l i lh)) wi))<|.K 18 (true&&decide ((↑(257+ak T1 (Tn.long (getD l i lh))):Int)<(↑(length (ab A)):Int))) KP<|.K 2 (VN (0+(257+ak T1 (Tn.long (getD l i lh)))*2+2) (length (flatMap dO (ab A)))) KQ<|.lst (take 2 (drop (0+(257+ak T1 (Tn.long (getD l i lh)))*2) (flatMap dO (ab A)))) ([ai (V2 (getD (ab A) (257+ak T1 (Tn.long (getD l i lh))) lh)),da (VM (getD (ab A) (257+ak T1 (Tn.long (getD l i lh))) lh))]) (aJ (k:=2) (i:=257+ak T1 (Tn.long (getD l i lh))) (λ _=>rfl) wi om)<|.L 1 131 false [] (true) wr ([Wu [ai (V2 (getD (ab A) (257+ak T1 (Tn.long (getD l i lh))) lh)),da (VM (getD (ab A) (257+ak T1 (Tn.long (getD l i lh))) lh))]]) (by exact(qr trivial)) (.fn Q131 (@uC (getD (ab A) (257+ak T1 (Tn.long (getD l i lh))) lh) (by(exact(gy _).1)) (by(exact(gy _).2))))<|.O 2 (ay .u32 (↑(Tn.long (getD l i lh)-Sy.least (getD T1 (ak T1 (Tn.long (getD l i lh))) lh)):Int)) (ai (Tn.long (getD l i lh)-Sy.least (getD T1 (ak T1 (Tn.long (getD l i lh))) lh))) (aA wi)<|.K 6 (true&&decide ((↑(ak T2 (Tn.dist (getD l i lh))):Int)<(↑(length (ab B)):Int))) KP<|.K 2 (VN (0+ak T2 (Tn.dist (getD l i lh))*2+2) (length (flatMap dO (ab B)))) KQ<|.lst (take 2 (drop (0+ak T2 (Tn.dist (getD l i lh))*2) (flatMap dO (ab B)))) ([ai (V2 (getD (ab B) (ak T2 (Tn.dist (getD l i lh))) lh)),da (VM (getD (ab B) (ak T2 (Tn.dist (getD l i lh))) lh))]) (aJ (k:=2) (i:=ak T2 (Tn.dist (getD l i lh))) (λ _=>rfl) wi om)<|.L 1 131 false [] (true) wr ([Wu [ai (V2 (getD (ab B) (ak T2 (Tn.dist (getD l i lh))) lh)),da (VM (getD (ab B) (ak T2 (Tn.dist (getD l i lh))) lh))]]) (by exact(qr trivial)) (.fn Q131 (@uC (getD (ab B) (ak T2 (Tn.dist (getD l i lh))) lh) (by(exact(w5 _).1)) (by(exact(w5 _).2))))<|.O 2 (ay .u32 (↑(Tn.dist (getD l i lh)-Sy.least (getD T2 (ak T2 (Tn.dist (getD l i lh))) lh)):Int)) (ai (Tn.dist (getD l i lh)-Sy.least (getD T2 (ak T2 (Tn.dist (getD l i lh))) lh))) (aA wi)<|.K 6 (true&&VK (length (fC T1 T2 (ab A) (ab B) l i)*2) (length (flatMap aD (fC T1 T2 (ab A) (ab B) l i)))&&true&&true&&true&&true&&VN ((length (fC T1 T2 (ab A) (ab B) l i)+4)*16) 140737488355328) zZ<|.W 4 (i+1)<|.V 1 9 (VJ 504 504 0 (length (fC T1 T2 (ab A) (ab B) l i)+4) 2) (VJ 504 504 0 (length (fC T1 T2 (ab A) (ab B) l (i+1))) 2) (by(rw[CQ om om,VI];rfl))<|.val 10 (zI (i+1)) (zN (i+1)) (by(refine aG ?_;(omega)))<|.blk 504 504 (VF (flatMap aD (fC T1 T2 (ab A) (ab B) l i)++[ai (dG (V2 (getD (ab A) (257+ak T1 (Tn.long (getD l i lh))) lh)) (VM (getD (ab A) (257+ak T1 (Tn.long (getD l i lh))) lh))),zN (VM (getD (ab A) (257+ak T1 (Tn.long (getD l i lh))) lh)),ai (Tn.long (getD l i lh)-Sy.least (getD T1 (ak T1 (Tn.long (getD l i lh))) lh)),zN (Sy.bits (getD T1 (ak T1 (Tn.long (getD l i lh))) lh)),ai (dG (V2 (getD (ab B) (ak T2 (Tn.dist (getD l i lh))) lh)) (VM (getD (ab B) (ak T2 (Tn.dist (getD l i lh))) lh))),zN (VM (getD (ab B) (ak T2 (Tn.dist (getD l i lh))) lh)),ai (Tn.dist (getD l i lh)-Sy.least (getD T2 (ak T2 (Tn.dist (getD l i lh))) lh)),zN (Sy.bits (getD T2 (ak T2 (Tn.dist (getD l i lh))) lh))]) 169 true) (VF (flatMap aD (fC T1 T2 (ab A) (ab B) l (i+1))) 169 true) (by(refine aw ?_;rw[CQ om om,WH];rfl))<|Hn.next ZB ⟨(i+1),om,⟨⟩⟩ (by show k-(i+1)<k-i;clear ZB ZD;omega) [(0,0),(8,8),(504,504)] ro)) (λ p0 Z9=>.val 9 (VJ 16 16 0 (length (fC T1 T2 (ab A) (ab B) l i)) 2) (VJ 16 16 0 (length (fC T1 T2 (ab A) (ab B) l k)) 2) (by(rw[show i=k from by omega]))<|.blk 16 16 (VF (flatMap aD (fC T1 T2 (ab A) (ab B) l i)) 169 true) (VF (flatMap aD (fC T1 T2 (ab A) (ab B) l k)) 169 true) (by(rw[show i=k from by omega]))<|Hn.last ZD 0 (():Unit) rfl [(0,0),(8,8),(16,16)] ro)) (fun|⟨i,hi,_⟩=>by kernel_rfl) ⟨(0),om,⟨⟩⟩ [(16,16),(40,40),(72,72)] ro (bM (fun|()=>.K 3 (true&&decide (256<(↑(length (ab A)):Int))) (by(refine decide_eq_true ?_;(omega)))<|.K 2 (VN 514 (length (flatMap dO (ab A)))) (by(rw[r7,hmA];refine VL ?_;omega))<|.lst (take 2 (drop 512 (flatMap dO (ab A)))) ([ai (V2 (getD (ab A) 256 lh)),da (VM (getD (ab A) 256 lh))]) (aJ (k:=2) (i:=256) (λ _=>rfl) om om)<|.L 1 131 false [] (true) wr ([Wu [ai (V2 (getD (ab A) 256 lh)),da (VM (getD (ab A) 256 lh))]]) (by exact(qr trivial)) (.fn Q131 (@uC (getD (ab A) 256 lh) (by(exact(gy _).1)) (by(exact(gy _).2))))<|.K 3 (true&&VK (length (fC T1 T2 (ab A) (ab B) l k)*2) (length (flatMap aD (fC T1 T2 (ab A) (ab B) l k)))&&true&&true&&true&&true&&VN ((length (fC T1 T2 (ab A) (ab B) l k)+1)*16) 140737488355328) (by(have h7:=ja (T1:=T1) (T2:=T2) (A:=ab A) (B:=ab B) (l:=l) k om;simp only[yr,WK,V8,Wf,VO,Xa,WT];omega))<|.U 1 [72] [72] (VJ 0 0 0 (length (fC T1 T2 (ab A) (ab B) l k)+1) 2) [VF (flatMap aD (fC T1 T2 (ab A) (ab B) l k)++[ai (dG (V2 (getD (ab A) 256 lh)) (VM (getD (ab A) 256 lh))),zN (VM (getD (ab A) 256 lh))]) 169 true] R (ok _ _ (by(rw[VI];rfl)) (by(rw[WH];rfl)))))) kr
end Vp
end Go.Proofs.YtefjnofhgkjpmaaGreat

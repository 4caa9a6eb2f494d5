/- Part 4. -/
import Derived.Test.YtefjnofhgkjpmaaGreatTm3
import Derived.Test.YtefjnofhgkjpmaaGreatTm2
set_option linter.all false
set_option maxRecDepth 100000
set_option maxHeartbeats 4000000
open And renaming intro → Wn
open Bool renaming and_eq_true → Wh, and_true → WV, true_and → WM, true → Ga, false → Gd
open ByteArray renaming mk → WZ, toList → WC
open Go.Fn renaming func → Xi
open Go.IntKind renaming i64 → Wv, u32 → WU, wrap → Wo
open Go.LoopState renaming ready → Y4
open Go.Vx.Blk renaming mk → V8
open Go.Vx.CallOk renaming fn → Ws
open Go.Vx.CutS renaming mk → Wr
open Go.Vx.D renaming agg → W6, fn → Yd, ptr → WA, ref → Wb, sl → Wu, tup → Xm
open Inhabited renaming default → lb
open Int renaming eq_ofNat_of_zero_le → Xd, natAbs → abg, tdiv → XD, tmod → XG, toNat → zL, toNat_natCast → Ya, toNat_of_nonneg → Yk
open List renaming append_assoc → WI, append_nil → Xn, count_append → YT, count_singleton → aaY, drop → WT, eq_nil_of_length_eq_zero → WY, eq_replicate_iff → ZN, ext_getElem? → Xe, flatMap_append → Xj, flatMap_cons → XE, flatMap_singleton → YI, getD_eq_getElem?_getD → Wd, getElem?_append_left → WO, getElem?_append_right → WJ, getElem?_drop → Xr, getElem?_eq_getElem → Wa, getElem?_eq_none → WL, getElem?_map → WB, getElem?_of_mem → Xo, getElem?_range → Xx, getElem?_replicate → XI, getElem?_set → XA, getElem?_take → Xa, getElem_mem → Xf, length_append → Wc, length_cons → WQ, length_drop → Wy, length_map → Wj, length_nil → Yi, length_replicate → WP, length_singleton → W7, length_take → Wi, map_append → W4, map_replicate → Ys, mem_append_left → Yu, mem_cons_of_mem → WG, mem_cons_self → WH, mem_of_getElem? → Xy, mem_of_mem_take → Xs, not_mem_nil → YW, range → Xp, replicate → Wt, take → WS, take_of_length_le → WN, take_succ_eq_append_getElem → WW, toArray → W9, length → v0, flatMap → v8, getD → wm, map → wo, take → wx, drop → Ag
open Nat renaming add_assoc → XW, add_zero → X4, beq → V9, beq_eq → Yh, beq_refl → Xk, ble → Wf, ble_eq → XM, ble_eq_true_of_le → We, div_le_self → X7, le_of_ble_eq_true → Wm, le_refl → Wl, le_trans → Ww, lt_irrefl → ZY, lt_of_lt_of_le → WX, lt_or_ge → WR, mul_assoc → XS, mul_le_mul_right → W8, mul_one → Wx, not_lt_zero → XN, pow_le_pow_right → Xh, pow_succ → XO, sub_self → Xz, sub_zero → Zi, succ_le_succ → YN, testBit_eq_decide_div_mod_eq → Yc, two_pow_pos → Yr, zero_add → WE, zero_le → W5
open Prod renaming fst → Wz, snd → Wg
open UInt8 renaming ofNat → Xg, toNat → V7, toNat_lt → Xb
open Option renaming some → Ge, none → z9
open Decidable renaming decide → Ao
open Go.Vx.Hn renaming next → Aw, last → BO, inl → BY
open Go.Proofs.Tryz renaming prog → CK
variable{p:Prop}
namespace Go.Proofs.YtefjnofhgkjpmaaGreat
open Go.RowKit Go.Bw Go.Vx
open List (length getD map take drop flatMap replicate)
namespace Vp
def VF(h:p:=by rw[Wj,Wi,Wj];omega):=h
def jI (f:Nat->Nat):Gw->Nat
 |[]=>0
 |i::r=>f i+jI f r
def yc (f:Nat->Nat)(a b:Gw):jI f (a++b)=jI f a+jI f b:=by
 induction a with
 |nil=>simp[jI]
 |cons x a ih=>rw[List.cons_append,jI,jI,ih,XW]
def uo {f:Nat->Nat}{a b:Gw}(h:a.Perm b):jI f a=jI f b:=by
 induction h with
 |nil=>rfl
 |cons x _ ih=>rw[jI,jI,ih]
 |swap x y l=>rw[jI,jI,jI,jI];omega
 |trans _ _ h1 h2=>exact h1.trans h2
def rL {f:Nat->Nat}{p:Nat->Bool}:∀l:Gw,(∀i∈l,p i=Gd->f i=0)->jI f l=jI f (l.filter p)
 |[],_=>rfl
 |x::r,h=>by
  have ih:=rL r λ i hi=>h i (WG _ hi)
  cases hp:p x
  ·rw[List.filter_cons_of_neg (by simp[hp]),jI,h x WH hp,ih,WE]
  ·rw[List.filter_cons_of_pos hp,jI,jI,ih]
def kf (o:Z4)(i:Nat):Nat:=if(o.getD i lb).toNat=0 then 0 else 2^(15-(o.getD i lb).toNat)
def uf (o:Z4)(i:Nat):Nat:=if(o.getD i lb).toNat=0 then 0 else 1
def uq (o:Z4):∀k,k<=o.length->bj (o.take k)=jI (kf o) (Xp k)/\bA (o.take k)=jI (uf o) (Xp k)
 |0,_=>⟨rfl,rfl⟩
 |k+1,h=>by
  have ih:=uq o k om;rw[il om,jQ om,List.range_succ,yc,yc,ih.1,ih.2];exact⟨rfl,rfl⟩
def Cj {W:Gw}{o:Z4}(hl:o.length=W.length)(h0:∀i,i<W.length->W.getD i lb=0->o.getD i lb=0):bj o=jI (kf o) (cG W)/\bA o=jI (uf o) (cG W):=by
 have h:=uq o o.length (Wl _);rw[List.take_length,hl]at h;have hz:∀i,i<W.length->Ao (0<W.getD i lb)=Gd->(o.getD i lb).toNat=0:=λ i hi hp=>by
  have hp:=of_decide_eq_false hp;rw[h0 i hi om];rfl
 rw[uo (dj W),uo (dj W),fO,h.1,h.2];exact⟨rL _ λ i hi hp=>by unfold kf;rw[ZF (hz i (List.mem_range.1 hi) hp)],rL _ λ i hi hp=>by unfold uf;rw[ZF (hz i (List.mem_range.1 hi) hp)]⟩
def IF (W:Gw):(cG W).Nodup:=by
 rw[(dj W).nodup_iff,fO];exact List.Nodup.sublist List.filter_sublist List.nodup_range
def wc {W:Gw}{i:Nat}:i∈cG W↔i<W.length/\0<W.getD i lb:=by
 rw[(dj W).mem_iff,fO,List.mem_filter,List.mem_range,decide_eq_true_eq]
def rM {o:Z4}{i j:Nat}{v:UInt8}(hi:i<o.length):(o.set i v).getD j lb=if i=j then v else o.getD j lb:=by
 rw[Wd,Wd,XA]
 by_cases h:i=j
 ·rw[ZF h,ZF h,ZF om];rfl
 ·rw[ZE h,ZE h]
def Po {S:Gw}(hN:S.Nodup){i j:Nat}(hi:i<S.length)(hj:j<S.length)(h:i≠j):S.getD i lb≠S.getD j lb:=by
 rw[Wd,Wd,Wa hi,Wa hj];rcases Nat.lt_or_gt_of_ne h with q|q
 ·exact List.pairwise_iff_getElem.1 hN _ _ hi hj q
 ·exact(List.pairwise_iff_getElem.1 hN _ _ hj hi q).symm
def Ck {S:Gw}(hN:S.Nodup){o:Z4}(hA:bH o.length S):∀j,j<=S.length->(∀t,t<S.length->(cD o S j).getD (S.getD t lb) lb=if t<j then o.getD (S.getD t lb) lb+1 else o.getD (S.getD t lb) lb)/\∀i,i∉S->(cD o S j).getD i lb=o.getD i lb
 |0,_=>⟨λ t _=>by rw[oJ,ZE (XN t)],λ i _=>by rw[oJ]⟩
 |j+1,h=>by
  have ih:=Ck hN hA j om;have hb:=hA.at (t:=j) om;refine⟨λ t ht=>?_,λ i hi=>?_⟩
  ·rw[oK om,rM (by rw[cE];exact hb)]
   by_cases e:j=t
   ·subst e;rw[ZF rfl,ih.1 j ht,ZE (ZY j),ZF (Nat.lt_succ_self j)]
   ·rw[ZE (Po hN om ht e),ih.1 t ht]
    by_cases q:t<j
    ·rw[ZF q,ZF om]
    ·rw[ZE q,ZE om]
  ·rw[oK om,rM (by rw[cE];exact hb),ZE (λ q=>hi (by rw[<-q,Wd,Wa om];exact Xf _)),ih.2 i hi]
def rN (S:Gw)(o:Z4):Gw:=S.map λ i=>(o.getD i lb).toNat
def FN {S:Gw}(hN:S.Nodup){o:Z4}(hA:bH o.length S){j:Nat}(hj:j<=S.length)(hb:∀x∈rN S o,x<255):rN S (cD o S j)=IE (rN S o) j:=by
 have h:=(Ck hN hA j hj).1;unfold rN IE at *;apply Xe;intro t;rcases WR t S.length with q|q
 ·have e:S[t]=S.getD t lb:=by rw[Wd,Wa q];rfl
  have hx:=hb ((o.getD (S.getD t lb) lb).toNat) (List.mem_map.2 ⟨S[t],Xf q,by rw[e]⟩);rw[WB,Wa q,e];show Ge ((cD o S j).getD (S.getD t lb) lb).toNat=_;rw[h t q]
  by_cases z:t<j
  ·rw[ZF z,WO VF,WB,Xa,ZF z,WB,Wa q,e]
   show Ge _=Ge ((o.getD (S.getD t lb) lb).toNat+1);rw[UInt8.toNat_add];show Ge ((_+1)%256)=_
   congr 1;omega
  ·rw[ZE z,WJ VF,Wj,Wi,Wj,Xr,show j+(t-min j S.length)=t from by omega,WB,Wa q,e];rfl
 ·rw[WL (by rw[Wj];exact q),WL (by rw[Wc,Wj,Wi,Wy,Wj];omega)]
def Cl {ws S:Gw}{m:Nat}(hm:m<=15)(hN:S.Nodup)(hw:ws.length=S.length):∀(k n a:Nat) (o:Z4),bH o.length S->KrI ws m k n a (rN S o)->rN S (xW ws S k n o)=FM ws k n (rN S o)/\∀i,i∉S->(xW ws S k n o).getD i lb=o.getD i lb
 |0,n,a,o,hA,h=>⟨rfl,λ _ _=>rfl⟩
 |k+1,n,a,o,hA,h=>by
  have hn:=(LnI.next h.i).2.2.1;rw[hw]at hn;have hb:∀x∈rN S o,x<255:=λ x hx=>by
   obtain⟨r,hr,hx2⟩:=h.sh;rw[hr]at hx;rcases List.mem_append.1 hx with q|q
   ·have:=(List.mem_replicate.1 q).2;omega
   ·have:=hx2 x q;omega
  have e:=FN hN hA hn hb;have ih:=Cl hm hN hw k _ _ (cD o S (n-cZ (av ws k) n)) (by rw[cE];exact hA) (by rw[e];exact h.next);rw[xW,FM,<-e];exact⟨ih.1,λ i hi=>(ih.2 i hi).trans ((Ck hN hA _ hn).2 i hi)⟩
def oP (W:Gw)(hL:W.length<=320)(m:Nat)(hm:1<=m/\m<=15)(hNm:(eU W W.length).length<=2^m):dC (bE W m) m=0:=by
 have hp:=dj W;have hA:bH W.length (cG W):=oG.perm hp;have hlen:=kI W m;have hl:=hp.length_eq;have fin:(∀i,i<W.length->((bE W m).getD i lb).toNat<=m)->(bj (bE W m)=32768\/bA (bE W m)=0\/bA (bE W m)=1/\bj (bE W m)=16384)->bj (bE W m)<=32768->dC (bE W m) m=0:=λ h1 h2 h3=>by
  rw[kv];unfold vT;rw[hlen,ZE om,mW (λ i hi=>h1 i (by rw[hlen]at hi;exact hi)),ZE (by decide),ZE om,ZF h2]
 have zero:∀i,W.length<=i\/True->(Wt W.length (0:UInt8)).getD i lb=0:=λ i _=>by
  rw[Wd,XI];split<;>rfl
 rw[ir,rH]at fin ⊢
 by_cases c0:(cG W).length=0
 ·rw[ZF c0]at fin ⊢
  have s:=Cj (W:=W) (o:=Wt W.length 0) WP (λ i _ _=>zero i (.inr trivial));rw[WY c0]at s;exact fin (λ i _=>by rw[zero i (.inr trivial)];exact W5 _) (.inr (.inl s.2)) (by rw[s.1];exact W5 _)
 ·rw[ZE c0]at fin ⊢
  by_cases c1:(cG W).length=1
  ·rw[ZF c1]at fin ⊢
   obtain⟨i0,h0⟩:∃i0,cG W=[i0]:=List.length_eq_one_iff.1 c1;rw[h0]at fin hA ⊢;have hi:i0<W.length:=hA i0 (List.mem_singleton.2 rfl);have at':∀j,((Wt W.length (0:UInt8)).set i0 (Xg 1)).getD j lb=if i0=j then Xg 1 else 0:=λ j=>by
    rw[rM (by rw[WP];exact hi),zero j (.inr trivial)]
   have s:=Cj (W:=W) (o:=(Wt W.length 0).set i0 (Xg 1)) (by rw[List.length_set,WP]) (λ i hi2 hz=>by
    rw[at',ZE (λ q=>by
     have:=(wc (W:=W) (i:=i0)).1 (by rw[h0];exact List.mem_singleton.2 rfl);rw[q]at this;omega)])
   rw[h0]at s;have e1:jI (kf ((Wt W.length 0).set i0 (Xg 1))) [i0]=16384:=by
    rw[jI,jI,kf,at',ZF rfl];rfl
   have e2:jI (uf ((Wt W.length 0).set i0 (Xg 1))) [i0]=1:=by
    rw[jI,jI,uf,at',ZF rfl];rfl
   rw[e1,e2]at s;refine fin (λ i _=>?_) (.inr (.inr ⟨s.2,s.1⟩)) (by show bj ((Wt W.length 0).set i0 (Xg 1))<=_;rw[s.1];decide);show(((Wt W.length 0).set i0 (Xg 1)).getD i lb).toNat<=m;rw[at'];split
   ·exact hm.1
   ·exact W5 _
  ·rw[ZE c1]at fin ⊢
   have hw:(m9 W (cG W) (cG W).length).length=(cG W).length:=kG (Wl _);have hS:=IF W;have hlast:2*(cG W).length-2≠0:=by omega
   generalize hSS:cG W=S at *;generalize m9 W S S.length=ws at *;have hv:rN S (Wt W.length 0)=Wt S.length 0:=by
    unfold rN;rw[ZN];refine⟨by rw[Wj],λ b hb=>?_⟩;obtain⟨i,_,rfl⟩:=List.mem_map.1 hb;rw[zero i (.inr trivial)];rfl
   have hI:LnI ws m (2*S.length-2):=by
    have:=LnI.first (ws:=ws) hm.1 (by rw[hw];omega) (by rw[hw];omega)
    rwa [hw]at this
   have hK:KrI ws m m (2*S.length-2) S.length (rN S (Wt W.length 0)):=by
    refine⟨hI,Wl _,λ q=>by omega,λ q=>?_,⟨[],by rw[hv,Xz,Xn],λ x hx=>by cases hx⟩,?_⟩
    ·have:=(hI.nextk om (m-1) rfl).2.2
     rwa [hw]at this
    ·rw[hv,kJ,Zi]
     generalize 2^m=P;rw[Nat.sub_mul,XS];have:1*P<=S.length*P:=W8 _ om;omega
   have hA0:bH (Wt W.length (0:UInt8)).length S:=by rw[WP];exact hA
   have r:=Cl hm.2 hS hw m _ _ _ hA0 hK;have q:=KrI.last m _ _ _ hK;rw[<-r.1]at q;generalize hO:xW ws S m (2*S.length-2) (Wt W.length 0)=O at *;have hOl:O.length=W.length:=by rw[<-hO,nf,WP]
   have hp2:=yb q.1 (by unfold rN;rw[Wj];omega);have s:=Cj (W:=W) (o:=O) hOl (λ i hi hz=>by
    rw[r.2 i (λ hm2=>by rw[<-hSS]at hm2;have:=wc.1 hm2;omega),zero i (.inr trivial)])
   rw[hSS]at s;have e1:∀l:Gw,(∀i∈l,(O.getD i lb).toNat≠0)->jI (kf O) l=oO 15 (rN l O):=λ l=>by
    induction l with
    |nil=>intro _;rfl
    |cons x l ih=>
     intro h;have hx:=h x WH;show kf O x+jI (kf O) l=2^(15-_)+oO 15 (rN l O);rw[ih λ i hi=>h i (WG _ hi),kf,ZE hx]
   have e2:=e1 S λ i hi=>hp2 _ (List.mem_map.2 ⟨i,hi,rfl⟩)
   have e3:=Ci hm.2 (rN S O) q.2.1;rw[q.1,<-Nat.pow_add,show 15-m+m=15 from by omega]at e3;have hk:bj O=32768:=by rw[s.1,e2,e3]
   refine fin (λ i hi=>?_) (.inl hk) (Nat.le_of_eq hk)
   by_cases hi2:i∈S
   ·exact q.2.1 _ (List.mem_map.2 ⟨i,hi2,rfl⟩)
   ·rw[r.2 i hi2,zero i (.inr trivial)];exact W5 _
def aL (k:Nat)(S:Gw):Gw:=lk S ((Xp k).map λ i=>S.count i)
def lv (k:Nat)(S:Gw):aL k S=(Xp k).map λ i=>S.count i:=aM _ _
def cN (k:Nat)(S:Gw):(aL k S).length=k:=by rw[lv,Wj,List.length_range]
def yd (k:Nat)(S:Gw)(i:Nat):(aL k S)[i]? =if i<k then Ge (S.count i)else none:=by
 rw[lv,WB];rcases WR i k with h|h
 ·rw[Xx h,ZF h];rfl
 ·rw[WL (by simpa using h),ZE om];rfl
def wd (k:Nat)(S:Gw)(i:Nat):(aL k S).getD i lb=if i<k then S.count i else 0:=by
 rw[Wd,yd];split<;>rfl
def dE (k:Nat)(S:Gw)(i:Nat):(aL k S).getD i lb<=S.length:=by
 rw[wd];split
 ·exact List.count_le_length
 ·exact W5 _
def ye (k:Nat):aL k []=Wt k 0:=by
 apply Xe;intro i;rw[yd,XI];rfl
def Pp {k:Nat}{S:Gw}{i:Nat}(h:i<k):aL k (S++[i])=(aL k S).set i ((aL k S).getD i lb+1):=by
 apply Xe;intro j;rw[XA,cN,yd,yd]
 by_cases e:i=j
 ·subst e;rw[ZF h,ZF rfl,ZF h,wd,ZF h,YT,aaY,beq_self_eq_true];rfl
 ·rw[ZE e];split
  ·rw[YT,aaY,beq_eq_false_iff_ne.2 (λ q=>e q)];rfl
  ·rfl
def oQ {k:Nat}{S:Gw}{i a b:Nat}{x:Int}(h:i<k)(ha:a=i)(hb:b=i)(hx:x=(((aL k S).getD b lb:Nat):Int)+1):ac ((aL k S).map nD) a [D.v (.int .i64 x)]=(aL k (S++[i])).map nD:=by
 subst ha hb hx;rw[Pp h];exact Kx (by rw[cN];exact h)
def IG (T1:a9)(t:Tn):Nat:=if t.long=0 then t.lit.toNat else 257+ai T1 t.long
def KM (T2:a9)(t:Tn):Gw:=if t.long=0 then[]else[ai T2 t.dist]
def bV (T1:a9)(l:GU)(i:Nat):Gw:=lk l ((l.take i).map (IG T1))
def dl (T2:a9)(l:GU)(i:Nat):Gw:=lk l ((l.take i).flatMap (KM T2))
section
variable {T1 T2:List Sy} {l:List Tn} {i:Nat}
def ur:bV T1 l i=(l.take i).map (IG T1):=aM _ _
def yf:dl T2 l i=(l.take i).flatMap (KM T2):=aM _ _
def Pq:bV T1 l 0=[]:=ur
def KN:dl T2 l 0=[]:=yf
def lx:(bV T1 l i).length<=i:=by rw[ur,Wj,Wi];omega
def KO (h:i<l.length):dl T2 l (i+1)=dl T2 l i++KM T2 (l.getD i lb):=by
 have e1:l.take (i+1)=l.take i++[l.getD i lb]:=by
  rw[WW h,Wd,Wa h];rfl
 rw[yf,yf,e1,Xj,YI]
def Pr (h:i<l.length):bV T1 l (i+1)=bV T1 l i++[IG T1 (l.getD i lb)]:=by
 have e1:l.take (i+1)=l.take i++[l.getD i lb]:=by
  rw[WW h,Wd,Wa h];rfl
 rw[ur,ur,e1,W4];rfl
def rO:∀i,i<=l.length->(dl T2 l i).length<=i
 |0,_=>by rw[KN];exact Wl _
 |i+1,h=>by
  rw[KO om,Wc];have:=rO i om;unfold KM;split<;>simp <;>omega
def yg (h:i<l.length)(h0:(l.getD i lb).long=0):bV T1 l (i+1)=bV T1 l i++[(l.getD i lb).lit.toNat]/\dl T2 l (i+1)=dl T2 l i:=by
 rw[Pr h,KO h,IG,KM,ZF h0,ZF h0,Xn];exact⟨rfl,rfl⟩
def yh (h:i<l.length)(h0:(l.getD i lb).long≠0):bV T1 l (i+1)=bV T1 l i++[257+ai T1 (l.getD i lb).long]/\dl T2 l (i+1)=dl T2 l i++[ai T2 (l.getD i lb).dist]:=by
 rw[Pr h,KO h,IG,KM,ZE h0,ZE h0];exact⟨rfl,rfl⟩
end
def Cm:∀(l:Z4) (n:Nat),(∀i,n<=i->(l.getD i lb).toNat=0)->bj (l.take n)=bj l/\bA (l.take n)=bA l
 |[],n,_=>by rw[List.take_nil];exact⟨rfl,rfl⟩
 |x::r,0,h=>by
  have ih:=Cm r 0 λ i _=>h (i+1) (W5 _)
  have h0:x.toNat=0:=h 0 (Wl _);rw[List.take_zero]at ih ⊢;rw[bj,bj,bA,bA,ZF h0,ZF h0,<-ih.1,<-ih.2];exact⟨rfl,rfl⟩
 |x::r,n+1,h=>by
  have ih:=Cm r n λ i hi=>h (i+1) (YN hi)
  rw[List.take_succ_cons,bj,bj,bA,bA,ih.1,ih.2];exact⟨rfl,rfl⟩
def yi {l:Z4}{m:Nat}:∀n,∀i,jS l m n<=i->i<n->l.getD i lb=0
 |0,i,_,h=>absurd h (XN _)
 |n+1,i,h,h2=>by
  rw[jS]at h
  split at h
  ·next q=>
   rcases WR i n with r|r
   ·exact yi n i h r
   ·rw[show i=n from by omega];exact q.2
  ·omega
def ng {l:Z4}{i:Nat}(h:l.length<=i):l.getD i lb=0:=by
 rw[Wd,WL h];rfl
def vd (l:Z4)(m:Nat):Z4:=lk l (l.take (gO l m))
def ly (l:Z4)(m:Nat):vd l m=l.take (gO l m):=aM _ _
def ni (l:Z4)(m:Nat):(vd l m).length=gO l m:=by
 rw[ly,Wi];have:=(lq l m).1;omega
def KP (l:Z4)(m i:Nat):(vd l m).getD i lb=l.getD i lb:=by
 rw[ly,Wd,Xa]
 split
 ·rw[Wd]
 ·rcases WR i l.length with q|q
  ·rw[yi (m:=m) l.length i (by rw[<-jT];omega) q];rfl
  ·rw[ng q];rfl
def yj {l:Z4}{m q:Nat}(h:dC l m=0):dC (vd l q) m=0:=by
 have h0:=gg h;have hk:=Cm l (gO l q) (λ i hi=>by
  rcases WR i l.length with r|r
  ·rw[yi (m:=q) l.length i (by rw[<-jT];exact hi) r];rfl
  ·rw[ng r];rfl)
 have hl:(vd l q).length<=320:=by rw[ni];have:=(lq l q).1;omega
 have ho:ek (vd l q) m=false:=mW λ i hi=>by
  rw[KP];exact f6 h0.2.1 (by rw[ni]at hi;have:=(lq l q).1;omega)
 rw[kv]at h ⊢;unfold vT at h ⊢;rw[ZE om,h0.2.1]at h;rw[ZE om,ho,show bj (vd l q)=bj l from by rw[ly];exact hk.1,show bA (vd l q)=bA l from by rw[ly];exact hk.2];exact h
def cI {α:Type}(H:GR)(g:α->GR)(l:List α)(i:Nat):GR:=lk l (H++(l.take i).flatMap g)
section
variable {α:Type} {H:List Nm} {g:α->List Nm} {l:List α} {i:Nat}
def gq:cI H g l i=H++(l.take i).flatMap g:=aM _ _
def kK:cI H g l 0=H:=by rw[gq];exact Xn _
def kL [Inhabited α](h:i<l.length):cI H g l (i+1)=cI H g l i++g (l.getD i lb):=by
 have e1:l.take (i+1)=l.take i++[l.getD i lb]:=by
  rw[WW h,Wd,Wa h];rfl
 rw[gq,gq,e1,Xj,<-WI,YI]
def iu [Inhabited α]{c:Nat}(hc:∀x,(g x).length=c):∀i,i<=l.length->(cI H g l i).length=H.length+c*i
 |0,_=>by rw[kK];rfl
 |i+1,h=>by
  rw[kL om,Wc,iu hc i om,hc,Nat.mul_add,Wx,XW]
end
def gJ (x:UInt8):GR:=[⟨x.toNat,3⟩]
def iv (C:List (Nat×Nat))(r:Rn):GR:=iG C r.s (rb r.s) r.x
def qq:Gw:=[16,17,18,0,8,7,9,6,10,5,11,4,12,3,13,2,14,1,15]
def Ps:∀i,i<19->qq.getD i lb<19:=by decide
def iK (C:Z4)(i:Nat):Z4:=lk C ((qq.take i).map λ s=>C.getD s lb)
def oS (C:Z4)(i:Nat):iK C i=(qq.take i).map λ s=>C.getD s lb:=aM _ _
def IH (C:Z4):iK C 0=[]:=oS C 0
def rP (C:Z4){i:Nat}(h:i<=19):(iK C i).length=i:=by
 rw[oS,Wj,Wi,show qq.length=19 from rfl];omega
def II (C:Z4){i:Nat}(h:i<19):iK C (i+1)=iK C i++[C.getD (qq.getD i lb) lb]:=by
 have e1:qq.take (i+1)=qq.take i++[qq.getD i lb]:=by
  rw[WW (show i<qq.length from h),Wd,Wa (show i<qq.length from h)];rfl
 rw[oS,oS,e1,W4];rfl
def T9 (i:Nat)(h:i<19):(qq.map nD)[i]? =Ge (nD (qq.getD i lb)):=by
 rw[WB,Wa (show i<qq.length from h),Wd,Wa (show i<qq.length from h)];rfl
def oT {l:Z4}(ho:∀i,(l.getD i lb).toNat<=15):∀(f a:Nat),∀r∈jG l f a,r.s<=18/\r.x<2^rb r.s
 |0,_=>λ r hr=>absurd hr YW
 |f+1,a=>by
  rw[jG]
  split
  ·exact λ r hr=>absurd hr YW
  ·split
   ·intro r hr
    rcases List.mem_cons.1 hr with e|e
    ·subst e;refine⟨Wl _,?_⟩;show min (bG l a) 138-11<2^7;omega
    ·exact oT ho f _ r e
   ·split
    ·intro r hr
     rcases List.mem_cons.1 hr with e|e
     ·subst e;refine⟨Nat.le_succ _,?_⟩;show bG l a-3<2^3;omega
     ·exact oT ho f _ r e
    ·split
     ·intro r hr
      rcases List.mem_cons.1 hr with e|e
      ·subst e;refine⟨show(16:Nat)<=18 from by decide,?_⟩;show min (bG l a) 6-3<2^2;omega
      ·exact oT ho f _ r e
     ·intro r hr
      rcases List.mem_cons.1 hr with e|e
      ·subst e
       have h1:=ho a;refine⟨Ww h1 (by decide),?_⟩;show 0<2^rb _;exact Yr _
      ·exact oT ho f _ r e
def KQ {l:Z4}(ho:∀i,(l.getD i lb).toNat<=15)(i:Nat):((xw l).getD i lb).s<=18/\((xw l).getD i lb).x<2^rb ((xw l).getD i lb).s:=by
 rw[Wd];rcases WR i (xw l).length with h|h
 ·rw[Wa h]
  have hm:(xw l)[i]∈jG l l.length 0:=by rw[<-rm];exact Xf h
  exact oT ho _ _ _ hm
 ·rw[WL h];exact⟨W5 _,by decide⟩
def FO (l:Z4):(xw l).length<=l.length:=by rw[rm];exact kw _ _ _
def KR (l:Z4)(j:Nat)(ho:ek l 15=Gd):(aa l).getD j lb=if j<l.length/\(l.getD j lb).toNat≠0 then(sT l j,(l.getD j lb).toNat)else(0,0):=by
 rw[<-Ib ho,oy,Wd,WB];rcases WR j l.length with h|h
 ·rw[Xx h];exact rfl
 ·rw[WL (by simpa using h),ZE om];rfl
def Cn {l:Z4}{s:Nat}(h:s<l.length):(fb l (l.getD s lb).toNat s).length<(fb l (l.getD s lb).toNat l.length).length:=by
 obtain⟨r,hr⟩:=ot l (l.getD s lb).toNat (s+1) (l.length-(s+1));rw[show s+1+(l.length-(s+1))=l.length from by omega,fw,ZF rfl]at hr;rw[hr,Wc,Wc,W7];omega
def eE {l:Z4}(h:dC l 15=0):jU (aa l):=λ s=>by
 have h0:=gg h;rw[KR l s h0.2.1]
 split
 ·next q=>
  have h1:=f6 h0.2.1 q.1;refine⟨h1,?_⟩;have h2:=Ic h h1;have h3:=H7 rfl q.2 h1;have h4:=Cn q.1;show sT l s<2^(l.getD s lb).toNat;rw[oe]at h2;unfold Bp at h2;rw[ZE q.2]at h2;omega
 ·exact⟨W5 _,by decide⟩
def ut (W:Gw)(hL:W.length<=320)(m:Nat)(hm:1<=m/\m<=15)(hNm:(eU W W.length).length<=2^m){i:Nat}(hi0:0<W.getD i lb):((bE W m).getD i lb).toNat≠0:=by
 have hp:=dj W;have hA:bH W.length (cG W):=oG.perm hp;have hl:=hp.length_eq;have hiW:i<W.length:=by
  rcases WR i W.length with q|q
  ·exact q
  ·rw[Wd,WL q]at hi0;exact absurd hi0 (ZY 0)
 have hiS:i∈cG W:=wc.2 ⟨hiW,hi0⟩;have zero:∀i,(Wt W.length (0:UInt8)).getD i lb=0:=λ i=>by
  rw[Wd,XI];split<;>rfl
 rw[ir,rH]
 by_cases c0:(cG W).length=0
 ·rw[WY c0]at hiS;exact absurd hiS YW
 ·rw[ZE c0]
  by_cases c1:(cG W).length=1
  ·rw[ZF c1]
   obtain⟨i0,h0⟩:∃i0,cG W=[i0]:=List.length_eq_one_iff.1 c1;rw[h0]at hiS ⊢;have e:i=i0:=List.mem_singleton.1 hiS;subst e;show(((Wt W.length (0:UInt8)).set i (Xg 1)).getD i lb).toNat≠0;rw[rM (by rw[WP];exact hiW),ZF rfl];decide
  ·rw[ZE c1]
   have hw:(m9 W (cG W) (cG W).length).length=(cG W).length:=kG (Wl _);have hS:=IF W;generalize hSS:cG W=S at *;generalize m9 W S S.length=ws at *;have hv:rN S (Wt W.length 0)=Wt S.length 0:=by
    unfold rN;rw[ZN];refine⟨by rw[Wj],λ b hb=>?_⟩;obtain⟨i,_,rfl⟩:=List.mem_map.1 hb;rw[zero i];rfl
   have hI:LnI ws m (2*S.length-2):=by
    have:=LnI.first (ws:=ws) hm.1 (by rw[hw];omega) (by rw[hw];omega)
    rwa [hw]at this
   have hK:KrI ws m m (2*S.length-2) S.length (rN S (Wt W.length 0)):=by
    refine⟨hI,Wl _,λ q=>by omega,λ q=>?_,⟨[],by rw[hv,Xz,Xn],λ x hx=>by cases hx⟩,?_⟩
    ·have:=(hI.nextk om (m-1) rfl).2.2
     rwa [hw]at this
    ·rw[hv,kJ,Zi]
     generalize 2^m=P;rw[Nat.sub_mul,XS];have:1*P<=S.length*P:=W8 _ om;omega
   have hA0:bH (Wt W.length (0:UInt8)).length S:=by rw[WP];exact hA
   have r:=Cl hm.2 hS hw m _ _ _ hA0 hK;have q:=KrI.last m _ _ _ hK;rw[<-r.1]at q;have hp2:=yb q.1 (by unfold rN;rw[Wj];omega);exact hp2 _ (List.mem_map.2 ⟨i,hiS,rfl⟩)
def Co {l:Z4}{m s:Nat}(h:(l.getD s lb).toNat≠0):s<gO l m:=by
 rcases WR s (gO l m)with q|q
 ·exact q
 ·exfalso
  rcases WR s l.length with r|r
  ·rw[yi (m:=m) l.length s (by rw[<-jT];exact q) r]at h;exact h rfl
  ·rw[ng r]at h;exact h rfl
def yk {k:Nat}{S:Gw}{s:Nat}(h:s<k)(hm:s∈S):0<(aL k S).getD s lb:=by
 rw[wd,ZF h];exact List.count_pos_iff.2 hm
def Cp {T1:a9}{l:GU}{i k:Nat}(hk:k=l.length)(h:i<k):IG T1 (l.getD i lb)∈bV T1 l k:=by
 rw[ur,hk,WN (Wl _),Wd,Wa om];exact List.mem_map_of_mem (Xf _)
def KS {T2:a9}{l:GU}{i k:Nat}(hk:k=l.length)(h:i<k)(h0:(l.getD i lb).long≠0):ai T2 (l.getD i lb).dist∈dl T2 l k:=by
 rw[yf,hk,WN (Wl _)];have hi:i<l.length:=by omega
 rw[Wd,Wa hi]at h0 ⊢;refine List.mem_flatMap.2 ⟨l[i],Xf hi,?_⟩;unfold KM;rw[ZE (show¬l[i].long=0 from h0)];exact List.mem_singleton.2 rfl
def nj (k:Nat)(S:Gw)(i:Nat){a b:Nat}(h:i<k)(ha:a=i)(hb:b=i):ac ((aL k S).map nD) a [D.v (.int .i64 ((((aL k S).getD b lb:Nat):Int)+1))]=(aL k (S++[i])).map nD:=oQ h ha hb rfl
def kM (k:Nat)(S:Gw)(i:Nat){o:Nat}(h:i<k)(ho:o=i):((aL k S).map nD)[o]? =Ge (nD ((aL k S).getD i lb)):=by
 subst ho;rw[WB,Wd,Wa (by rw[cN];exact h)];rfl
def Pt (k:Nat)(S:Gw)(i:Nat)(W:Gw)(hW:aL k (S++[i])=W){a b:Nat}(h:i<k)(ha:a=i)(hb:b=i):ac ((aL k S).map nD) a [D.v (.int .i64 ((((aL k S).getD b lb:Nat):Int)+1))]=W.map nD:=by rw[<-hW];exact oQ h ha hb rfl
def Ad (C:Z4)(i:Nat):Nat:=lk C (qq.getD i lb)
def rQ (C:Z4)(i:Nat):Ad C i=qq.getD i lb:=aM _ _
def rR (C:Z4)(i:Nat)(h:i<19):Ad C i<19:=by rw[rQ];exact Ps i h
def IJ (C:Z4)(i:Nat)(h:i<19):(qq.map nD)[i]? =Ge (nD (Ad C i)):=by rw[rQ];exact T9 i h
def ym {l:Z4}{n i:Nat}(h:i<n):(l.take n).getD i lb=l.getD i lb:=by
 rw[Wd,Xa,ZF h,<-Wd]
def Pu {e n1 n2 n3:Nat}{x y z:Int}(hx:x=((n1-257:Nat):Int))(hy:y=((n2-1:Nat):Int))(hz:z=((n3-4:Nat):Int)):[D.v (.int .u32 (e:Int)),D.v (.int .i64 1),D.v (.int .u32 2),D.v (.int .i64 2),D.v (.int .u32 x),D.v (.int .i64 5),D.v (.int .u32 y),D.v (.int .i64 5),D.v (.int .u32 z),D.v (.int .i64 4)]=(kX e 2++([⟨n1-257,5⟩,⟨n2-1,5⟩,⟨n3-4,4⟩]:GR)).flatMap aC:=by
 subst hx hy hz;rfl

end Vp
end Go.Proofs.YtefjnofhgkjpmaaGreat
namespace Go.Proofs.YtefjnofhgkjpmaaGreat
open Go.RowKit Go.Bw Go.Vx
open List (length getD map take drop flatMap replicate)
namespace Vt
abbrev iD (i:Int):D:=.v (.int .i64 i)
abbrev aP:D:=.v (.slice z9 0 0)
structure Tok where
 lit:UInt8
 dist:Int
 long:Int
 deriving Inhabited
abbrev tokD (t:Tok):GA:=[dB t.lit,iD t.dist,iD t.long]
end Vt
end Go.Proofs.YtefjnofhgkjpmaaGreat
namespace Go.Proofs.YtefjnofhgkjpmaaGreat
open Go.RowKit Go.Bw Go.Vx
open List (length getD map take drop flatMap replicate)
namespace Vm
def oU(h:p:=by(refine aF ?_;(omega))):=h
def Ae(h:p:=by((refine aA ?_ ?_)<;>(repeat' (first|(refine aA ?_ ?_)|(with_reducible rfl)|(refine decide_eq_true ?_)|(refine We ?_)|(refine dg ?_)))<;>(omega))):=h
def Af(h:p:=by(exact dN _ (by decide) (by decide))):=h
def FP(h:p:=by(refine yo hh ?_ ?_ ?_<;>(omega))):=h
def FQ(h:p:=by show j-1<j;clear ZB ZD;omega):=h
abbrev iD (i:Int):D:=.v (.int .i64 i)
abbrev aP:D:=.v (.slice z9 0 0)
def Ua (x:Int):Wo .u32 x=x%4294967296:=rfl
abbrev bI (l:Z4)(i:Nat):Int:=((l.getD i lb).toNat:Int)
def cn (l:Z4)(i:Nat):Int:=((bI l (i+2)*16777619+bI l (i+1))*16777619+bI l i)%4294967296
abbrev KT:Int:=1055306571
def qt (l:Z4)(i:Nat):0<=bI l i/\bI l i<256:=by
 have h:=(l.getD i lb).toNat_lt;unfold bI;constructor<;>omega
def hR (p:Z4):Nat->Int
 |0=>0
 |k+1=>((((hR p k*16777619)%4294967296)+bI p (2-k))%4294967296)
def FR {p:Z4}{k j:Nat}{h:Int}(hh:h=hR p k)(hj:j=2-k):((((h*16777619)%4294967296)+bI p j)%4294967296)=hR p (k+1):=by rw[hh,hj,hR]
def Ub (p:Z4):hR p 3=cn p 0:=by
 have h0:=qt p 0;have h1:=qt p 1;have h2:=qt p 2;simp only[hR,Ua,cn,show 2-0=2 from rfl,show 2-1=1 from rfl,show 2-2=0 from rfl,show 0+2=2 from rfl,show 0+1=1 from rfl];omega
def hash (p:Z4)(hp:p.length=3)(H:Int)(hH:H=cn p 0):S0 198 [.sl Gd 3 1 (p.map dB)] [] (.tup [.v (.int .u32 H),.v (.int .u32 KT)]) []:=SpR Tryz.func198 rfl rfl rfl trivial rfl 1000 64 (λ R ok=>.s 9<|BY T_ok ae Gd 41 0 (am CK 198 0) (λ(x:(k:Nat)×'(hk:k<=3)×'(h:Int)×'(hh:h=hR p k)×'Unit)=>match x with|⟨k,hk,h,hh,_⟩=>Wr [(0,Wu Gd 3 1 (wo dB p)),(4,.v (.int .u32 h)),(5,iD (2-(k:Int)))] [] 0) (λ(x:(k:Nat)×'(hk:k<=3)×'(h:Int)×'(hh:h=hR p k)×'Unit)=>match x with|⟨k,hk,h,hh,_⟩=>3-k) [⟨Unit,.exit 0,λ()=>Wr [(0,Wu Gd 3 1 (wo dB p)),(4,.v (.int .u32 H))] [] 0⟩] 1000 64 (fun|⟨k,hk,h,hh,_⟩,Q,ZB,ZD=>.B 3 (0<=2-(k:Int)) (λ p0 Z9=>.O 3 (au .u32 (h*16777619)) (uI (h*16777619%4294967296)) (aD _ _)<|.K 3 (Ao (0<=2-(k:Int))&&Ao (2-(k:Int)<(↑3:Int))&&Ga) Ae<|.O 2 ((wo dB p)[zL (2-(k:Int))*1]?) (dB (wm p (zL (2-(k:Int))*1) lb)) (aj _ _ om)<|.O 1 (au .u32 (↑(V7 (wm p (zL (2-(k:Int))*1) lb)):Int)) (ah (V7 (wm p (zL (2-(k:Int))*1) lb))) (ax Af)<|.O 2 (au .u32 (h*16777619%4294967296+(↑(V7 (wm p (zL (2-(k:Int))*1) lb)):Int))) (uI ((h*16777619%4294967296+(↑(V7 (wm p (zL (2-(k:Int))*1) lb)):Int))%4294967296)) (aD _ _)<|.W 4 (2-(k:Int)-1)<|.V 1 4 (uI ((h*16777619%4294967296+(↑(V7 (wm p (zL (2-(k:Int))*1) lb)):Int))%4294967296)) (uI ((h*16777619%4294967296+bI p (2-k))%4294967296)) (by(refine aF (congrArg (λ z=>((((h*16777619)%4294967296)+bI p z)%4294967296)) ?_);(omega)))<|.val 5 (zI (2-(k:Int)-1)) (zI (2-(↑(k+1):Int))) oU<|Aw ZB ⟨(k+1),om,(((((h*16777619)%4294967296)+bI p (2-k))%4294967296)),(by(refine FR hh ?_;(omega))),⟨⟩⟩ (by show 3-(k+1)<3-k;clear ZB ZD;omega) [] ro) (λ p0 Z9=>.val 4 (uI h) (uI H) (by(refine aF ?_;rw[hh,hH,show k=3 from by(omega),Ub]))<|BO ZD 0 (():Unit) rfl [] ro)) (fun|⟨k,hk,h,hh,_⟩=>by kernel_rfl) ⟨(0),om,(0),(by exact rfl),⟨⟩⟩ [] ro (bB (fun|()=>.Y 70 [] [] (Xm [uI H,uI 1055306571]) [] ok))) kr
def aw (s p:Z4):Nat->Int
 |0=>-1
 |k+1=>if(s.drop k).take 3=p then(k:Int)else aw s p k
def Cq {s p:Z4}{i:Nat}(h:(s.drop i).take 3=p)(hi:i+3<=s.length):cn s i=cn p 0:=by
 have e:∀j,j<3->bI p j=bI s (i+j):=λ j hj=>by
  unfold bI;rw[<-h];simp only[Wd,Xa,Xr,hj,if_true]
 unfold cn;rw[e 0 (by decide),e 1 (by decide),e 2 (by decide)];rfl
def Uc (s:Z4)(i:Nat):((((((cn s (i+1)*16777619)%4294967296)+bI s i)%4294967296)-((KT*bI s (i+3))%4294967296))%4294967296)=cn s i:=by
 simp only[KT,Ua,cn,show i+1+2=i+3 from rfl,show i+1+1=i+2 from rfl];omega
def hW (s:Z4)(i:Nat):Nat->Int
 |0=>0
 |k+1=>((((hW s i k*16777619)%4294967296)+bI s (i+(2-k)))%4294967296)
def FS {s:Z4}{i k j:Nat}{h:Int}(hh:h=hW s i k)(hj:j=i+(2-k)):((((h*16777619)%4294967296)+bI s j)%4294967296)=hW s i (k+1):=by rw[hh,hj,hW]
def Ud (s:Z4)(i:Nat):hW s i 3=cn s i:=by
 have h0:=qt s i;have h1:=qt s (i+1);have h2:=qt s (i+2);simp only[hW,Ua,cn,show 2-0=2 from rfl,show 2-1=1 from rfl,show 2-2=0 from rfl,X4];omega
def uu {s p:Z4}{k m:Nat}(hm:m=k+1)(h:(s.drop k).take 3=p):aw s p m=k:=by rw[hm,aw,ZF h]
def lD {s p:Z4}{k m:Nat}(hm:m=k+1)(h:(s.drop k).take 3≠p):aw s p m=aw s p k:=by rw[hm,aw,ZE h]
def qu {s p:Z4}{k m:Nat}{h H:Int}(hm:m=k+1)(hl:m+2<=s.length)(hh:h=cn s k)(hH:H=cn p 0)(hne:h≠H):aw s p m=aw s p k:=
 lD hm λ e=>hne (by rw[hh,hH];exact Cq e om)
def KU {l p:Z4}(e:(WC {data:=l.toArray}==WC {data:=p.toArray})=Ga):l=p:=by rw[gG,gG]at e;exact eq_of_beq e
def KV {l p:Z4}(e:(WC {data:=l.toArray}==WC {data:=p.toArray})=Gd):l≠p:=by rw[gG,gG]at e;exact ak e
def yn {s:Z4}{n j:Nat}(hn:n=s.length)(h3:3<=n)(hj:j=n-3):s.drop j=(s.drop (n-3)).take 3:=by
 rw[hj,WN (by rw[Wy];omega)]
def qv {s p:Z4}{a:Int}{j:Nat}(hl:a=aw s p j)(hj:j=0):a= -1:=by rw[hl,hj];rfl
def yo {s:Z4}{j a b:Nat}{h:Int}(hh:h=cn s j)(hj:0<j)(ha:a=j-1)(hb:b=j+2):((((((h*16777619)%4294967296)+((s.getD a lb).toNat:Int))%4294967296)-((1055306571*((s.getD b lb).toNat:Int))%4294967296))%4294967296)=cn s (j-1):=by
 have e1:cn s j=cn s (a+1):=congrArg (cn s) om;have e2:b=a+3:=by omega
 have e3:=Uc s a;rw[hh,e1,e2,<-ha];exact e3
def Cr {s:Z4}{j:Nat}(hj:0<j):WS (((j:Int)-1+3).toNat-((j:Int)-1).toNat) (WT ((j:Int)-1).toNat s)=(s.drop (j-1)).take 3:=by
 rw[show((j:Int)-1+3).toNat-((j:Int)-1).toNat=3 from by omega,show((j:Int)-1).toNat=j-1 from by omega]
def yp {s p:Z4}{j:Nat}{a:Int}(hl:a=aw s p j)(hj:0<j)(e:(WC {data:=(WS (((j:Int)-1+3).toNat-((j:Int)-1).toNat) (WT ((j:Int)-1).toNat s)).toArray}==WC {data:=p.toArray})=Gd):a=aw s p (j-1):=by
 rw[hl];refine lD om ?_;rw[<-Cr hj];exact KV e
def Cs {s p:Z4}{j:Nat}{a:Int}(hl:a=aw s p j)(hj:0<j)(e:(WC {data:=(WS (((j:Int)-1+3).toNat-((j:Int)-1).toNat) (WT ((j:Int)-1).toNat s)).toArray}==WC {data:=p.toArray})=Ga):(j:Int)-1=a:=by
 rw[hl,uu (k:=j-1) om (by rw[<-Cr hj];exact KU e)];omega
def yq {s p:Z4}{j:Nat}{a h H:Int}(hl:a=aw s p j)(hj:0<j)(hb:j+2<=s.length)(hh:h=cn s j)(hH:H=cn p 0)(e:(((((((h*16777619)%4294967296)+((s.getD (((j:Int)-1).toNat*1) lb).toNat:Int))%4294967296)-((1055306571*((s.getD (((j:Int)-1+3).toNat*1) lb).toNat:Int))%4294967296))%4294967296)==H)=Gd):a=aw s p (j-1):=
 hl.trans (qu om hb (yo hh hj om om) hH (ak e))
def FT {s p:Z4}{n:Nat}(hn:n=s.length)(h3:3<=n)(e:(WC {data:=(WT ((n:Int)-3).toNat s).toArray}==WC {data:=p.toArray})=Ga):(n:Int)-3=aw s p (n-2):=by
 rw[uu (k:=n-3) om (by rw[<-yn hn h3 rfl,<-KU e];exact congrArg (WT · s) om)];omega
def rk (s p:Z4)(n:Nat)(hn:n=s.length)(hp:p.length=3)(h3:4<=n)(h4:n<=1000000)(H:Int)(hH:H=cn p 0):S0 193 [.sl Gd n 1 (s.map dB),.sl Gd 3 1 (p.map dB)] [] (iD (aw s p (n-2))) []:=SpR Tryz.func193 rfl rfl rfl trivial rfl 1000 64 (λ R ok=>.C 3 198 Gd [] (.fn Ta (@Go.Proofs.YtefjnofhgkjpmaaGreat.Vm.hash (p) om (H) aG))<|.W 15 (n-3)<|.W 6 (n-1)<|.V 1 10 (zI (n-1)) (zI (n-1-0)) oU<|BY T_ok ae Gd 94 0 (am CK 193 0) (λ(x:(k:Nat)×'(hk:k<=3)×'(h:Int)×'(hh:h=hW s (n-3) k)×'Unit)=>match x with|⟨k,hk,h,hh,_⟩=>Wr [(0,Wu Gd n 1 (wo dB s)),(1,Wu Gd 3 1 (wo dB p)),(5,uI H),(6,uI 1055306571),(7,zI 3),(8,zI (n-3)),(9,.v (.int .u32 h)),(10,iD ((n:Int)-1-k))] [] 0) (λ(x:(k:Nat)×'(hk:k<=3)×'(h:Int)×'(hh:h=hW s (n-3) k)×'Unit)=>match x with|⟨k,hk,h,hh,_⟩=>3-k) [⟨(h2:Int)×'(hh2:h2=cn s (n-3))×'Unit,.exit 0,λ x=>match x with|⟨h2,hh2,_⟩=>Wr [(0,Wu Gd n 1 (wo dB s)),(1,Wu Gd 3 1 (wo dB p)),(5,uI H),(6,uI 1055306571),(7,zI 3),(8,zI (n-3)),(9,.v (.int .u32 h2))] [] 0⟩] 1000 64 (fun|⟨k,hk,h,hh,_⟩,Q,ZB,ZD=>.B 4 ((n:Int)-3<=n-1-k) (λ p0 Z9=>.O 3 (au .u32 (h*16777619)) (uI (h*16777619%4294967296)) (aD _ _)<|.K 3 (Ao (0<=(n:Int)-1-k)&&Ao ((n:Int)-1-k<n)&&Ga) Ae<|.O 2 ((wo dB s)[zL ((n:Int)-1-k)*1]?) (dB (wm s (zL ((n:Int)-1-k)*1) lb)) (aj _ _ om)<|.O 1 (au .u32 (↑(V7 (wm s (zL ((n:Int)-1-k)*1) lb)):Int)) (ah (V7 (wm s (zL ((n:Int)-1-k)*1) lb))) (ax Af)<|.O 2 (au .u32 (h*16777619%4294967296+(↑(V7 (wm s (zL ((n:Int)-1-k)*1) lb)):Int))) (uI ((h*16777619%4294967296+(↑(V7 (wm s (zL ((n:Int)-1-k)*1) lb)):Int))%4294967296)) (aD _ _)<|.W 4 (n-1-k-1)<|.V 1 9 (uI ((h*16777619%4294967296+(↑(V7 (wm s (zL ((n:Int)-1-k)*1) lb)):Int))%4294967296)) (uI ((h*16777619%4294967296+bI s (n-1-k))%4294967296)) (by(refine aF (congrArg (λ z=>((((h*16777619)%4294967296)+bI s z)%4294967296)) ?_);(omega)))<|.val 10 (zI (n-1-k-1)) (zI (n-1-(↑(k+1):Int))) oU<|Aw ZB ⟨(k+1),om,(((((h*16777619)%4294967296)+bI s (n-1-k))%4294967296)),(by(refine FS hh ?_;(omega))),⟨⟩⟩ (by show 3-(k+1)<3-k;clear ZB ZD;omega) [] ro) (λ p0 Z9=>(BO ZD 0 (⟨(h),(by(rw[hh,show k=3 from by(omega),Ud])),⟨⟩⟩:(h2:Int)×'(hh2:h2=cn s (n-3))×'Unit) rfl [] ro))) (fun|⟨k,hk,h,hh,_⟩=>by kernel_rfl) ⟨(0),om,(0),(by exact rfl),⟨⟩⟩ [] ro (bB (fun|⟨h2,hh2,_⟩=>.R 7 (h2==H) (λ p1=>have Z8:=eq_of_beq p1;.K 4 (aV (Ge ((n:Int)-3)) z9 z9 n&&Ga) (by(simp <;>(omega)))<|.s 3<|.byt (Ag (zL ((n:Int)-3)*1) (wo dB s)) (Ag (zL ((n:Int)-3)) s) (by(simp;done))<|.s 5<|.byt (wo dB p) (p) rfl<|.R 3 (WC (WZ (W9 (Ag (zL ((n:Int)-3)) s)))==WC (WZ (W9 p))) (λ p2=>have Z7:=eq_of_beq p2;.U 2 [] [] (zI (n-3)) [] R (ok _ _ (by(exact aF (FT hn (by(omega)) aG))) wr)) (λ p2=>have Z7:=ak p2;.W 3 (n-3-1)<|.V 1 11 (zI (n-3-1)) (zI ((↑(n-3):Int)-1)) oU<|BY T_ok ae Gd 94 0 (am CK 193 1) (λ(x:(j:Nat)×'(hj:j<=n-3)×'(h:Int)×'(hh:h=cn s j)×'(hl:aw s p (n-2)=aw s p j)×'Unit)=>match x with|⟨j,hj,h,hh,hl,_⟩=>Wr [(0,Wu Gd n 1 (wo dB s)),(1,Wu Gd 3 1 (wo dB p)),(5,uI H),(6,uI 1055306571),(7,zI 3),(9,.v (.int .u32 h)),(11,iD ((j:Int)-1))] [] 0) (λ(x:(j:Nat)×'(hj:j<=n-3)×'(h:Int)×'(hh:h=cn s j)×'(hl:aw s p (n-2)=aw s p j)×'Unit)=>match x with|⟨j,hj,h,hh,hl,_⟩=>j) [⟨(hz:aw s p (n-2)= -1)×'Unit,.exit 2,λ x=>match x with|⟨hz,_⟩=>Wr [(0,Wu Gd n 1 (wo dB s)),(1,Wu Gd 3 1 (wo dB p)),(5,uI H),(6,uI 1055306571),(7,zI 3)] [] 0⟩,⟨Unit,.ret,λ()=>Wr [(4,iD (aw s p (n-2)))] [] 0⟩] 1000 64 (fun|⟨j,hj,h,hh,hl,_⟩,Q,ZB,ZD=>.B 3 (0<=(j:Int)-1) (λ p3 Z6=>.O 3 (au .u32 (h*16777619)) (uI (h*16777619%4294967296)) (aD _ _)<|.K 5 (Ao (0<=(j:Int)-1)&&Ao ((j:Int)-1<n)&&Ga) Ae<|.O 2 ((wo dB s)[zL ((j:Int)-1)*1]?) (dB (wm s (zL ((j:Int)-1)*1) lb)) (aj _ _ om)<|.O 1 (au .u32 (↑(V7 (wm s (zL ((j:Int)-1)*1) lb)):Int)) (ah (V7 (wm s (zL ((j:Int)-1)*1) lb))) (ax Af)<|.O 2 (au .u32 (h*16777619%4294967296+(↑(V7 (wm s (zL ((j:Int)-1)*1) lb)):Int))) (uI ((h*16777619%4294967296+(↑(V7 (wm s (zL ((j:Int)-1)*1) lb)):Int))%4294967296)) (aD _ _)<|.W 8 (j-1+3)<|.K 1 (Ao (0<=(j:Int)-1+3)&&Ao ((j:Int)-1+3<n)&&Ga) Ae<|.O 2 ((wo dB s)[zL ((j:Int)-1+3)*1]?) (dB (wm s (zL ((j:Int)-1+3)*1) lb)) (aj _ _ om)<|.O 1 (au .u32 (↑(V7 (wm s (zL ((j:Int)-1+3)*1) lb)):Int)) (ah (V7 (wm s (zL ((j:Int)-1+3)*1) lb))) (ax Af)<|.O 2 (au .u32 (1055306571*(↑(V7 (wm s (zL ((j:Int)-1+3)*1) lb)):Int))) (uI (1055306571*(↑(V7 (wm s (zL ((j:Int)-1+3)*1) lb)):Int)%4294967296)) (aD _ _)<|.O 2 (au .u32 ((h*16777619%4294967296+(↑(V7 (wm s (zL ((j:Int)-1)*1) lb)):Int))%4294967296-1055306571*(↑(V7 (wm s (zL ((j:Int)-1+3)*1) lb)):Int)%4294967296)) (uI (((h*16777619%4294967296+(↑(V7 (wm s (zL ((j:Int)-1)*1) lb)):Int))%4294967296-1055306571*(↑(V7 (wm s (zL ((j:Int)-1+3)*1) lb)):Int)%4294967296)%4294967296)) (aD _ _)<|.R 8 (((h*16777619%4294967296+(↑(V7 (wm s (zL ((j:Int)-1)*1) lb)):Int))%4294967296-1055306571*(↑(V7 (wm s (zL ((j:Int)-1+3)*1) lb)):Int)%4294967296)%4294967296==H) (λ p4=>have Z5:=eq_of_beq p4;.W 9 (j-1+3)<|.K 2 (aV (Ge ((j:Int)-1)) (Ge ((j:Int)-1+3)) z9 n&&Ga) (by(simp <;>(omega)))<|.s 3<|.byt (wx ((zL ((j:Int)-1+3)-zL ((j:Int)-1))*1) (Ag (zL ((j:Int)-1)*1) (wo dB s))) (wx (zL ((j:Int)-1+3)-zL ((j:Int)-1)) (Ag (zL ((j:Int)-1)) s)) (by(simp;done))<|.s 5<|.byt (wo dB p) (p) rfl<|.R 3 (WC (WZ (W9 (wx (zL ((j:Int)-1+3)-zL ((j:Int)-1)) (Ag (zL ((j:Int)-1)) s))))==WC (WZ (W9 p))) (λ p5=>have p5f:=eq_of_beq p5;.V 2 4 (zI (j-1)) (zI (aw s p (n-2))) (by(exact aF (Cs hl (by(omega)) aG)))<|BO ZD 1 (():Unit) rfl [] ro) (λ p5=>have p5f:=ak p5;.W 3 (j-1-1)<|.V 1 11 (zI (j-1-1)) (zI ((↑(j-1):Int)-1)) oU<|Aw ZB ⟨(j-1),om,(((((((h*16777619)%4294967296)+((s.getD (((j:Int)-1).toNat*1) lb).toNat:Int))%4294967296)-((1055306571*((s.getD (((j:Int)-1+3).toNat*1) lb).toNat:Int))%4294967296))%4294967296)),FP,(by(exact yp hl (by(omega)) aG)),⟨⟩⟩ FQ [] ro)) (λ p4=>have Z5:=ak p4;.W 23 (j-1-1)<|.V 1 11 (zI (j-1-1)) (zI ((↑(j-1):Int)-1)) oU<|Aw ZB ⟨(j-1),om,(((((((h*16777619)%4294967296)+((s.getD (((j:Int)-1).toNat*1) lb).toNat:Int))%4294967296)-((1055306571*((s.getD (((j:Int)-1+3).toNat*1) lb).toNat:Int))%4294967296))%4294967296)),FP,(by(exact yq hl (by(omega)) (by(omega)) hh hH aG)),⟨⟩⟩ FQ [] ro)) (λ p3 Z6=>(BO ZD 0 (⟨(by(exact qv hl (by(omega)))),⟨⟩⟩:(hz:aw s p (n-2)= -1)×'Unit) rfl [] ro))) (fun|⟨j,hj,h,hh,hl,_⟩=>by kernel_rfl) ⟨(n-3),om,(h2),om,(by(refine lD om ?_;rw[<-yn hn om rfl];refine λ e=>KV p2 ?_;refine Eq.trans ?_ e;exact congrArg (Ag · s) om)),⟨⟩⟩ [] ro (gu (fun|⟨hz,_⟩=>.U 1 [] [] (zI (-1)) [] R (ok _ _ oU wr)) (fun|()=>.out [] [] (zI (aw s p (n-2))) [] R (ok _ _ wr wr))))) (λ p1=>have Z8:=ak p1;.W 17 (n-3-1)<|.V 1 11 (zI (n-3-1)) (zI ((↑(n-3):Int)-1)) oU<|BY T_ok ae Gd 94 0 (am CK 193 1) (λ(x:(j:Nat)×'(hj:j<=n-3)×'(h:Int)×'(hh:h=cn s j)×'(hl:aw s p (n-2)=aw s p j)×'Unit)=>match x with|⟨j,hj,h,hh,hl,_⟩=>Wr [(0,Wu Gd n 1 (wo dB s)),(1,Wu Gd 3 1 (wo dB p)),(5,uI H),(6,uI 1055306571),(7,zI 3),(9,.v (.int .u32 h)),(11,iD ((j:Int)-1))] [] 0) (λ(x:(j:Nat)×'(hj:j<=n-3)×'(h:Int)×'(hh:h=cn s j)×'(hl:aw s p (n-2)=aw s p j)×'Unit)=>match x with|⟨j,hj,h,hh,hl,_⟩=>j) [⟨(hz:aw s p (n-2)= -1)×'Unit,.exit 2,λ x=>match x with|⟨hz,_⟩=>Wr [(0,Wu Gd n 1 (wo dB s)),(1,Wu Gd 3 1 (wo dB p)),(5,uI H),(6,uI 1055306571),(7,zI 3)] [] 0⟩,⟨Unit,.ret,λ()=>Wr [(4,iD (aw s p (n-2)))] [] 0⟩] 1000 64 (fun|⟨j,hj,h,hh,hl,_⟩,Q,ZB,ZD=>.B 3 (0<=(j:Int)-1) (λ p6 p6f=>.O 3 (au .u32 (h*16777619)) (uI (h*16777619%4294967296)) (aD _ _)<|.K 5 (Ao (0<=(j:Int)-1)&&Ao ((j:Int)-1<n)&&Ga) Ae<|.O 2 ((wo dB s)[zL ((j:Int)-1)*1]?) (dB (wm s (zL ((j:Int)-1)*1) lb)) (aj _ _ om)<|.O 1 (au .u32 (↑(V7 (wm s (zL ((j:Int)-1)*1) lb)):Int)) (ah (V7 (wm s (zL ((j:Int)-1)*1) lb))) (ax Af)<|.O 2 (au .u32 (h*16777619%4294967296+(↑(V7 (wm s (zL ((j:Int)-1)*1) lb)):Int))) (uI ((h*16777619%4294967296+(↑(V7 (wm s (zL ((j:Int)-1)*1) lb)):Int))%4294967296)) (aD _ _)<|.W 8 (j-1+3)<|.K 1 (Ao (0<=(j:Int)-1+3)&&Ao ((j:Int)-1+3<n)&&Ga) Ae<|.O 2 ((wo dB s)[zL ((j:Int)-1+3)*1]?) (dB (wm s (zL ((j:Int)-1+3)*1) lb)) (aj _ _ om)<|.O 1 (au .u32 (↑(V7 (wm s (zL ((j:Int)-1+3)*1) lb)):Int)) (ah (V7 (wm s (zL ((j:Int)-1+3)*1) lb))) (ax Af)<|.O 2 (au .u32 (1055306571*(↑(V7 (wm s (zL ((j:Int)-1+3)*1) lb)):Int))) (uI (1055306571*(↑(V7 (wm s (zL ((j:Int)-1+3)*1) lb)):Int)%4294967296)) (aD _ _)<|.O 2 (au .u32 ((h*16777619%4294967296+(↑(V7 (wm s (zL ((j:Int)-1)*1) lb)):Int))%4294967296-1055306571*(↑(V7 (wm s (zL ((j:Int)-1+3)*1) lb)):Int)%4294967296)) (uI (((h*16777619%4294967296+(↑(V7 (wm s (zL ((j:Int)-1)*1) lb)):Int))%4294967296-1055306571*(↑(V7 (wm s (zL ((j:Int)-1+3)*1) lb)):Int)%4294967296)%4294967296)) (aD _ _)<|.R 8 (((h*16777619%4294967296+(↑(V7 (wm s (zL ((j:Int)-1)*1) lb)):Int))%4294967296-1055306571*(↑(V7 (wm s (zL ((j:Int)-1+3)*1) lb)):Int)%4294967296)%4294967296==H) (λ p7=>have p7f:=eq_of_beq p7;.W 9 (j-1+3)<|.K 2 (aV (Ge ((j:Int)-1)) (Ge ((j:Int)-1+3)) z9 n&&Ga) (by(simp <;>(omega)))<|.s 3<|.byt (wx ((zL ((j:Int)-1+3)-zL ((j:Int)-1))*1) (Ag (zL ((j:Int)-1)*1) (wo dB s))) (wx (zL ((j:Int)-1+3)-zL ((j:Int)-1)) (Ag (zL ((j:Int)-1)) s)) (by(simp;done))<|.s 5<|.byt (wo dB p) (p) rfl<|.R 3 (WC (WZ (W9 (wx (zL ((j:Int)-1+3)-zL ((j:Int)-1)) (Ag (zL ((j:Int)-1)) s))))==WC (WZ (W9 p))) (λ p8=>have p8f:=eq_of_beq p8;.V 2 4 (zI (j-1)) (zI (aw s p (n-2))) (by(exact aF (Cs hl (by(omega)) aG)))<|BO ZD 1 (():Unit) rfl [] ro) (λ p8=>have p8f:=ak p8;.W 3 (j-1-1)<|.V 1 11 (zI (j-1-1)) (zI ((↑(j-1):Int)-1)) oU<|Aw ZB ⟨(j-1),om,(((((((h*16777619)%4294967296)+((s.getD (((j:Int)-1).toNat*1) lb).toNat:Int))%4294967296)-((1055306571*((s.getD (((j:Int)-1+3).toNat*1) lb).toNat:Int))%4294967296))%4294967296)),FP,(by(exact yp hl (by(omega)) aG)),⟨⟩⟩ FQ [] ro)) (λ p7=>have p7f:=ak p7;.W 23 (j-1-1)<|.V 1 11 (zI (j-1-1)) (zI ((↑(j-1):Int)-1)) oU<|Aw ZB ⟨(j-1),om,(((((((h*16777619)%4294967296)+((s.getD (((j:Int)-1).toNat*1) lb).toNat:Int))%4294967296)-((1055306571*((s.getD (((j:Int)-1+3).toNat*1) lb).toNat:Int))%4294967296))%4294967296)),FP,(by(exact yq hl (by(omega)) (by(omega)) hh hH aG)),⟨⟩⟩ FQ [] ro)) (λ p6 p6f=>(BO ZD 0 (⟨(by(exact qv hl (by(omega)))),⟨⟩⟩:(hz:aw s p (n-2)= -1)×'Unit) rfl [] ro))) (fun|⟨j,hj,h,hh,hl,_⟩=>by kernel_rfl) ⟨(n-3),om,(h2),om,(by(refine qu om om hh2 hH (ak p1))),⟨⟩⟩ [] ro (gu (fun|⟨hz,_⟩=>.U 1 [] [] (zI (-1)) [] R (ok _ _ oU wr)) (fun|()=>.out [] [] (zI (aw s p (n-2))) [] R (ok _ _ wr wr))))))) kr
def uv {s p:Z4}{n:Nat}(hn:n=s.length)(h3:n=3):aw s p (n-2)=if s=p then 0 else -1:=by
 rw[show n-2=0+1 from by omega,aw,List.drop_zero,WN om];rfl
def Pv {s p:Z4}{n:Nat}(hn:n=s.length)(h3:n=3)(e:(WC {data:=s.toArray}==WC {data:=p.toArray})=Ga):0=aw s p (n-2):=by rw[uv hn h3,ZF (KU e)]
def Pw {s p:Z4}{n:Nat}(hn:n=s.length)(h3:n=3)(e:(WC {data:=s.toArray}==WC {data:=p.toArray})=Gd):-1=aw s p (n-2):=by rw[uv hn h3,ZE (KV e)]
def Px {s p:Z4}{n:Nat}(h:n<=2):-1=aw s p (n-2):=by rw[show n-2=0 from by omega];rfl
def KW (s p:Z4)(n:Nat)(hn:n=s.length)(hp:p.length=3)(h4:n<=1000000):S0 179 [.sl Gd n 1 (s.map dB),.sl Gd 3 1 (p.map dB)] [] (iD (aw s p (n-2))) []:=by
 have hH:cn p 0=cn p 0:=rfl;refine SpR Tryz.func179 rfl rfl rfl trivial rfl 1000 64 (λ R ok=>.R 20 (3==(n:Int)) (λ p0=>have Z9:=eq_of_beq p0;.s 8<|.byt (wo dB s) (s) rfl<|.s 3<|.byt (wo dB p) (p) rfl<|.R 2 (WC (WZ (W9 s))==WC (WZ (W9 p))) (λ p1=>have Z8:=eq_of_beq p1;.U 1 [] [] (zI 0) [] R (ok _ _ (by(exact aF (Pv hn (by(omega)) aG))) wr)) (λ p1=>have Z8:=ak p1;.U 1 [] [] (zI (-1)) [] R (ok _ _ (by(exact aF (Pw hn (by(omega)) aG))) wr))) (λ p0=>have Z9:=ak p0;.B 6 ((n:Int)<3) (λ p2 Z7=>.U 1 [] [] (zI (-1)) [] R (ok _ _ (by(exact aF (Px (by(omega))))) wr)) (λ p2 Z7=>.C 3 193 Gd [] (.fn S9 (@Go.Proofs.YtefjnofhgkjpmaaGreat.Vm.rk (s) (p) (n) om om om om (cn p 0) aG))<|.Y 1 [] [] (zI (aw s p (n-2))) [] ok))) kr
def aW (b:Z4)(i j:Nat):Nat->Nat
 |0=>0
 |k+1=>if i<b.length/\b.getD j lb=b.getD i lb then aW b (i+1) (j+1) k+1 else 0
def yr (b:Z4):∀(k i j:Nat),aW b i j k<=k
 |0,i,j=>Wl 0
 |k+1,i,j=>by
  unfold aW
  split
  ·exact YN (yr b k (i+1) (j+1))
  ·omega
def kN (b:Z4):∀(k i j:Nat),i<=b.length->i+aW b i j k<=b.length
 |0,i,j,h=>h
 |k+1,i,j,h=>by
  unfold aW
  split
  ·next e=>have:=kN b k (i+1) (j+1) e.1;omega
  ·exact h
def FV {b:Z4}{i j m a:Nat}(hs:a=m+aW b (i+m) (j+m) (258-m))(h1:m<258)(h2:i+m<b.length)(h3:b.getD (j+m) lb=b.getD (i+m) lb):a=(m+1)+aW b (i+(m+1)) (j+(m+1)) (258-(m+1)):=by
 rw[hs,show 258-m=(258-(m+1))+1 from by omega,aW,ZF ⟨h2,h3⟩];rw[show i+m+1=i+(m+1)from by omega,show j+m+1=j+(m+1)from by omega];omega
def rS {b:Z4}{i j m a:Nat}(hs:a=m+aW b (i+m) (j+m) (258-m))(h:m=258\/¬i+m<b.length\/b.getD (j+m) lb≠b.getD (i+m) lb):a=m:=by
 rw[hs];rcases h with h|h|h
 ·rw[h];rfl
 ·cases k:258-m with
  |zero=>rfl
  |succ k=>rw[aW,ZE (λ e=>h e.1)];rfl
 ·cases k:258-m with
  |zero=>rfl
  |succ k=>rw[aW,ZE (λ e=>h e.2)];rfl
def yu {b:Z4}{i m:Nat}:b.getD (((i:Int)+(m:Int)).toNat*1) lb=b.getD (i+m) lb:=congrArg (b.getD · lb) om
def Py {x y:UInt8}(h:(x.toNat:Int)=(y.toNat:Int)):x=y:=UInt8.toNat_inj.1 (Int.ofNat.inj h)
def vY {b:Z4}{i j m a:Nat}(hs:a=m+aW b (i+m) (j+m) (258-m))(h1:m<258)(h2:i+m<b.length)(e:(((b.getD (((j:Int)+(m:Int)).toNat*1) lb).toNat:Int)==((b.getD (((i:Int)+(m:Int)).toNat*1) lb).toNat:Int))=Ga):a=m+1+aW b (i+(m+1)) (j+(m+1)) (258-(m+1)):=by
 rw[yu,yu]at e;exact FV hs h1 h2 (Py (eq_of_beq e))
def Ct {b:Z4}{i j m a:Nat}(hs:a=m+aW b (i+m) (j+m) (258-m))(e:(((b.getD (((j:Int)+(m:Int)).toNat*1) lb).toNat:Int)==((b.getD (((i:Int)+(m:Int)).toNat*1) lb).toNat:Int))=Gd):(m:Int)=(a:Int):=by
 rw[yu,yu]at e;rw[rS hs (.inr (.inr λ h=>ak e (by rw[h])))]
def yv {b:Z4}{i j m a n:Nat}(hs:a=m+aW b (i+m) (j+m) (258-m))(hn:n=b.length)(e:Ao ((i:Int)+(m:Int)<(n:Int))=Gd):(m:Int)=(a:Int):=by
 have:=of_decide_eq_false e;rw[rS hs (.inr (.inl om))]
def yw {b:Z4}{i j m a:Nat}(hs:a=m+aW b (i+m) (j+m) (258-m))(hm:m<=258)(e:Ao ((m:Int)<258)=Gd):(m:Int)=(a:Int):=by
 have:=of_decide_eq_false e;rw[rS hs (.inl om)]
def long (b:Z4)(n i j:Nat)(hn:n=b.length)(hN:n<=1000000)(hi:i<=n)(hj:j<i):S0 155 [.sl Gd n 1 (b.map dB),iD i,iD j] [] (iD (aW b i j 258:Nat)) []:=SpR Tryz.func155 rfl rfl rfl trivial rfl 1000 64 (λ R ok=>.s 1<|BY T_ok ae Gd 35 0 (am CK 155 0) (λ(x:(m:Nat)×'(hm:m<=258)×'(hi2:i+m<=n)×'(hs:aW b i j 258=m+aW b (i+m) (j+m) (258-m))×'Unit)=>match x with|⟨m,hm,hi2,hs,_⟩=>Wr [(0,Wu Gd n 1 (wo dB b)),(1,zN i),(2,zN j),(6,iD (m:Nat))] [] 0) (λ(x:(m:Nat)×'(hm:m<=258)×'(hi2:i+m<=n)×'(hs:aW b i j 258=m+aW b (i+m) (j+m) (258-m))×'Unit)=>match x with|⟨m,hm,hi2,hs,_⟩=>258-m) [⟨Unit,.exit 0,λ()=>Wr [(0,Wu Gd n 1 (wo dB b)),(1,zN i),(2,zN j),(6,iD (aW b i j 258:Nat))] [] 0⟩] 1000 64 (fun|⟨m,hm,hi2,hs,_⟩,Q,ZB,ZD=>.B 6 ((m:Int)<258) (λ p0 Z9=>.W 5 (i+m)<|.B 10 ((i:Int)+m<n) (λ p1 Z8=>.W 7 (j+m)<|.K 2 (Ga&&Ao ((j:Int)+m<n)&&Ga) Ae<|.O 3 ((wo dB b)[zL ((j:Int)+m)*1]?) (dB (wm b (zL ((j:Int)+m)*1) lb)) (aj _ _ om)<|.W 9 (i+m)<|.K 2 (Ga&&Ao ((i:Int)+m<n)&&Ga) Ae<|.O 3 ((wo dB b)[zL ((i:Int)+m)*1]?) (dB (wm b (zL ((i:Int)+m)*1) lb)) (aj _ _ om)<|.R 4 ((↑(V7 (wm b (zL ((j:Int)+m)*1) lb)):Int)==(↑(V7 (wm b (zL ((i:Int)+m)*1) lb)):Int)) (λ p2=>have Z7:=eq_of_beq p2;.W 3 (m+1)<|.V 1 6 (zI (m+1)) (zN (m+1)) (by(simp;done))<|Aw ZB ⟨(m+1),om,om,(by(exact vY hs (by(omega)) (by(omega)) aG)),⟨⟩⟩ (by show 258-(m+1)<258-m;clear ZB ZD;omega) [] ro) (λ p2=>have Z7:=ak p2;.val 6 (zN m) (zN (aW b i j 258)) (by(exact aF (Ct hs aG)))<|BO ZD 0 (():Unit) rfl [] ro)) (λ p1 Z8=>.V 26 6 (zN m) (zN (aW b i j 258)) (by(exact aF (yv hs hn aG)))<|BO ZD 0 (():Unit) rfl [] ro)) (λ p0 Z9=>.V 40 6 (zN m) (zN (aW b i j 258)) (by(exact aF (yw hs hm aG)))<|BO ZD 0 (():Unit) rfl [] ro)) (fun|⟨m,hm,hi2,hs,_⟩=>by kernel_rfl) ⟨(0),om,om,(by(simp only[X4,WE,Zi];done)),⟨⟩⟩ [] ro (bB (fun|()=>.Y 2 [] [] (zN (aW b i j 258)) [] ok))) kr
def Ue (b:Z4)(n i j:Nat)(hn:n=b.length)(hN:n<=1000000)(hi:i<=n)(hj:j<i):S0 128 [.sl Gd n 1 (b.map dB),iD i,iD j] [] (iD (aW b i j 258:Nat)) []:=SpR Tryz.func128 rfl rfl rfl trivial rfl 1000 64 (λ R ok=>.s 2<|BY T_ok ae Gd 36 0 (am CK 128 0) (λ(x:(m:Nat)×'(hm:m<=258)×'(hi2:i+m<=n)×'(hs:aW b i j 258=m+aW b (i+m) (j+m) (258-m))×'Unit)=>match x with|⟨m,hm,hi2,hs,_⟩=>Wr [(0,Wu Gd n 1 (wo dB b)),(1,zN i),(2,zN j),(7,iD (m:Nat))] [] 0) (λ(x:(m:Nat)×'(hm:m<=258)×'(hi2:i+m<=n)×'(hs:aW b i j 258=m+aW b (i+m) (j+m) (258-m))×'Unit)=>match x with|⟨m,hm,hi2,hs,_⟩=>258-m) [⟨Unit,.exit 0,λ()=>Wr [(0,Wu Gd n 1 (wo dB b)),(1,zN i),(2,zN j),(7,iD (aW b i j 258:Nat))] [] 0⟩] 1000 64 (fun|⟨m,hm,hi2,hs,_⟩,Q,ZB,ZD=>.B 6 ((m:Int)<258) (λ p0 Z9=>.W 5 (i+m)<|.B 10 ((i:Int)+m<n) (λ p1 Z8=>.W 7 (j+m)<|.K 2 (Ga&&Ao ((j:Int)+m<n)&&Ga) Ae<|.O 3 ((wo dB b)[zL ((j:Int)+m)*1]?) (dB (wm b (zL ((j:Int)+m)*1) lb)) (aj _ _ om)<|.W 9 (i+m)<|.K 2 (Ga&&Ao ((i:Int)+m<n)&&Ga) Ae<|.O 3 ((wo dB b)[zL ((i:Int)+m)*1]?) (dB (wm b (zL ((i:Int)+m)*1) lb)) (aj _ _ om)<|.R 4 ((↑(V7 (wm b (zL ((j:Int)+m)*1) lb)):Int)==(↑(V7 (wm b (zL ((i:Int)+m)*1) lb)):Int)) (λ p2=>have Z7:=eq_of_beq p2;.W 3 (m+1)<|.V 1 7 (zI (m+1)) (zN (m+1)) (by(simp;done))<|Aw ZB ⟨(m+1),om,om,(by(exact vY hs (by(omega)) (by(omega)) aG)),⟨⟩⟩ (by show 258-(m+1)<258-m;clear ZB ZD;omega) [] ro) (λ p2=>have Z7:=ak p2;.val 7 (zN m) (zN (aW b i j 258)) (by(exact aF (Ct hs aG)))<|BO ZD 0 (():Unit) rfl [] ro)) (λ p1 Z8=>.V 26 7 (zN m) (zN (aW b i j 258)) (by(exact aF (yv hs hn aG)))<|BO ZD 0 (():Unit) rfl [] ro)) (λ p0 Z9=>.V 40 7 (zN m) (zN (aW b i j 258)) (by(exact aF (yw hs hm aG)))<|BO ZD 0 (():Unit) rfl [] ro)) (fun|⟨m,hm,hi2,hs,_⟩=>by kernel_rfl) ⟨(0),om,om,(by(simp only[X4,WE,Zi];done)),⟨⟩⟩ [] ro (bB (fun|()=>.Y 2 [] [] (zN (aW b i j 258)) [] ok))) kr
def longX (b:Z4)(n:Nat)(x y:Int)(hn:n=b.length)(hN:n<=1000000)(hx:x<=n)(hy:0<=y)(hxy:y<x):S0 155 [.sl Gd n 1 (b.map dB),iD x,iD y] [] (iD (aW b x.toNat y.toNat 258:Nat)) []:=by
 obtain⟨i,rfl⟩:=Xd (show 0<=x by omega);obtain⟨j,rfl⟩:=Xd hy;exact long b n i j hn hN om om
def SameX (b:Z4)(n:Nat)(x y:Int)(hn:n=b.length)(hN:n<=1000000)(hx:x<=n)(hy:0<=y)(hxy:y<x):S0 128 [.sl Gd n 1 (b.map dB),iD x,iD y] [] (iD (aW b x.toNat y.toNat 258:Nat)) []:=by
 obtain⟨i,rfl⟩:=Xd (show 0<=x by omega);obtain⟨j,rfl⟩:=Xd hy;exact Ue b n i j hn hN om om
def mE(h:p:=by(have h9:=gK (wx (((k:Int)+2).toNat-(max 0 (q-size)).toNat) (Ag (max 0 (q-size)).toNat b)) (wx ((q+3).toNat-q.toNat) (Ag q.toNat b)) (((k:Int)+2).toNat-(max 0 (q-size)).toNat-2);omega)):=h
def Ah(h:p:=by(exact K1 (by(omega)) (by(omega)))):=h
def KX(h:p:=by show k-1<k;clear ZB ZD;omega):=h
def KY(h:p:=by(exact aF (we (uw hg (by(omega)))))):=h
def KZ(h:p:=by(exact aF (wg (uw hg (by(omega)))))):=h
def Pz(h:p:=by show zL (max 0 (q-size)+aw (wx (zL ((k:Int)+2)-zL (max 0 (q-size))) (Ag (zL (max 0 (q-size))) b)) (wx (zL (q+3)-zL q) (Ag (zL q) b)) (zL ((k:Int)+2)-zL (max 0 (q-size))-2))<k;clear ZB ZD;(have h9:=gK (wx (((k:Int)+2).toNat-(max 0 (q-size)).toNat) (Ag (max 0 (q-size)).toNat b)) (wx ((q+3).toNat-q.toNat) (Ag q.toNat b)) (((k:Int)+2).toNat-(max 0 (q-size)).toNat-2);omega)):=h
def bestG (b:Z4)(i:Nat)(size:Int):Nat->Int->Int->Int->Int×Int
 |0,_,d,l=>(d,l)
 |k+1,c,d,l=>
  if(i:Int)-k<=size/\0<c then
   if aW b i k 258<3 then bestG b i size k c d l
   else if l<aW b i k 258 then bestG b i size k (c-1) ((i:Int)-k) (aW b i k 258:Nat)
   else bestG b i size k (c-1) d l
  else(d,l)
def kO (b:Z4)(i j:Nat):aW b i j 258<=258:=yr b 258 i j
def Cu {b:Z4}{i k:Nat}:((aW b i (((k+1:Nat):Int)-1).toNat 258:Nat):Int)=(aW b i k 258:Nat):=by
 rw[show(((k+1:Nat):Int)-1).toNat=k from by omega]
def Ai {b:Z4}{i k:Nat}{size c d l:Int}{a:Int×Int}(hg:a=bestG b i size k c d l)(h0:0<k)(h1:(i:Int)-((k:Int)-1)<=size)(hc:0<c)(e:((aW b i ((k:Int)-1).toNat 258:Nat):Int)<3):a=bestG b i size (k-1) c d l:=by
 obtain⟨m,rfl⟩:∃m,k=m+1:=⟨k-1,by omega⟩
 rw[Cu]at e;rw[hg,bestG,ZF ⟨by omega,hc⟩,ZF om];rfl
def Cv {b:Z4}{i k:Nat}{size c d l:Int}{a:Int×Int}(hg:a=bestG b i size k c d l)(h0:0<k)(h1:(i:Int)-((k:Int)-1)<=size)(hc:0<c)(e:¬((aW b i ((k:Int)-1).toNat 258:Nat):Int)<3)(f:l<((aW b i ((k:Int)-1).toNat 258:Nat):Int)):a=bestG b i size (k-1) (c-1) ((i:Int)-((k:Int)-1)) ((aW b i ((k:Int)-1).toNat 258:Nat):Int):=by
 obtain⟨m,rfl⟩:∃m,k=m+1:=⟨k-1,by omega⟩
 rw[Cu]at e f ⊢;rw[hg,bestG,ZF ⟨by omega,hc⟩,ZE om,ZF f,show(((m+1:Nat):Int)-1)=(m:Int)from by omega];rfl
def Cw {b:Z4}{i k:Nat}{size c d l:Int}{a:Int×Int}(hg:a=bestG b i size k c d l)(h0:0<k)(h1:(i:Int)-((k:Int)-1)<=size)(hc:0<c)(e:¬((aW b i ((k:Int)-1).toNat 258:Nat):Int)<3)(f:¬l<((aW b i ((k:Int)-1).toNat 258:Nat):Int)):a=bestG b i size (k-1) (c-1) d l:=by
 obtain⟨m,rfl⟩:∃m,k=m+1:=⟨k-1,by omega⟩
 rw[Cu]at e f;rw[hg,bestG,ZF ⟨by omega,hc⟩,ZE om,ZE f];rfl
def uw {b:Z4}{i k:Nat}{size c d l:Int}{a:Int×Int}(hg:a=bestG b i size k c d l)(h:k=0\/¬(i:Int)-((k:Int)-1)<=size\/¬0<c):a=(d,l):=by
 rw[hg]
 cases k with
 |zero=>rfl
 |succ m=>rw[bestG,ZE om]
def we {x:Int×Int}{d l:Int}(h:x=(d,l)):d=x.1:=by rw[h]
def wg {x:Int×Int}{d l:Int}(h:x=(d,l)):l=x.2:=by rw[h]
def Uf (b:Z4)(n i:Nat)(size chain:Int)(hn:n=b.length)(hN:n<=1000000)(hi:i<=n)(hs:1<=size/\size<=32768)(hc:0<=chain/\chain<=256):S0 97 [.sl Gd n 1 (b.map dB),iD i,iD size,iD chain] [] (.tup [iD (bestG b i size i chain 0 0).1,iD (bestG b i size i chain 0 0).2]) []:=by
 have hS:=kO b;refine SpR Tryz.func97 rfl rfl rfl trivial rfl 1000 64 (λ R ok=>.W 7 (i-1)<|.s 1<|BY T_ok ae Gd 48 0 (am CK 97 0) (λ(x:(k:Nat)×'(hk:k<=i)×'(c:Int)×'(d:Int)×'(l:Int)×'(hc2:0<=c/\c<=256)×'(hd:0<=d/\d<=1000000)×'(hl:0<=l/\l<=258)×'(hg:bestG b i size i chain 0 0=bestG b i size k c d l)×'Unit)=>match x with|⟨k,hk,c,d,l,hc2,hd,hl,hg,_⟩=>Wr [(0,Wu Gd n 1 (wo dB b)),(1,zN i),(2,zI size),(3,iD c),(10,iD d),(11,iD l),(12,iD ((k:Int)-1))] [] 0) (λ(x:(k:Nat)×'(hk:k<=i)×'(c:Int)×'(d:Int)×'(l:Int)×'(hc2:0<=c/\c<=256)×'(hd:0<=d/\d<=1000000)×'(hl:0<=l/\l<=258)×'(hg:bestG b i size i chain 0 0=bestG b i size k c d l)×'Unit)=>match x with|⟨k,hk,c,d,l,hc2,hd,hl,hg,_⟩=>k) [⟨Unit,.exit 0,λ()=>Wr [(0,Wu Gd n 1 (wo dB b)),(1,zN i),(2,zI size),(10,iD (bestG b i size i chain 0 0).1),(11,iD (bestG b i size i chain 0 0).2)] [] 0⟩] 1000 64 (fun|⟨k,hk,c,d,l,hc2,hd,hl,hg,_⟩,Q,ZB,ZD=>.B 5 (0<=(k:Int)-1) (λ p0 Z9=>.W 5 (i-(k-1))<|.B 8 ((i:Int)-(k-1)<=size) (λ p1 Z8=>.B 4 (0<c) (λ p2 Z7=>.C 4 128 Gd [] (.fn SL (@Go.Proofs.YtefjnofhgkjpmaaGreat.Vm.SameX (b) (n) ((i:Int)) ((k:Int)-1) om om om om om))<|.B 4 ((↑(aW b (zL (i:Int)) (zL ((k:Int)-1)) 258):Int)<3) (λ p3 Z6=>.W 3 (k-1-1)<|.V 1 12 (zI (k-1-1)) (zI ((↑(k-1):Int)-1)) oU<|Aw ZB ⟨(k-1),om,(c),(d),(l),om,om,om,(by(have h8:aW b (i:Int).toNat ((k:Int)-1).toNat 258=aW b i ((k:Int)-1).toNat 258:=rfl;have h9:=hS i ((k:Int)-1).toNat;exact Ai hg om om om om)),⟨⟩⟩ KX [] ro) (λ p3 Z6=>.W 3 (c-1)<|.B 5 (l<(↑(aW b i (zL ((k:Int)-1)) 258):Int)) (λ p4 Z5=>.W 4 (i-(k-1))<|.W 6 (k-1-1)<|.V 1 12 (zI (k-1-1)) (zI ((↑(k-1):Int)-1)) oU<|Aw ZB ⟨(k-1),om,(c-1),((i:Int)-(k-1)),(((aW b i ((k:Int)-1).toNat 258:Nat):Int)),om,om,(by(have h8:aW b (i:Int).toNat ((k:Int)-1).toNat 258=aW b i ((k:Int)-1).toNat 258:=rfl;have h9:=hS i ((k:Int)-1).toNat;omega)),(by(have h8:aW b (i:Int).toNat ((k:Int)-1).toNat 258=aW b i ((k:Int)-1).toNat 258:=rfl;have h9:=hS i ((k:Int)-1).toNat;exact Cv hg om om om om om)),⟨⟩⟩ KX [] ro) (λ p4 Z5=>.W 3 (k-1-1)<|.V 1 12 (zI (k-1-1)) (zI ((↑(k-1):Int)-1)) oU<|Aw ZB ⟨(k-1),om,(c-1),(d),(l),om,om,om,(by(have h8:aW b (i:Int).toNat ((k:Int)-1).toNat 258=aW b i ((k:Int)-1).toNat 258:=rfl;have h9:=hS i ((k:Int)-1).toNat;exact Cw hg om om om om om)),⟨⟩⟩ KX [] ro))) (λ p2 Z7=>.val 10 (zI d) (zI (Wz (bestG b i size i chain 0 0))) KY<|.val 11 (zI l) (zI (Wg (bestG b i size i chain 0 0))) KZ<|BO ZD 0 (():Unit) rfl [] ro)) (λ p1 Z8=>.V 4 10 (zI d) (zI (Wz (bestG b i size i chain 0 0))) KY<|.val 11 (zI l) (zI (Wg (bestG b i size i chain 0 0))) KZ<|BO ZD 0 (():Unit) rfl [] ro)) (λ p0 Z9=>.V 16 10 (zI d) (zI (Wz (bestG b i size i chain 0 0))) KY<|.val 11 (zI l) (zI (Wg (bestG b i size i chain 0 0))) KZ<|BO ZD 0 (():Unit) rfl [] ro)) (fun|⟨k,hk,c,d,l,hc2,hd,hl,hg,_⟩=>by kernel_rfl) ⟨(i),om,(chain),(0),(0),om,om,om,wr,⟨⟩⟩ [] ro (bB (fun|()=>.Y 4 [] [] (Xm [zI (Wz (bestG b i size i chain 0 0)),zI (Wg (bestG b i size i chain 0 0))]) [] ok))) kr
def BestX (b:Z4)(n:Nat)(x size chain:Int)(hn:n=b.length)(hN:n<=1000000)(hx:0<=x/\x<=n)(hs:1<=size/\size<=32768)(hc:0<=chain/\chain<=256):S0 97 [.sl Gd n 1 (b.map dB),iD x,iD size,iD chain] [] (.tup [iD (bestG b x.toNat size x.toNat chain 0 0).1,iD (bestG b x.toNat size x.toNat chain 0 0).2]) []:=by
 obtain⟨i,rfl⟩:=Xd hx.1;exact Uf b n i size chain hn hN om hs hc
def uz (n:Nat)(x size chain:Int):Prop:=x<0\/(n:Int)<x\/size<1\/32768<size\/chain<0\/256<chain
instance (n:Nat) (x size chain:Int):Decidable (uz n x size chain):=by unfold uz;infer_instance
def eo (b:Z4)(n:Nat)(x size chain:Int):Int:=if 131072<n then 4 else if uz n x size chain then 2 else if(bestG b x.toNat size x.toNat chain 0 0).2=0 then 6 else 0
def qw (b:Z4)(n:Nat)(x size chain:Int):Int:=if eo b n x size chain=0 then(bestG b x.toNat size x.toNat chain 0 0).1 else 0
def mi (b:Z4)(n:Nat)(x size chain:Int):Int:=if eo b n x size chain=0 then(bestG b x.toNat size x.toNat chain 0 0).2 else 0
abbrev jJ (b:Z4)(n:Nat)(x size chain:Int):D:=.tup [iD (qw b n x size chain),iD (mi b n x size chain),iD (eo b n x size chain)]
def rT {b:Z4}{n:Nat}{x size chain e:Int}(h:eo b n x size chain=e)(he:e≠0):Xm [iD 0,iD 0,iD e]=jJ b n x size chain:=by
 have h2:¬eo b n x size chain=0:=λ q=>he (h.symm.trans q)
 unfold jJ qw mi;rw[ZE h2,ZE h2,h]
def K0 {b:Z4}{n:Nat}{x size chain:Int}(h:131072<n):Xm [iD 0,iD 0,iD 4]=jJ b n x size chain:=rT (ZF h) (by decide)
def K1 {b:Z4}{n:Nat}{x size chain:Int}(h:n<=131072)(h2:x<0\/(n:Int)<x\/size<1\/32768<size\/chain<0\/256<chain):Xm [iD 0,iD 0,iD 2]=jJ b n x size chain:=rT (by rw[eo,ZE om,ZF (show uz n x size chain from h2)]) (by decide)
def wh {b:Z4}{n:Nat}{x size chain:Int}(h:n<=131072)(h2:¬(x<0\/(n:Int)<x\/size<1\/32768<size\/chain<0\/256<chain))(h3:(bestG b x.toNat size x.toNat chain 0 0).2=0):Xm [iD 0,iD 0,iD 6]=jJ b n x size chain:=rT (by rw[eo,ZE om,ZE (show¬uz n x size chain from h2),ZF h3]) (by decide)
def Cy {b:Z4}{n:Nat}{x size chain:Int}(h:n<=131072)(h2:¬(x<0\/(n:Int)<x\/size<1\/32768<size\/chain<0\/256<chain))(h3:¬(bestG b x.toNat size x.toNat chain 0 0).2=0):Xm [iD (bestG b x.toNat size x.toNat chain 0 0).1,iD (bestG b x.toNat size x.toNat chain 0 0).2,iD 0]=jJ b n x size chain:=by
 have e:eo b n x size chain=0:=by rw[eo,ZE om,ZE (show¬uz n x size chain from h2),ZE h3]
 unfold jJ qw mi;rw[ZF e,ZF e,e]
def gK (s p:Z4):∀k:Nat,-1<=aw s p k/\aw s p k<k
 |0=>by unfold aw;decide
 |k+1=>by
  have:=gK s p k;unfold aw
  split<;>omega
def uA (s p:Z4):∀k:Nat,aw s p k<0->∀j,j<k->(s.drop j).take 3≠p
 |0,_,j,h=>absurd h (XN j)
 |k+1,h,j,hj=>by
  unfold aw at h
  split at h
  ·omega
  ·next e=>exact if q:j=k then q▸e else uA s p k h j om
def uB (s p:Z4):∀k:Nat,0<=aw s p k->(s.drop (aw s p k).toNat).take 3=p/\∀j:Nat,aw s p k<j->j<k->(s.drop j).take 3≠p
 |0,h=>absurd h (by unfold aw;decide)
 |k+1,h=>by
  unfold aw at h ⊢
  split at h
  ·next e=>
   rw[ZF e];exact⟨e,λ j h1 h2=>by omega⟩
  ·next e=>
   rw[ZE e];have:=uB s p k h;exact⟨this.1,λ j h1 h2=>if q:j=k then q▸e else this.2 j h1 om⟩
def IK (b:Z4)(i:Nat)(h:i+3<=b.length):(b.drop i).take 3=[b.getD i lb,b.getD (i+1) lb,b.getD (i+2) lb]:=by
 have g:∀j,j<3->b[i+j]? =Ge (b.getD (i+j) lb):=λ j hj=>by
  rw[Wd,Wa om];rfl
 apply Xe;intro j;rw[Xa]
 split
 ·next hj=>
  rw[Xr,g j hj]
  match j,hj with
  |0,_=>rfl
  |1,_=>rfl
  |2,_=>rfl
 ·next hj=>
  rw[WL (by simp;omega)]
def K2 {b:Z4}{i j k:Nat}(hi:i+3<=b.length)(hj:j<i):3<=aW b i j (k+1+1+1)↔(b.drop j).take 3=(b.drop i).take 3:=by
 rw[IK b i hi,IK b j om];simp only[aW,List.cons.injEq,and_true];constructor
 ·intro h
  split at h
  ·next e1=>
   split at h
   ·next e2=>
    split at h
    ·next e3=>exact⟨e1.2,e2.2,e3.2⟩
    ·omega
   ·omega
  ·omega
 ·rintro⟨e1,e2,e3⟩
  rw[ZF ⟨by omega,e1⟩,ZF ⟨by omega,e2⟩,ZF ⟨by omega,e3⟩];omega
def Cz {b:Z4}{i j:Nat}(hi:i+3<=b.length)(hj:j<i):3<=aW b i j 258↔(b.drop j).take 3=(b.drop i).take 3:=K2 (k:=255) hi hj
def CA {b:Z4}{i:Nat}{size d l c:Int}(hc:¬0<c):∀k,bestG b i size k c d l=(d,l)
 |0=>rfl
 |k+1=>by rw[bestG,ZE (λ h=>hc h.2)]
def lE {b:Z4}{i m:Nat}{size c d l:Int}(hs:(i:Int)-m<=size)(hc:0<c):∀k,m<=k->(∀j,m<=j->j<k->aW b i j 258<3)->bestG b i size k c d l=bestG b i size m c d l
 |0,h,_=>by rw[show m=0 from by omega]
 |k+1,h,hj=>by
  by_cases q:m=k+1
  ·rw[q]
  ·rw[bestG,ZF ⟨by omega,hc⟩,ZF (hj k om om)]
   exact lE hs hc k om λ j h1 h2=>hj j h1 om
def Aj {b:Z4}{i m k:Nat}{size c d l:Int}(hm:(m:Int)=max 0 ((i:Int)-size))(hk:m<=k)(hj:∀j,m<=j->j<k->aW b i j 258<3):bestG b i size k c d l=(d,l):=by
 by_cases hc:0<c
 ·rw[lE (m:=m) om hc k hk hj]
  cases m with
  |zero=>rfl
  |succ m=>rw[bestG,ZE om]
 ·exact CA hc k
def Ak {b:Z4}{i k:Nat}{size d l:Int}(h:(b.length:Int)<(i:Int)+3):∀c,bestG b i size k c d l=(d,l):=by
 have g:∀j,aW b i j 258<3:=λ j=>by
  by_cases hi:i<=b.length
  ·have:=kN b 258 i j hi;omega
  ·rw[show(258:Nat)=257+1 from rfl,aW,ZE (λ e=>by have:=e.1;omega)];decide
 intro c
 induction k with
 |zero=>rfl
 |succ k ih=>
  rw[bestG]
  split
  ·rw[ZF (g k)];exact ih
  ·rfl
def CB (b:Z4){low m j:Nat}(h:j+3<=m):((((b.drop low).take m).drop j).take 3)=(b.drop (low+j)).take 3:=by
 rw[List.drop_take,List.take_take,List.drop_drop,Nat.min_eq_left om]
def Ug {b:Z4}{i k low m:Nat}{size c d l:Int}{a:Int×Int}(hg:a=bestG b i size k c d l)(hlow:(low:Int)=max 0 ((i:Int)-size))(hk:low<=k)(hki:k<=i)(hi:i+3<=b.length)(hm:m=k+2-low)(h:aw ((b.drop low).take m) ((b.drop i).take 3) (m-2)<0):a=(d,l):=by
 rw[hg];refine Aj hlow hk λ j h1 h2=>?_
 have e:=uA _ _ _ h (j-low) om;rw[CB b om,show low+(j-low)=j from by omega]at e;have:¬3<=aW b i j 258:=λ q=>e ((Cz hi (show j<i by omega)).1 q)
 omega
def Uh {b:Z4}{i k low m f:Nat}{r size c d l:Int}{a:Int×Int}(hg:a=bestG b i size k c d l)(hlow:(low:Int)=max 0 ((i:Int)-size))(hk:low<=k)(hki:k<=i)(hi:i+3<=b.length)(hm:m=k+2-low)(hr:r=aw ((b.drop low).take m) ((b.drop i).take 3) (m-2))(h:0<=r)(hc:0<c)(hf:(f:Int)=low+r):
  a=if l<aW b i f 258 then bestG b i size f (c-1) ((i:Int)-f) (aW b i f 258:Nat)else bestG b i size f (c-1) d l:=by
 have hb:=gK ((b.drop low).take m) ((b.drop i).take 3) (m-2);have hp:=uB ((b.drop low).take m) ((b.drop i).take 3) (m-2) (hr▸h);rw[<-hr]at hb hp;have e1:=hp.1;rw[CB b om,show low+r.toNat=f from by omega]at e1;have s1:=(Cz hi (show f<i by omega)).2 e1;rw[hg,lE (m:=f+1) om hc k om (λ j h1 h2=>?_),bestG,ZF ⟨by omega,hc⟩,ZE om];have e:=hp.2 (j-low) om om;rw[CB b om,show low+(j-low)=j from by omega]at e;have:¬3<=aW b i j 258:=λ q=>e ((Cz hi (show j<i by omega)).1 q)
 omega
def lastIxX (s p:Z4)(n m:Nat)(hn:n=s.length)(hp:p.length=m)(hm:m=3)(h4:n<=1000000):S0 179 [.sl Gd n 1 (s.map dB),.sl Gd m 1 (p.map dB)] [] (iD (aw s p (n-2))) []:=by
 subst hm;exact KW s p n hn hp h4
def FW {x y:Int}{t:TypeId}{r:Bool}(h:x=y):(⟨[D.v (.int .i64 x)],t,r⟩:Blk)=⟨[D.v (.int .i64 y)],t,r⟩:=by rw[h]
abbrev LA (b:Z4)(q size:Int)(k:Nat):Int:=aw (WS (((k:Int)+2).toNat-(max 0 (q-size)).toNat) (WT (max 0 (q-size)).toNat b)) (WS ((q+3).toNat-q.toNat) (WT q.toNat b)) (((k:Int)+2).toNat-(max 0 (q-size)).toNat-2)
def IL {b:Z4}{n k:Nat}{q size c d l:Int}{a:Int×Int}(hn:n=b.length)(h7:q+3<=n)(h1:0<=q)(h3:1<=size)(hlow:max 0 (q-size)<=(k:Int))(hk:k<=q.toNat)(hg:a=bestG b q.toNat size k c d l)(h:LA b q size k<0):a=(d,l):=by
 unfold LA at h;rw[show(q+3).toNat-q.toNat=3 from by omega]at h;exact Ug hg (low:=(max 0 (q-size)).toNat) (m:=((k:Int)+2).toNat-(max 0 (q-size)).toNat) om om om om om h
def IM {b:Z4}{k:Nat}{q size c d l:Int}{a:Int×Int}(hg:a=bestG b q.toNat size k c d l)(h:¬0<c):a=(d,l):=hg.trans (CA h k)
def IN {b:Z4}{n k:Nat}{q size c d l:Int}{a:Int×Int}(hn:n=b.length)(h7:q+3<=n)(h1:0<=q)(h3:1<=size)(hlow:max 0 (q-size)<=(k:Int))(hk:k<=q.toNat)(hg:a=bestG b q.toNat size k c d l)(h:0<=LA b q size k)(hc:0<c):
  a=if l<aW b q.toNat (max 0 (q-size)+LA b q size k).toNat 258 then bestG b q.toNat size (max 0 (q-size)+LA b q size k).toNat (c-1) (q-(max 0 (q-size)+LA b q size k)) (aW b q.toNat (max 0 (q-size)+LA b q size k).toNat 258:Nat)else bestG b q.toNat size (max 0 (q-size)+LA b q size k).toNat (c-1) d l:=by
 have e3:(q+3).toNat-q.toNat=3:=by omega
 have h0:=h;unfold LA at h0;rw[e3]at h0;have key:=Uh hg (low:=(max 0 (q-size)).toNat) (m:=((k:Int)+2).toNat-(max 0 (q-size)).toNat) (f:=(max 0 (q-size)+LA b q size k).toNat) (r:=LA b q size k) om om om om om (by unfold LA;rw[e3]) h hc om;rw[show((q.toNat:Nat):Int)-((max 0 (q-size)+LA b q size k).toNat:Nat)=q-(max 0 (q-size)+LA b q size k)from by omega]at key;exact key
def FX {b:Z4}{n k:Nat}{q size c d l:Int}{a:Int×Int}(hn:n=b.length)(h7:q+3<=n)(h1:0<=q)(h3:1<=size)(hlow:max 0 (q-size)<=(k:Int))(hk:k<=q.toNat)(hg:a=bestG b q.toNat size k c d l)(h:0<=(aw (WS (((k:Int)+2).toNat-(max 0 (q-size)).toNat) (WT (max 0 (q-size)).toNat b)) (WS ((q+3).toNat-q.toNat) (WT q.toNat b)) (((k:Int)+2).toNat-(max 0 (q-size)).toNat-2)))(hc:0<c)(hl:l<(aW b q.toNat (max 0 (q-size)+(aw (WS (((k:Int)+2).toNat-(max 0 (q-size)).toNat) (WT (max 0 (q-size)).toNat b)) (WS ((q+3).toNat-q.toNat) (WT q.toNat b)) (((k:Int)+2).toNat-(max 0 (q-size)).toNat-2))).toNat 258:Nat)):
  a=bestG b q.toNat size (max 0 (q-size)+(aw (WS (((k:Int)+2).toNat-(max 0 (q-size)).toNat) (WT (max 0 (q-size)).toNat b)) (WS ((q+3).toNat-q.toNat) (WT q.toNat b)) (((k:Int)+2).toNat-(max 0 (q-size)).toNat-2))).toNat (c-1) (q-(max 0 (q-size)+(aw (WS (((k:Int)+2).toNat-(max 0 (q-size)).toNat) (WT (max 0 (q-size)).toNat b)) (WS ((q+3).toNat-q.toNat) (WT q.toNat b)) (((k:Int)+2).toNat-(max 0 (q-size)).toNat-2)))) (aW b q.toNat (max 0 (q-size)+(aw (WS (((k:Int)+2).toNat-(max 0 (q-size)).toNat) (WT (max 0 (q-size)).toNat b)) (WS ((q+3).toNat-q.toNat) (WT q.toNat b)) (((k:Int)+2).toNat-(max 0 (q-size)).toNat-2))).toNat 258:Nat):=by
 rw[IN hn h7 h1 h3 hlow hk hg h hc,ZF hl]
def FY {b:Z4}{n k:Nat}{q size c d l:Int}{a:Int×Int}(hn:n=b.length)(h7:q+3<=n)(h1:0<=q)(h3:1<=size)(hlow:max 0 (q-size)<=(k:Int))(hk:k<=q.toNat)(hg:a=bestG b q.toNat size k c d l)(h:0<=(aw (WS (((k:Int)+2).toNat-(max 0 (q-size)).toNat) (WT (max 0 (q-size)).toNat b)) (WS ((q+3).toNat-q.toNat) (WT q.toNat b)) (((k:Int)+2).toNat-(max 0 (q-size)).toNat-2)))(hc:0<c)(hl:¬l<(aW b q.toNat (max 0 (q-size)+(aw (WS (((k:Int)+2).toNat-(max 0 (q-size)).toNat) (WT (max 0 (q-size)).toNat b)) (WS ((q+3).toNat-q.toNat) (WT q.toNat b)) (((k:Int)+2).toNat-(max 0 (q-size)).toNat-2))).toNat 258:Nat)):
  a=bestG b q.toNat size (max 0 (q-size)+(aw (WS (((k:Int)+2).toNat-(max 0 (q-size)).toNat) (WT (max 0 (q-size)).toNat b)) (WS ((q+3).toNat-q.toNat) (WT q.toNat b)) (((k:Int)+2).toNat-(max 0 (q-size)).toNat-2))).toNat (c-1) d l:=by
 rw[IN hn h7 h1 h3 hlow hk hg h hc,ZE hl]
def Ui (b:Z4)(n:Nat)(q size chain:Int)(hn:n=b.length)(hN:n<=1000000)(hx:-9223372036854775808<=q/\q<=9223372036854775807)(hs:-9223372036854775808<=size/\size<=9223372036854775807)(hc:-9223372036854775808<=chain/\chain<=9223372036854775807):S0 117 [.sl Gd n 1 (b.map dB),iD q,iD size,iD chain] [] (jJ b n q size chain) []:=SpR Tryz.func117 rfl rfl rfl trivial rfl 1000 64 (λ R ok=>.B 24 (131072<(n:Int)) (λ p0 Z9=>.U 18 [] [] (Xm [zI 0,zI 0,zI 4]) [] R (ok _ _ (by(exact K0 (by(omega)))) wr)) (λ p0 Z9=>.B 5 (q<0) (λ p1 Z8=>.U 26 [] [] (Xm [zI 0,zI 0,zI 2]) [] R (ok _ _ Ah wr)) (λ p1 Z8=>.B 8 ((n:Int)<q) (λ p2 Z7=>.U 18 [] [] (Xm [zI 0,zI 0,zI 2]) [] R (ok _ _ Ah wr)) (λ p2 Z7=>.B 11 (size<1) (λ p3 Z6=>.U 27 [] [] (Xm [zI 0,zI 0,zI 2]) [] R (ok _ _ Ah wr)) (λ p3 Z6=>.B 6 (32768<size) (λ p4 Z5=>.U 21 [] [] (Xm [zI 0,zI 0,zI 2]) [] R (ok _ _ Ah wr)) (λ p4 Z5=>.B 8 (chain<0) (λ p5 p5f=>.U 15 [] [] (Xm [zI 0,zI 0,zI 2]) [] R (ok _ _ Ah wr)) (λ p5 p5f=>.B 6 (256<chain) (λ p6 p6f=>.U 11 [] [] (Xm [zI 0,zI 0,zI 2]) [] R (ok _ _ Ah wr)) (λ p6 p6f=>.W 23 (q+3)<|.B 6 ((n:Int)<q+3) (λ p7 p7f=>.U 17 [] [] (Xm [zI 0,zI 0,zI 6]) [] R (ok _ _ (by(exact wh (by(omega)) (by(omega)) (by rw[Ak (by(omega))]))) wr)) (λ p7 p7f=>.W 11 (q+3)<|.K 1 (aV (Ge q) (Ge (q+3)) z9 n&&Ga) (by(simp <;>(omega)))<|.W 9 (q-size)<|.O 1 (mr Wv Ga 0 (q-size)) (zI (max 0 (q-size))) (oc _ _ _)<|.W 6 (q-1)<|.W 2 (q-1+3)<|.V 1 7 (zI (q-1+3)) (zI ((↑(zL q):Int)+2)) oU<|BY T_ok ae Gd 47 456 (am Tryz.prog 178 0) (λ(x:(k:Nat)×'(hk:k<=q.toNat)×'(c:Int)×'(d:Int)×'(l:Int)×'(hc2:0<=c/\c<=256)×'(hd:0<=d/\d<=1000000)×'(hl:0<=l/\l<=258)×'(hlow:max 0 (q-size)<=(k:Int))×'(hg:bestG b q.toNat size q.toNat chain 0 0=bestG b q.toNat size k c d l)×'Unit)=>match x with|⟨k,hk,c,d,l,hc2,hd,hl,hlow,hg,_⟩=>Wr [(0,D.yl 448 448),(2,WA 368 368 0),(5,Wu Gd (zL (q+3)-zL q) 1 (wx ((zL (q+3)-zL q)*1) (Ag (zL q*1) (wo dB b)))),(6,zI (max 0 (q-size))),(7,iD ((k:Int)+2))] [⟨0,0,0,0,.b ⟨[Wu Gd n 1 (wo dB b)],24,Gd⟩⟩,⟨8,8,8,8,.b ⟨[zI q],3,Gd⟩⟩,⟨16,16,16,16,.b ⟨[iD c],3,Gd⟩⟩,⟨24,24,24,24,.b ⟨[iD d],3,Gd⟩⟩,⟨32,32,32,32,.b ⟨[iD l],3,Gd⟩⟩,⟨368,368,368,368,.b ⟨[Wu Gd n 1 (wo dB b)],24,Gd⟩⟩,⟨376,376,376,376,.b ⟨[zI q],3,Gd⟩⟩,⟨384,384,384,384,.b ⟨[zI size],3,Gd⟩⟩,⟨448,448,448,448,.l Y4 z9 (rangeAt Tryz.prog 117 0).1 (rangeAt Tryz.prog 117 0).2.1 (rangeAt Tryz.prog 117 0).2.2 58 [(0,Wu Gd n 1 (wo dB b)),(1,zI q),(3,zI chain),(7,WA 16 16 0),(15,zI q),(31,zI chain),(23,zI size),(11,zI 0),(35,zI q),(27,zI chain),(5,WA 8 8 0),(9,WA 32 32 0),(17,zI 0),(33,D.v (.bool Gd)),(25,D.v (.bool (Ao (32768<size)))),(21,D.v (.bool (Ao (size<1)))),(37,Yd (Xi 178) [] [WA 376 376 0,WA 368 368 0,WA 384 384 0]),(29,D.v (.bool (Ao (chain<0)))),(2,zI size),(4,WA 0 0 0),(8,WA 24 24 0),(16,zI 0),(32,D.v (.bool (Ao (256<chain)))),(24,D.v (.bool (Ao (32768<size)))),(20,zI size),(36,zI size),(28,D.v (.bool (Ao (chain<0)))),(10,zI 0),(18,D.v (.bool Gd)),(34,Wu Gd n 1 (wo dB b)),(26,D.v (.bool Gd)),(14,Wu Gd n 1 (wo dB b)),(22,D.v (.bool Gd)),(30,D.v (.bool Gd))]⟩] 528) (λ(x:(k:Nat)×'(hk:k<=q.toNat)×'(c:Int)×'(d:Int)×'(l:Int)×'(hc2:0<=c/\c<=256)×'(hd:0<=d/\d<=1000000)×'(hl:0<=l/\l<=258)×'(hlow:max 0 (q-size)<=(k:Int))×'(hg:bestG b q.toNat size q.toNat chain 0 0=bestG b q.toNat size k c d l)×'Unit)=>match x with|⟨k,hk,c,d,l,hc2,hd,hl,hlow,hg,_⟩=>k) [⟨Unit,.ret,λ()=>Wr [] [⟨0,0,0,0,.b ⟨[Wu Gd n 1 (wo dB b)],24,Gd⟩⟩,⟨8,8,8,8,.b ⟨[zI q],3,Gd⟩⟩,⟨24,24,24,24,.b ⟨[iD (bestG b q.toNat size q.toNat chain 0 0).1],3,Gd⟩⟩,⟨32,32,32,32,.b ⟨[iD (bestG b q.toNat size q.toNat chain 0 0).2],3,Gd⟩⟩,⟨368,368,368,368,.b ⟨[Wu Gd n 1 (wo dB b)],24,Gd⟩⟩,⟨376,376,376,376,.b ⟨[zI q],3,Gd⟩⟩,⟨384,384,384,384,.b ⟨[zI size],3,Gd⟩⟩,⟨448,448,448,448,.l Y4 z9 (rangeAt Tryz.prog 117 0).1 (rangeAt Tryz.prog 117 0).2.1 (rangeAt Tryz.prog 117 0).2.2 58 [(0,Wu Gd n 1 (wo dB b)),(1,zI q),(3,zI chain),(7,WA 16 16 0),(15,zI q),(31,zI chain),(23,zI size),(11,zI 0),(35,zI q),(27,zI chain),(5,WA 8 8 0),(9,WA 32 32 0),(17,zI 0),(33,D.v (.bool Gd)),(25,D.v (.bool (Ao (32768<size)))),(21,D.v (.bool (Ao (size<1)))),(37,Yd (Xi 178) [] [WA 376 376 0,WA 368 368 0,WA 384 384 0]),(29,D.v (.bool (Ao (chain<0)))),(2,zI size),(4,WA 0 0 0),(8,WA 24 24 0),(16,zI 0),(32,D.v (.bool (Ao (256<chain)))),(24,D.v (.bool (Ao (32768<size)))),(20,zI size),(36,zI size),(28,D.v (.bool (Ao (chain<0)))),(10,zI 0),(18,D.v (.bool Gd)),(34,Wu Gd n 1 (wo dB b)),(26,D.v (.bool Gd)),(14,Wu Gd n 1 (wo dB b)),(22,D.v (.bool Gd)),(30,D.v (.bool Gd))]⟩] 528⟩,⟨Unit,.ret,λ()=>Wr [] [⟨0,0,0,0,.b ⟨[Wu Gd n 1 (wo dB b)],24,Gd⟩⟩,⟨8,8,8,8,.b ⟨[zI q],3,Gd⟩⟩,⟨24,24,24,24,.b ⟨[iD (bestG b q.toNat size q.toNat chain 0 0).1],3,Gd⟩⟩,⟨32,32,32,32,.b ⟨[iD (bestG b q.toNat size q.toNat chain 0 0).2],3,Gd⟩⟩,⟨368,368,368,368,.b ⟨[Wu Gd n 1 (wo dB b)],24,Gd⟩⟩,⟨376,376,376,376,.b ⟨[zI q],3,Gd⟩⟩,⟨384,384,384,384,.b ⟨[zI size],3,Gd⟩⟩,⟨448,448,448,448,.l LoopState.done (Ge (Code.exit 0)) (rangeAt Tryz.prog 117 0).1 (rangeAt Tryz.prog 117 0).2.1 (rangeAt Tryz.prog 117 0).2.2 58 [(0,Wu Gd n 1 (wo dB b)),(1,zI q),(3,zI chain),(7,WA 16 16 0),(15,zI q),(31,zI chain),(23,zI size),(11,zI 0),(35,zI q),(27,zI chain),(5,WA 8 8 0),(9,WA 32 32 0),(17,zI 0),(33,D.v (.bool Gd)),(25,D.v (.bool (Ao (32768<size)))),(21,D.v (.bool (Ao (size<1)))),(37,Yd (Xi 178) [] [WA 376 376 0,WA 368 368 0,WA 384 384 0]),(29,D.v (.bool (Ao (chain<0)))),(2,zI size),(4,WA 0 0 0),(8,WA 24 24 0),(16,zI 0),(32,D.v (.bool (Ao (256<chain)))),(24,D.v (.bool (Ao (32768<size)))),(20,zI size),(36,zI size),(28,D.v (.bool (Ao (chain<0)))),(10,zI 0),(18,D.v (.bool Gd)),(34,Wu Gd n 1 (wo dB b)),(26,D.v (.bool Gd)),(14,Wu Gd n 1 (wo dB b)),(22,D.v (.bool Gd)),(30,D.v (.bool Gd))]⟩] 528⟩] 1000 64 (fun|⟨k,hk,c,d,l,hc2,hd,hl,hlow,hg,_⟩,Q,ZB,ZD=>.K 6 (aV (Ge (max 0 (q-size))) (Ge ((k:Int)+2)) z9 n&&Ga) (by(simp;have h9:=gK (wx (((k:Int)+2).toNat-(max 0 (q-size)).toNat) (Ag (max 0 (q-size)).toNat b)) (wx ((q+3).toNat-q.toNat) (Ag q.toNat b)) (((k:Int)+2).toNat-(max 0 (q-size)).toNat-2);omega))<|.L 2 179 Gd [] (Ga) wr ([Wu Gd (zL ((k:Int)+2)-zL (max 0 (q-size))) 1 (wx ((zL ((k:Int)+2)-zL (max 0 (q-size)))*1) (Ag (zL (max 0 (q-size))*1) (wo dB b))),Wu Gd (zL (q+3)-zL q) 1 (wx ((zL (q+3)-zL q)*1) (Ag (zL q*1) (wo dB b)))]) (by exact(Wn (D.sim.slw rfl (by(simp;done))) (Wn (D.sim.slw rfl (by(simp;done))) trivial))) (Ws (ap.of Tryz.func179 rfl rfl) (@Go.Proofs.YtefjnofhgkjpmaaGreat.Vm.lastIxX (wx (zL ((k:Int)+2)-zL (max 0 (q-size))) (Ag (zL (max 0 (q-size))) b)) (wx (zL (q+3)-zL q) (Ag (zL q) b)) (zL ((k:Int)+2)-zL (max 0 (q-size))) (zL (q+3)-zL q) (by(simp only[Wi,Wy];(omega))) (by(simp only[Wi,Wy];(omega))) om om))<|.B 6 (aw (wx (zL ((k:Int)+2)-zL (max 0 (q-size))) (Ag (zL (max 0 (q-size))) b)) (wx (zL (q+3)-zL q) (Ag (zL q) b)) (zL ((k:Int)+2)-zL (max 0 (q-size))-2)<0) (λ p8 p8f=>.M 12 24 24 (V8 [zI d] 3 Gd) (V8 [zI (Wz (bestG b (zL q) size (zL q) chain 0 0))] 3 Gd) (by(exact FW (we (IL hn (by(omega)) (by(omega)) (by(omega)) hlow hk hg (by(omega))))))<|.blk 32 32 (V8 [zI l] 3 Gd) (V8 [zI (Wg (bestG b (zL q) size (zL q) chain 0 0))] 3 Gd) (by(exact FW (wg (IL hn (by(omega)) (by(omega)) (by(omega)) hlow hk hg (by(omega))))))<|BO ZD 0 (():Unit) rfl [(0,0),(8,8),(24,24),(32,32),(368,368),(376,376),(384,384),(448,448)] ro) (λ p8 p8f=>.I 7 (max 0 (q-size)+aw (wx (zL ((k:Int)+2)-zL (max 0 (q-size))) (Ag (zL (max 0 (q-size))) b)) (wx (zL (q+3)-zL q) (Ag (zL q) b)) (zL ((k:Int)+2)-zL (max 0 (q-size))-2)) mE<|.R 8 (c==0) (λ p9=>have p9f:=eq_of_beq p9;.M 4 24 24 (V8 [zI d] 3 Gd) (V8 [zI (Wz (bestG b (zL q) size (zL q) chain 0 0))] 3 Gd) (by(exact FW (we (IM hg (by(omega))))))<|.blk 32 32 (V8 [zI l] 3 Gd) (V8 [zI (Wg (bestG b (zL q) size (zL q) chain 0 0))] 3 Gd) (by(exact FW (wg (IM hg (by(omega))))))<|BO ZD 1 (():Unit) rfl [(0,0),(8,8),(24,24),(32,32),(368,368),(376,376),(384,384),(448,448)] ro) (λ p9=>have p9f:=ak p9;.W 5 (c-1)<|.C 11 155 Gd [] (.fn SU (@Go.Proofs.YtefjnofhgkjpmaaGreat.Vm.longX (b) (n) (q) (max 0 (q-size)+aw (wx (zL ((k:Int)+2)-zL (max 0 (q-size))) (Ag (zL (max 0 (q-size))) b)) (wx (zL (q+3)-zL q) (Ag (zL q) b)) (zL ((k:Int)+2)-zL (max 0 (q-size))-2)) om om om om mE))<|.B 7 (l<(↑(aW b (zL q) (zL (max 0 (q-size)+aw (wx (zL ((k:Int)+2)-zL (max 0 (q-size))) (Ag (zL (max 0 (q-size))) b)) (wx (zL (q+3)-zL q) (Ag (zL q) b)) (zL ((k:Int)+2)-zL (max 0 (q-size))-2))) 258):Int)) (λ p10 p10f=>.I 6 (q-(max 0 (q-size)+aw (wx (zL ((k:Int)+2)-zL (max 0 (q-size))) (Ag (zL (max 0 (q-size))) b)) (wx (zL (q+3)-zL q) (Ag (zL q) b)) (zL ((k:Int)+2)-zL (max 0 (q-size))-2))) mE<|.I 15 (max 0 (q-size)+aw (wx (zL ((k:Int)+2)-zL (max 0 (q-size))) (Ag (zL (max 0 (q-size))) b)) (wx (zL (q+3)-zL q) (Ag (zL q) b)) (zL ((k:Int)+2)-zL (max 0 (q-size))-2)) mE<|.I 2 (max 0 (q-size)+aw (wx (zL ((k:Int)+2)-zL (max 0 (q-size))) (Ag (zL (max 0 (q-size))) b)) (wx (zL (q+3)-zL q) (Ag (zL q) b)) (zL ((k:Int)+2)-zL (max 0 (q-size))-2)+3) mE<|.I 2 (max 0 (q-size)+aw (wx (zL ((k:Int)+2)-zL (max 0 (q-size))) (Ag (zL (max 0 (q-size))) b)) (wx (zL (q+3)-zL q) (Ag (zL q) b)) (zL ((k:Int)+2)-zL (max 0 (q-size))-2)+3-1) mE<|.V 1 7 (zI (max 0 (q-size)+aw (wx (zL ((k:Int)+2)-zL (max 0 (q-size))) (Ag (zL (max 0 (q-size))) b)) (wx (zL (q+3)-zL q) (Ag (zL q) b)) (zL ((k:Int)+2)-zL (max 0 (q-size))-2)+3-1)) (zI ((↑(zL (max 0 (q-size)+aw (wx (zL ((k:Int)+2)-zL (max 0 (q-size))) (Ag (zL (max 0 (q-size))) b)) (wx (zL (q+3)-zL q) (Ag (zL q) b)) (zL ((k:Int)+2)-zL (max 0 (q-size))-2))):Int)+2)) oU<|Aw ZB ⟨((max 0 (q-size)+(aw (wx (((k:Int)+2).toNat-(max 0 (q-size)).toNat) (Ag (max 0 (q-size)).toNat b)) (wx ((q+3).toNat-q.toNat) (Ag q.toNat b)) (((k:Int)+2).toNat-(max 0 (q-size)).toNat-2))).toNat),mE,(c-1),(q-(max 0 (q-size)+(aw (wx (((k:Int)+2).toNat-(max 0 (q-size)).toNat) (Ag (max 0 (q-size)).toNat b)) (wx ((q+3).toNat-q.toNat) (Ag q.toNat b)) (((k:Int)+2).toNat-(max 0 (q-size)).toNat-2)))),(((aW b q.toNat (max 0 (q-size)+(aw (wx (((k:Int)+2).toNat-(max 0 (q-size)).toNat) (Ag (max 0 (q-size)).toNat b)) (wx ((q+3).toNat-q.toNat) (Ag q.toNat b)) (((k:Int)+2).toNat-(max 0 (q-size)).toNat-2))).toNat 258:Nat):Int)),om,mE,(by(exact⟨Int.natCast_nonneg _,Int.ofNat_le.2 (kO _ _ _)⟩)),om,(by(exact FX hn (by(omega)) (by(omega)) (by(omega)) hlow hk hg (by(omega)) (by(omega)) (by(omega)))),⟨⟩⟩ Pz [(0,0),(8,8),(16,16),(24,24),(32,32),(368,368),(376,376),(384,384),(448,448)] ro) (λ p10 p10f=>.I 8 (max 0 (q-size)+aw (wx (zL ((k:Int)+2)-zL (max 0 (q-size))) (Ag (zL (max 0 (q-size))) b)) (wx (zL (q+3)-zL q) (Ag (zL q) b)) (zL ((k:Int)+2)-zL (max 0 (q-size))-2)) mE<|.I 2 (max 0 (q-size)+aw (wx (zL ((k:Int)+2)-zL (max 0 (q-size))) (Ag (zL (max 0 (q-size))) b)) (wx (zL (q+3)-zL q) (Ag (zL q) b)) (zL ((k:Int)+2)-zL (max 0 (q-size))-2)+3) mE<|.I 2 (max 0 (q-size)+aw (wx (zL ((k:Int)+2)-zL (max 0 (q-size))) (Ag (zL (max 0 (q-size))) b)) (wx (zL (q+3)-zL q) (Ag (zL q) b)) (zL ((k:Int)+2)-zL (max 0 (q-size))-2)+3-1) mE<|.V 1 7 (zI (max 0 (q-size)+aw (wx (zL ((k:Int)+2)-zL (max 0 (q-size))) (Ag (zL (max 0 (q-size))) b)) (wx (zL (q+3)-zL q) (Ag (zL q) b)) (zL ((k:Int)+2)-zL (max 0 (q-size))-2)+3-1)) (zI ((↑(zL (max 0 (q-size)+aw (wx (zL ((k:Int)+2)-zL (max 0 (q-size))) (Ag (zL (max 0 (q-size))) b)) (wx (zL (q+3)-zL q) (Ag (zL q) b)) (zL ((k:Int)+2)-zL (max 0 (q-size))-2))):Int)+2)) oU<|Aw ZB ⟨((max 0 (q-size)+(aw (wx (((k:Int)+2).toNat-(max 0 (q-size)).toNat) (Ag (max 0 (q-size)).toNat b)) (wx ((q+3).toNat-q.toNat) (Ag q.toNat b)) (((k:Int)+2).toNat-(max 0 (q-size)).toNat-2))).toNat),mE,(c-1),(d),(l),om,om,om,om,(by(exact FY hn (by(omega)) (by(omega)) (by(omega)) hlow hk hg (by(omega)) (by(omega)) (by(omega)))),⟨⟩⟩ Pz [(0,0),(8,8),(16,16),(24,24),(32,32),(368,368),(376,376),(384,384),(448,448)] ro)))) (fun|⟨k,hk,c,d,l,hc2,hd,hl,hlow,hg,_⟩=>by kernel_rfl) ⟨(q.toNat),om,(chain),(0),(0),om,om,om,om,wr,⟨⟩⟩ [(0,0),(8,8),(16,16),(24,24),(32,32),(368,368),(376,376),(384,384),(448,448)] ro (gu (fun|()=>.R 5 (Wg (bestG b (zL q) size (zL q) chain 0 0)==0) (λ p11=>have p11f:=eq_of_beq p11;.U 11 [] [] (Xm [zI 0,zI 0,zI 6]) [] R (ok _ _ (by(exact wh (by(omega)) (by(omega)) (eq_of_beq aG))) wr)) (λ p11=>have p11f:=ak p11;.U 18 [] [] (Xm [zI (Wz (bestG b (zL q) size (zL q) chain 0 0)),zI (Wg (bestG b (zL q) size (zL q) chain 0 0)),zI 0]) [] R (ok _ _ (by(exact Cy (by(omega)) (by(omega)) (ak aG))) wr))) (fun|()=>.R 5 (Wg (bestG b (zL q) size (zL q) chain 0 0)==0) (λ p12=>have p12f:=eq_of_beq p12;.U 11 [] [] (Xm [zI 0,zI 0,zI 6]) [] R (ok _ _ (by(exact wh (by(omega)) (by(omega)) (eq_of_beq aG))) wr)) (λ p12=>have p12f:=ak p12;.U 18 [] [] (Xm [zI (Wz (bestG b (zL q) size (zL q) chain 0 0)),zI (Wg (bestG b (zL q) size (zL q) chain 0 0)),zI 0]) [] R (ok _ _ (by(exact Cy (by(omega)) (by(omega)) (ak aG))) wr))))))))))))) kr
def i8 (b:Z4)(i:Nat)(size:Int):∀(k:Nat) (c d l:Int),bestG b i size k c d l=(d,l)\/∃j,j<k/\(bestG b i size k c d l).1=(i:Int)-(j:Int)/\(bestG b i size k c d l).2=(aW b i j 258:Nat)/\3<=aW b i j 258/\(i:Int)-(j:Int)<=size
 |0,c,d,l=>.inl rfl
 |k+1,c,d,l=>by
  have up:∀{c d l:Int},(∃j,j<k/\(bestG b i size k c d l).1=(i:Int)-(j:Int)/\(bestG b i size k c d l).2=(aW b i j 258:Nat)/\3<=aW b i j 258/\(i:Int)-(j:Int)<=size)->∃j,j<k+1/\(bestG b i size k c d l).1=(i:Int)-(j:Int)/\(bestG b i size k c d l).2=(aW b i j 258:Nat)/\3<=aW b i j 258/\(i:Int)-(j:Int)<=size:=fun⟨j,h1,h2⟩=>⟨j,by omega,h2⟩
  unfold bestG
  split
  ·next e=>
   split
   ·exact(i8 b i size k c d l).imp id up
   ·next e3=>
    split
    ·rcases i8 b i size k (c-1) ((i:Int)-k) (aW b i k 258:Nat)with h|h
     ·exact .inr ⟨k,by omega,by rw[h],by rw[h],by omega,e.1⟩
     ·exact .inr (up h)
    ·exact(i8 b i size k (c-1) d l).imp id up
  ·exact .inl rfl
def lG {b:Z4}{n:Nat}{x size chain:Int}(h:eo b n x size chain≠0):qw b n x size chain=0/\mi b n x size chain=0:=⟨ZE h,ZE h⟩
def yx (n:Nat)(q size chain:Int):Prop:=n<=131072/\0<=q/\q<=(n:Int)/\1<=size/\size<=32768/\0<=chain/\chain<=256
def qx {b:Z4}{n:Nat}{q size chain:Int}(h:yx n q size chain):(eo b n q size chain=0\/eo b n q size chain=6)/\mi b n q size chain=(bestG b q.toNat size q.toNat chain 0 0).2:=by
 unfold yx at h;have h2:¬uz n q size chain:=by unfold uz;omega
 have e:eo b n q size chain=if(bestG b q.toNat size q.toNat chain 0 0).2=0 then 6 else 0:=by rw[eo,ZE om,ZE h2]
 constructor
 ·rw[e];split<;>simp
 ·unfold mi
  by_cases h3:(bestG b q.toNat size q.toNat chain 0 0).2=0
  ·rw[ZF h3]at e;rw[ZE (by rw[e];decide),h3]
  ·rw[ZE h3]at e;rw[ZF e]
end Vm
end Go.Proofs.YtefjnofhgkjpmaaGreat
namespace Go.Proofs.YtefjnofhgkjpmaaGreat
open Go.RowKit Go.Bw Go.Vx Vm
open List (length getD map take drop flatMap replicate)
namespace Vt
def py(h:p:=by(simp only[K3];(repeat' (first|(refine aA ?_ ?_)|(with_reducible rfl)|(refine decide_eq_true ?_)|(refine We ?_)|(refine dg ?_)))<;>(omega))):=h
def uC(h:p:=by(refine decide_eq_false ?_;(omega))):=h
def uE(h:p:=by(refine aF ?_;(omega))):=h
def uF(h:p:=by(rw[Wc,W7];(omega))):=h
def uG(h:p:=by(have h9:=best_bd b i size chain om;omega)):=h
def Al(h:p:=by(refine Hc ?_;rw[Bool.eq_iff_iff,mayS_iff];simp;omega)):=h
def Am(h:p:=by(refine ku ?_;simp only[Wx];rfl)):=h
def An(h:p:=by show n-(i+1)<n-i;clear ZB ZD;omega):=h
def CC(h:p:=by((refine aA ?_ ?_)<;>(repeat' (first|(refine aA ?_ ?_)|(with_reducible rfl)|(refine decide_eq_true ?_)|(refine We ?_)|(refine dg ?_)))<;>(omega))):=h
def FZ(h:p:=by(rw[CG om,Xn]at hr;rw[hr])):=h
def CD(h:p:=by(have h9:=best_bd b i size chain om;exact nk hr om (.inl om))):=h
def IP(h:p:=by(refine aF ?_;have h9:=best_bd b i size chain om;omega)):=h
def IQ(h:p:=by show n-(i+zL (Wg (bestG b i size i chain 0 0)))<n-i;clear ZB ZD;(have h9:=best_bd b i size chain om;omega)):=h
def IR(h:p:=by(refine decide_eq_true ?_;have h9:=best_bd b i size chain om;omega)):=h
def IS(h:p:=by show n-(i+zL (Wg (bestG b i size i chain 0 0)))<n-i;clear ZB ZD;omega):=h
open Vm (bestG jJ eo mi qw aW kO kN i8 qx yx lG)
def mayS (size chain most:Int):Bool:=Ao (1<=size)&&Ao (size<=32768)&&Ao (0<=chain)&&Ao (chain<=256)&&Ao (1<=most)&&Ao (most<=65535)
def mayS_iff {size chain most:Int}:mayS size chain most=Ga↔1<=size/\size<=32768/\0<=chain/\chain<=256/\1<=most/\most<=65535:=by
 unfold mayS;simp[and_assoc]
abbrev CE (size chain most:Int)(lazy:Bool):D:=.agg [iD size,iD chain,iD most,.v (.bool lazy)]
def mayS_r (size chain most:Int)(lazy:Bool):S0 32 [CE size chain most lazy] [] (.v (.bool (mayS size chain most))) []:=SpR Tryz.func32 rfl rfl rfl trivial rfl 1000 64 (λ R ok=>.B 13 (1<=size) (λ p0 Z9=>.B 12 (size<=32768) (λ p1 Z8=>.B 12 (0<=chain) (λ p2 Z7=>.B 12 (chain<=256) (λ p3 Z6=>.B 12 (1<=most) (λ p4 Z5=>.U 11 [] [] (D.v (.bool (Ao (most<=65535)))) [] R (ok _ _ Al wr)) (λ p4 Z5=>.U 6 [] [] (D.v (.bool Gd)) [] R (ok _ _ Al wr))) (λ p3 Z6=>.U 14 [] [] (D.v (.bool Gd)) [] R (ok _ _ Al wr))) (λ p2 Z7=>.U 22 [] [] (D.v (.bool Gd)) [] R (ok _ _ Al wr))) (λ p1 Z8=>.U 30 [] [] (D.v (.bool Gd)) [] R (ok _ _ Al wr))) (λ p0 Z9=>.U 38 [] [] (D.v (.bool Gd)) [] R (ok _ _ Al wr))) kr
def sty_t0 (size chain most:Int)(lazy:Bool)(hm:mayS size chain most=Ga):S0 29 [CE size chain most lazy] [] (iD 0) []:=by
 have hm2:=mayS_iff.1 hm;refine SpR Tryz.func29 rfl rfl rfl trivial rfl 1000 64 (λ R ok=>.F 13 (Ao (size<1)) uC<|.F 12 (Ao (32768<size)) uC<|.F 12 (Ao (chain<0)) uC<|.F 12 (Ao (256<chain)) uC<|.F 12 (Ao (most<1)) uC<|.F 10 (Ao (65535<most)) uC<|.Y 1 [] [] (zI 0) [] ok) kr
def sty_t8 (size chain most:Int)(lazy:Bool)(hm:mayS size chain most=Gd):S0 29 [CE size chain most lazy] [] (iD 8) []:=by
 have hm2:=mt mayS_iff.2 (by rw[hm];decide);refine SpR Tryz.func29 rfl rfl rfl trivial rfl 1000 64 (λ R ok=>.B 13 (size<1) (λ p0 Z9=>.Y 39 [] [] (zI 8) [] ok) (λ p0 Z9=>.B 12 (32768<size) (λ p1 Z8=>.Y 31 [] [] (zI 8) [] ok) (λ p1 Z8=>.B 12 (chain<0) (λ p2 Z7=>.Y 23 [] [] (zI 8) [] ok) (λ p2 Z7=>.B 12 (256<chain) (λ p3 Z6=>.Y 15 [] [] (zI 8) [] ok) (λ p3 Z6=>.B 12 (most<1) (λ p4 Z5=>.Y 7 [] [] (zI 8) [] ok) (λ p4 Z5=>.E 10 (Ao (65535<most)) (by(refine decide_eq_true ?_;(omega)))<|.Y 1 [] [] (zI 8) [] ok)))))) kr
def lI (b:Z4)(size chain:Int)(lazy:Bool)(i:Nat):Int:=if lazy=Ga/\i+1<b.length then(bestG b (i+1) size (i+1) chain 0 0).2 else 0
def tokAt (b:Z4)(size chain:Int)(lazy:Bool)(i:Nat):Tok:=
 if(bestG b i size i chain 0 0).2=0\/(bestG b i size i chain 0 0).2<lI b size chain lazy i then⟨b.getD i lb,0,0⟩else⟨0,(bestG b i size i chain 0 0).1,(bestG b i size i chain 0 0).2⟩
def pz (t:Tok):Nat:=if t.long=0 then 1 else t.long.toNat
def cutK (b:Z4)(size chain:Int)(lazy:Bool):Nat->Nat->List Tok
 |0,_=>[]
 |k+1,i=>if i<b.length then tokAt b size chain lazy i::cutK b size chain lazy k (i+pz (tokAt b size chain lazy i))else[]
def cutG (b:Z4)(size chain:Int)(lazy:Bool)(i:Nat):List Tok:=cutK b size chain lazy (b.length-i) i
def best_bd (b:Z4)(i:Nat)(size chain:Int)(hi:i<=b.length):0<=(bestG b i size i chain 0 0).2/\(bestG b i size i chain 0 0).2<=258/\(i:Int)+(bestG b i size i chain 0 0).2<=b.length/\0<=(bestG b i size i chain 0 0).1/\(bestG b i size i chain 0 0).1<=i/\((bestG b i size i chain 0 0).2=0->(bestG b i size i chain 0 0).1=0)/\((bestG b i size i chain 0 0).2≠0->3<=(bestG b i size i chain 0 0).2/\1<=(bestG b i size i chain 0 0).1/\(bestG b i size i chain 0 0).1<=size):=by
 rcases i8 b i size i chain 0 0 with h|⟨j,h1,h2,h3,h4,h5⟩
 ·rw[h];simp;omega
 ·rw[h2,h3]
  have:=kO b i j;have:=kN b 258 i j hi;omega
def oV (b:Z4)(size chain:Int)(lazy:Bool)(i:Nat)(hi:i<b.length):1<=pz (tokAt b size chain lazy i)/\i+pz (tokAt b size chain lazy i)<=b.length:=by
 have h:=best_bd b i size chain om;unfold tokAt
 split
 ·unfold pz;simp;omega
 ·next e=>
  unfold pz;dsimp only;rw[ZE (λ q=>e (.inl q))];omega
def qy (b:Z4)(size chain:Int)(lazy:Bool):∀(k m i:Nat),b.length-i<=k->b.length-i<=m->cutK b size chain lazy k i=cutK b size chain lazy m i
 |0,0,i,_,_=>rfl
 |0,m+1,i,h,_=>by rw[cutK,cutK,ZE om]
 |k+1,0,i,_,h=>by rw[cutK,cutK,ZE om]
 |k+1,m+1,i,h1,h2=>by
  rw[cutK,cutK]
  split
  ·next hi=>
   have:=oV b size chain lazy i hi;rw[qy b size chain lazy k m _ om om]
  ·rfl
def CG {b:Z4}{size chain:Int}{lazy:Bool}{i:Nat}(h:b.length<=i):cutG b size chain lazy i=[]:=by
 unfold cutG;rw[show b.length-i=0 from by omega];rfl
def qz {b:Z4}{size chain:Int}{lazy:Bool}{i:Nat}(h:i<b.length):cutG b size chain lazy i=tokAt b size chain lazy i::cutG b size chain lazy (i+pz (tokAt b size chain lazy i)):=by
 unfold cutG;have:=oV b size chain lazy i h;rw[show b.length-i=(b.length-i-1)+1 from by omega,cutK,ZF h,qy b size chain lazy (b.length-i-1) (b.length-(i+pz (tokAt b size chain lazy i))) _ om om]
def uH (b:Z4)(size chain:Int)(lazy:Bool):∀k i:Nat,(cutK b size chain lazy k i).length<=b.length-i
 |0,i=>by simp[cutK]
 |k+1,i=>by
  rw[cutK]
  split
  ·next h=>
   have h1:=uH b size chain lazy k (i+pz (tokAt b size chain lazy i));have h2:=oV b size chain lazy i h;rw[WQ];omega
  ·simp
def cutG_len (b:Z4)(size chain:Int)(lazy:Bool)(i:Nat):(cutG b size chain lazy i).length<=b.length-i:=uH b size chain lazy _ i
def nk {b:Z4}{size chain:Int}{lazy:Bool}{i:Nat}{c R:List Tok}(hr:c++cutG b size chain lazy i=R)(h:i<b.length)(e:(bestG b i size i chain 0 0).2=0\/(bestG b i size i chain 0 0).2<lI b size chain lazy i):(c++[⟨b.getD i lb,0,0⟩])++cutG b size chain lazy (i+1)=R:=by
 rw[qz h,tokAt,ZF e,pz,ZF rfl]at hr;rw[WI];exact hr
def kP {b:Z4}{size chain:Int}{lazy:Bool}{i j:Nat}{c R:List Tok}(hr:c++cutG b size chain lazy i=R)(h:i<b.length)(e:¬((bestG b i size i chain 0 0).2=0\/(bestG b i size i chain 0 0).2<lI b size chain lazy i))(hj:(j:Int)=i+(bestG b i size i chain 0 0).2):(c++[⟨0,(bestG b i size i chain 0 0).1,(bestG b i size i chain 0 0).2⟩])++cutG b size chain lazy j=R:=by
 have hb:=best_bd b i size chain om;rw[qz h,tokAt,ZE e,pz,ZE (λ q=>e (.inl q)),show i+(bestG b i size i chain 0 0).2.toNat=j from by omega]at hr;rw[WI];exact hr
def rU {b:Z4}{size chain:Int}{lazy:Bool}{i:Nat}(h:lazy=Ga)(h2:i+1<b.length):lI b size chain lazy i=(bestG b (i+1) size (i+1) chain 0 0).2:=ZF ⟨h,h2⟩
def yz {b:Z4}{size chain:Int}{lazy:Bool}{i:Nat}(h:lazy=Ga)(h2:i+1<b.length):lI b size chain lazy i=(bestG b ((i:Int)+1).toNat size ((i:Int)+1).toNat chain 0 0).2:=by
 rw[rU h h2,show((i:Int)+1).toNat=i+1 from by omega]
def yA {b:Z4}{size chain:Int}{lazy:Bool}{i:Nat}(h:lazy=Gd\/b.length<=i+1):lI b size chain lazy i=0:=ZE (by
 rintro⟨h1,h2⟩;rcases h with h|h
 ·rw[h]at h1;cases h1
 ·omega)
def K3 (l:List Tok):(l.flatMap tokD).length=l.length*3:=bg (f:=tokD) (k:=3) (λ _=>rfl) l
def Cuts (b:Z4)(n:Nat)(size chain most:Int)(lazy:Bool)(hn:n=b.length)(hN:n<=131072)(hs:1<=size/\size<=32768)(hc:0<=chain/\chain<=256)(q:Nat)(hq:q<=n):S0 76 [.sl Gd n 1 (b.map dB),iD q,CE size chain most lazy] [] (.ref 0 0 0 (cutG b size chain lazy q).length 3) [⟨(cutG b size chain lazy q).flatMap tokD, 119,Ga⟩]:=SpR Tryz.func76 rfl rfl rfl ⟨cV (λ _=>rfl) _,trivial⟩ rfl 1000 64 (λ R ok=>.s 6<|.nils 7 40 3 119<|BY T_ok ae Gd 74 0 (am CK 76 0) (λ(x:(i:Nat)×'(hi:i<=n)×'(c:List Tok)×'(hr:c++cutG b size chain lazy i=cutG b size chain lazy q)×'(hb:c.length<=i)×'Unit)=>match x with|⟨i,hi,c,hr,hb,_⟩=>Wr [(0,Wu Gd n 1 (wo dB b)),(5,WA 0 0 0),(7,(Wb 8 8 (0) (c.length) 3)),(8,iD (i:Nat))] [⟨0,0,0,0,.b ⟨[zI size,zI chain,zI most,D.v (.bool lazy)],23,Gd⟩⟩,⟨8,8,40,40,.b ⟨c.flatMap tokD,119,Ga⟩⟩] 16) (λ(x:(i:Nat)×'(hi:i<=n)×'(c:List Tok)×'(hr:c++cutG b size chain lazy i=cutG b size chain lazy q)×'(hb:c.length<=i)×'Unit)=>match x with|⟨i,hi,c,hr,hb,_⟩=>n-i) [⟨Unit,.exit 0,λ()=>Wr [(0,Wu Gd n 1 (wo dB b)),(5,WA 0 0 0),(7,(Wb 8 8 (0) ((cutG b size chain lazy q).length) 3))] [⟨0,0,0,0,.b ⟨[zI size,zI chain,zI most,D.v (.bool lazy)],23,Gd⟩⟩,⟨8,8,40,40,.b ⟨(cutG b size chain lazy q).flatMap tokD,119,Ga⟩⟩] 16⟩] 1000 64 (fun|⟨i,hi,c,hr,hb,_⟩,Q,ZB,ZD=>.B 5 ((i:Int)<n) (λ p0 Z9=>.C 15 97 Gd [] (.fn Vl (@Go.Proofs.YtefjnofhgkjpmaaGreat.Vm.BestX (b) (n) ((i:Int)) (size) (chain) om om om om om))<|.R 16 (lazy) (λ p1=>.W 3 (i+1)<|.B 8 ((i:Int)+1<n) (λ p2 Z7=>.W 4 (i+1)<|.C 13 97 Gd [] (.fn Vl (@Go.Proofs.YtefjnofhgkjpmaaGreat.Vm.BestX (b) (n) ((i:Int)+1) (size) (chain) om om om om om))<|.R 11 (Wg (bestG b i size i chain 0 0)==0) (λ p3=>have Z6:=eq_of_beq p3;.K 10 (Ga&&Ao ((i:Int)<n)&&Ga) CC<|.O 2 ((wo dB b)[i*1]?) (dB (wm b (i*1) lb)) (aj _ _ om)<|.K 5 (Ga&&V9 (v0 c*3) (v0 (v8 tokD c))&&Ga&&Ga&&Ga&&Ga&&Wf ((v0 c+1)*24) 140737488355328) py<|.W 4 (i+1)<|.V 1 7 (Wb 432 432 0 (v0 c+1) 3) (Wb 432 432 0 (v0 (c++[Tok.mk (wm b i lb) 0 0])) 3) (by(simp;done))<|.val 8 (zI (i+1)) (zN (i+1)) uE<|.blk 432 432 (V8 (v8 tokD c++[cK (V7 (wm b (i*1) lb)),zI 0,zI 0]) 119 Ga) (V8 (v8 tokD (c++[Tok.mk (wm b i lb) 0 0])) 119 Ga) Am<|Aw ZB ⟨(i+1),om,(c++[⟨b.getD i lb,0,0⟩]),CD,uF,⟨⟩⟩ An [(0,0),(432,432)] ro) (λ p3=>have Z6:=ak p3;.B 6 (Wg (bestG b i size i chain 0 0)<Wg (bestG b (zL ((i:Int)+1)) size (zL ((i:Int)+1)) chain 0 0)) (λ p4 Z5=>.K 4 (Ga&&Ao ((i:Int)<n)&&Ga) CC<|.O 2 ((wo dB b)[i*1]?) (dB (wm b (i*1) lb)) (aj _ _ om)<|.K 5 (Ga&&V9 (v0 c*3) (v0 (v8 tokD c))&&Ga&&Ga&&Ga&&Ga&&Wf ((v0 c+1)*24) 140737488355328) py<|.W 4 (i+1)<|.V 1 7 (Wb 432 432 0 (v0 c+1) 3) (Wb 432 432 0 (v0 (c++[Tok.mk (wm b i lb) 0 0])) 3) (by(simp;done))<|.val 8 (zI (i+1)) (zN (i+1)) uE<|.blk 432 432 (V8 (v8 tokD c++[cK (V7 (wm b (i*1) lb)),zI 0,zI 0]) 119 Ga) (V8 (v8 tokD (c++[Tok.mk (wm b i lb) 0 0])) 119 Ga) Am<|Aw ZB ⟨(i+1),om,(c++[⟨b.getD i lb,0,0⟩]),(by(have h8:=yz (size:=size) (chain:=chain) (lazy:=lazy) (i:=i) aG (show i+1<b.length by omega);exact nk hr om (.inr om))),uF,⟨⟩⟩ An [(0,0),(432,432)] ro) (λ p4 Z5=>.K 8 (Ga&&V9 (v0 c*3) (v0 (v8 tokD c))&&Ga&&Ga&&Ga&&Ga&&Wf ((v0 c+1)*24) 140737488355328) py<|.I 5 (i+Wg (bestG b i size i chain 0 0)) uG<|.V 1 7 (Wb 416 416 0 (v0 c+1) 3) (Wb 416 416 0 (v0 (c++[Tok.mk 0 (Wz (bestG b i size i chain 0 0)) (Wg (bestG b i size i chain 0 0))])) 3) (by(simp;done))<|.val 8 (zI (i+Wg (bestG b i size i chain 0 0))) (zN (i+zL (Wg (bestG b i size i chain 0 0)))) IP<|.blk 416 416 (V8 (v8 tokD c++[bI 0,zI (Wz (bestG b i size i chain 0 0)),zI (Wg (bestG b i size i chain 0 0))]) 119 Ga) (V8 (v8 tokD (c++[Tok.mk 0 (Wz (bestG b i size i chain 0 0)) (Wg (bestG b i size i chain 0 0))])) 119 Ga) (by(exact ku rfl))<|Aw ZB ⟨(i+(bestG b i size i chain 0 0).2.toNat),uG,(c++[⟨0,(bestG b i size i chain 0 0).1,(bestG b i size i chain 0 0).2⟩]),(by(have h8:=yz (size:=size) (chain:=chain) (lazy:=lazy) (i:=i) aG (show i+1<b.length by omega);have h9:=best_bd b i size chain om;exact kP hr om om om)),(by(simp;have h9:=best_bd b i size chain om;omega)),⟨⟩⟩ IQ [(0,0),(416,416)] ro))) (λ p2 Z7=>.E 5 (Wg (bestG b i size i chain 0 0)==0) IR<|.K 10 (Ga&&Ao ((i:Int)<n)&&Ga) CC<|.O 2 ((wo dB b)[i*1]?) (dB (wm b (i*1) lb)) (aj _ _ om)<|.K 5 (Ga&&V9 (v0 c*3) (v0 (v8 tokD c))&&Ga&&Ga&&Ga&&Ga&&Wf ((v0 c+1)*24) 140737488355328) py<|.W 4 (i+1)<|.V 1 7 (Wb 336 336 0 (v0 c+1) 3) (Wb 336 336 0 (v0 (c++[Tok.mk (wm b i lb) 0 0])) 3) (by(simp;done))<|.val 8 (zI (i+1)) (zN (i+1)) uE<|.blk 336 336 (V8 (v8 tokD c++[cK (V7 (wm b (i*1) lb)),zI 0,zI 0]) 119 Ga) (V8 (v8 tokD (c++[Tok.mk (wm b i lb) 0 0])) 119 Ga) Am<|Aw ZB ⟨(i+1),om,(c++[⟨b.getD i lb,0,0⟩]),CD,uF,⟨⟩⟩ An [(0,0),(336,336)] ro)) (λ p1=>.R 15 (Wg (bestG b i size i chain 0 0)==0) (λ p5=>have p5f:=eq_of_beq p5;.K 10 (Ga&&Ao ((i:Int)<n)&&Ga) CC<|.O 2 ((wo dB b)[i*1]?) (dB (wm b (i*1) lb)) (aj _ _ om)<|.K 5 (Ga&&V9 (v0 c*3) (v0 (v8 tokD c))&&Ga&&Ga&&Ga&&Ga&&Wf ((v0 c+1)*24) 140737488355328) py<|.W 4 (i+1)<|.V 1 7 (Wb 336 336 0 (v0 c+1) 3) (Wb 336 336 0 (v0 (c++[Tok.mk (wm b i lb) 0 0])) 3) (by(simp;done))<|.val 8 (zI (i+1)) (zN (i+1)) uE<|.blk 336 336 (V8 (v8 tokD c++[cK (V7 (wm b (i*1) lb)),zI 0,zI 0]) 119 Ga) (V8 (v8 tokD (c++[Tok.mk (wm b i lb) 0 0])) 119 Ga) Am<|Aw ZB ⟨(i+1),om,(c++[⟨b.getD i lb,0,0⟩]),CD,uF,⟨⟩⟩ An [(0,0),(336,336)] ro) (λ p5=>have p5f:=ak p5;.F 6 (Ao (Wg (bestG b i size i chain 0 0)<0)) (by(refine decide_eq_false ?_;have h9:=best_bd b i size chain om;omega))<|.K 8 (Ga&&V9 (v0 c*3) (v0 (v8 tokD c))&&Ga&&Ga&&Ga&&Ga&&Wf ((v0 c+1)*24) 140737488355328) py<|.I 5 (i+Wg (bestG b i size i chain 0 0)) uG<|.V 1 7 (Wb 320 320 0 (v0 c+1) 3) (Wb 320 320 0 (v0 (c++[Tok.mk 0 (Wz (bestG b i size i chain 0 0)) (Wg (bestG b i size i chain 0 0))])) 3) (by(simp;done))<|.val 8 (zI (i+Wg (bestG b i size i chain 0 0))) (zN (i+zL (Wg (bestG b i size i chain 0 0)))) IP<|.blk 320 320 (V8 (v8 tokD c++[bI 0,zI (Wz (bestG b i size i chain 0 0)),zI (Wg (bestG b i size i chain 0 0))]) 119 Ga) (V8 (v8 tokD (c++[Tok.mk 0 (Wz (bestG b i size i chain 0 0)) (Wg (bestG b i size i chain 0 0))])) 119 Ga) (by(exact ku rfl))<|Aw ZB ⟨(i+(bestG b i size i chain 0 0).2.toNat),uG,(c++[⟨0,(bestG b i size i chain 0 0).1,(bestG b i size i chain 0 0).2⟩]),(by(have h8:=yA (b:=b) (size:=size) (chain:=chain) (lazy:=lazy) (i:=i) (.inl aG);have h9:=best_bd b i size chain om;exact kP hr om om om)),(by(simp;have h9:=best_bd b i size chain om;omega)),⟨⟩⟩ IQ [(0,0),(320,320)] ro))) (λ p0 Z9=>.val 7 (Wb 8 8 0 (v0 c) 3) (Wb 8 8 0 (v0 (cutG b size chain lazy q)) 3) FZ<|.blk 8 8 (V8 (v8 tokD c) 119 Ga) (V8 (v8 tokD (cutG b size chain lazy q)) 119 Ga) FZ<|BO ZD 0 (():Unit) rfl [(0,0),(8,8)] ro)) (fun|⟨i,hi,c,hr,hb,_⟩=>by kernel_rfl) ⟨(q),om,([]),(by(simp;done)),(by(simp;done)),⟨⟩⟩ [(0,0),(40,40)] ro (bB (fun|()=>.Y 2 [8] [8] (Wb 0 0 0 (v0 (cutG b size chain lazy q)) 3) [V8 (v8 tokD (cutG b size chain lazy q)) 119 Ga] ok))) kr
def uJ {b:Z4}{n i:Nat}{size chain:Int}(hn:n=b.length)(h:n<=131072)(hi:i<=n)(hs:1<=size/\size<=32768)(hc:0<=chain/\chain<=256):mi b n i size chain=(bestG b i size i chain 0 0).2/\qw b n i size chain=(bestG b i size i chain 0 0).1:=by
 have g:=qx (b:=b) (n:=n) (q:=i) (size:=size) (chain:=chain) (by unfold yx;omega);simp only[Ya]at g;refine⟨g.2,?_⟩
 by_cases e:eo b n i size chain=0
 ·exact ZF e
 ·have h0:=(lG e).2
  have hb:=best_bd b i size chain om;rw[(lG e).1,hb.2.2.2.2.2.1 (by rw[<-g.2,h0])]
def FindTok (b:Z4)(n i:Nat)(size chain:Int)(hn:n=b.length)(h:n<=131072)(hi:i<=n)(hs:1<=size/\size<=32768)(hc:0<=chain/\chain<=256):S0 117 [.sl Gd n 1 (b.map dB),iD i,iD size,iD chain] [] (.tup [iD (bestG b i size i chain 0 0).1,iD (bestG b i size i chain 0 0).2,iD (eo b n i size chain)]) []:=by
 have h2:=Ui b n i size chain hn om om om om;unfold jJ at h2;rw[(uJ hn h hi hs hc).1,(uJ hn h hi hs hc).2]at h2;exact h2
def FindTok1 (b:Z4)(n i:Nat)(size chain:Int)(hn:n=b.length)(h:n<=131072)(hi:i+1<=n)(hs:1<=size/\size<=32768)(hc:0<=chain/\chain<=256):S0 117 [.sl Gd n 1 (b.map dB),iD ((i:Int)+1),iD size,iD chain] [] (.tup [iD (bestG b (i+1) size (i+1) chain 0 0).1,iD (bestG b (i+1) size (i+1) chain 0 0).2,iD (eo b n ((i:Int)+1) size chain)]) []:=FindTok b n (i+1) size chain hn h hi hs hc
def Cut_ok (b:Z4)(n:Nat)(size chain most q:Int)(lazy:Bool)(hn:n=b.length)(hN:n<=1000000)(hq:-9223372036854775808<=q/\q<=9223372036854775807)(hm:mayS size chain most=Ga)(h:n<=131072/\0<=q/\q<=n):S0 67 [.sl Gd n 1 (b.map dB),iD q,CE size chain most lazy] [] (.tup [.ref 0 0 0 (cutG b size chain lazy q.toNat).length 3,iD 0]) [⟨(cutG b size chain lazy q.toNat).flatMap tokD, 119,Ga⟩]:=by
 have hm2:=mayS_iff.1 hm;obtain⟨k,rfl⟩:=Xd h.2.1;simp only[Ya];refine SpR Tryz.func67 rfl rfl rfl ⟨cV (λ _=>rfl) _,trivial⟩ rfl 1000 64 (λ R ok=>.C 10 29 Gd [] (.fn NC (@Go.Proofs.YtefjnofhgkjpmaaGreat.Vt.sty_t0 (size) (chain) (most) (lazy) om))<|.F 9 (Ao (131072<(n:Int))) uC<|.F 14 (Ao ((n:Int)<k)) uC<|.s 27<|.nilc 8 8 (V8 [zS] 82 Gd) 0 312 3 119<|BY T_ok ae Gd 55 296 (am Tryz.prog 118 0) (λ(x:(i:Nat)×'(hi:i<=n)×'(c:List Tok)×'(hr:c++cutG b size chain lazy i=cutG b size chain lazy k)×'(hb:c.length<=i)×'Unit)=>match x with|⟨i,hi,c,hr,hb,_⟩=>Wr [(0,D.yl 288 288),(2,WA 184 184 0),(3,WA 224 224 0),(4,WA 200 200 0),(6,iD (i:Nat))] [⟨0,0,0,0,.b ⟨[zI size,zI chain,zI most,D.v (.bool lazy)],23,Gd⟩⟩,⟨8,8,8,8,.b ⟨[(Wb 352 352 (0) (c.length) 3)],82,Gd⟩⟩,⟨184,184,184,184,.b ⟨[Wu Gd n 1 (wo dB b)],24,Gd⟩⟩,⟨192,192,192,192,.b ⟨[zN k],3,Gd⟩⟩,⟨200,200,200,200,.b ⟨[zI size,zI chain,zI most,D.v (.bool lazy)],23,Gd⟩⟩,⟨224,224,224,224,.b ⟨[Yd (Xi 116) [] [WA 184 184 0,WA 200 200 0]],196,Gd⟩⟩,⟨288,288,288,288,.l Y4 z9 (rangeAt Tryz.prog 67 0).1 (rangeAt Tryz.prog 67 0).2.1 (rangeAt Tryz.prog 67 0).2.2 36 [(0,Wu Gd n 1 (wo dB b)),(1,zN k),(7,zI 0),(15,Wu Gd n 1 (wo dB b)),(23,zN n),(11,zI 0),(19,D.v (.bool Gd)),(27,zN k),(5,WA 0 0 0),(17,D.v (.bool Gd)),(25,D.v (.bool Gd)),(13,D.v (.bool Gd)),(21,zN k),(29,Yd (Xi 118) [] [WA 192 192 0,WA 184 184 0,WA 224 224 0,WA 200 200 0]),(2,W6 [zI size,zI chain,zI most,D.v (.bool lazy)]),(8,zI 0),(16,zN n),(24,D.v (.bool (Ao ((n:Int)<k)))),(12,zI 0),(20,D.v (.bool Gd)),(28,W6 [zI size,zI chain,zI most,D.v (.bool lazy)]),(6,WA 8 8 0),(10,W6 [zI size,zI chain,zI most,D.v (.bool lazy)]),(18,zN k),(26,Wu Gd n 1 (wo dB b)),(22,Wu Gd n 1 (wo dB b))]⟩,⟨352,352,312,312,.b ⟨c.flatMap tokD,119,Ga⟩⟩] 360) (λ(x:(i:Nat)×'(hi:i<=n)×'(c:List Tok)×'(hr:c++cutG b size chain lazy i=cutG b size chain lazy k)×'(hb:c.length<=i)×'Unit)=>match x with|⟨i,hi,c,hr,hb,_⟩=>n-i) [⟨Unit,.exit 0,λ()=>Wr [(0,D.yl 288 288),(2,WA 184 184 0),(3,WA 224 224 0),(4,WA 200 200 0)] [⟨0,0,0,0,.b ⟨[zI size,zI chain,zI most,D.v (.bool lazy)],23,Gd⟩⟩,⟨8,8,8,8,.b ⟨[(Wb 352 352 (0) ((cutG b size chain lazy k).length) 3)],82,Gd⟩⟩,⟨184,184,184,184,.b ⟨[Wu Gd n 1 (wo dB b)],24,Gd⟩⟩,⟨192,192,192,192,.b ⟨[zN k],3,Gd⟩⟩,⟨200,200,200,200,.b ⟨[zI size,zI chain,zI most,D.v (.bool lazy)],23,Gd⟩⟩,⟨224,224,224,224,.b ⟨[Yd (Xi 116) [] [WA 184 184 0,WA 200 200 0]],196,Gd⟩⟩,⟨288,288,288,288,.l Y4 z9 (rangeAt Tryz.prog 67 0).1 (rangeAt Tryz.prog 67 0).2.1 (rangeAt Tryz.prog 67 0).2.2 36 [(0,Wu Gd n 1 (wo dB b)),(1,zN k),(7,zI 0),(15,Wu Gd n 1 (wo dB b)),(23,zN n),(11,zI 0),(19,D.v (.bool Gd)),(27,zN k),(5,WA 0 0 0),(17,D.v (.bool Gd)),(25,D.v (.bool Gd)),(13,D.v (.bool Gd)),(21,zN k),(29,Yd (Xi 118) [] [WA 192 192 0,WA 184 184 0,WA 224 224 0,WA 200 200 0]),(2,W6 [zI size,zI chain,zI most,D.v (.bool lazy)]),(8,zI 0),(16,zN n),(24,D.v (.bool (Ao ((n:Int)<k)))),(12,zI 0),(20,D.v (.bool Gd)),(28,W6 [zI size,zI chain,zI most,D.v (.bool lazy)]),(6,WA 8 8 0),(10,W6 [zI size,zI chain,zI most,D.v (.bool lazy)]),(18,zN k),(26,Wu Gd n 1 (wo dB b)),(22,Wu Gd n 1 (wo dB b))]⟩,⟨352,352,312,312,.b ⟨(cutG b size chain lazy k).flatMap tokD,119,Ga⟩⟩] 360⟩] 1000 64 (fun|⟨i,hi,c,hr,hb,_⟩,Q,ZB,ZD=>.B 7 ((i:Int)<n) (λ p0 Z9=>.K 5 (Ga&&Ao ((i:Int)<n)&&Ga) CC<|.O 2 ((wo dB b)[i*1]?) (dB (wm b (i*1) lb)) (aj _ _ om)<|.W 10 (i+1)<|.E 16 (Ao ((i:Int)<n)) p0<|.C 17 117 Gd [] (.fn NG (@Go.Proofs.YtefjnofhgkjpmaaGreat.Vt.FindTok (b) (n) (i) (size) (chain) om om om om om))<|.B 23 (0<Wg (bestG b i size i chain 0 0)) (λ p1 Z8=>.R 7 (lazy) (λ p2=>.W 6 (i+1)<|.E 11 (Ao ((i:Int)+1<n)) IR<|.C 17 117 Gd [] (.fn NG (@Go.Proofs.YtefjnofhgkjpmaaGreat.Vt.FindTok1 (b) (n) (i) (size) (chain) om om om om om))<|.B 23 (Wg (bestG b (i+1) size (i+1) chain 0 0)<=Wg (bestG b i size i chain 0 0)) (λ p3 Z6=>.I 8 (i+Wg (bestG b i size i chain 0 0)) uG<|.K 25 (Ga&&V9 (v0 c*3) (v0 (v8 tokD c))&&Ga&&Ga&&Ga&&Ga&&Wf ((v0 c+1)*24) 140737488355328) py<|.V 7 6 (zI (i+Wg (bestG b i size i chain 0 0))) (zN (i+zL (Wg (bestG b i size i chain 0 0)))) uE<|.blk 8 8 (V8 [Wb 1216 1216 0 (v0 c+1) 3] 82 Gd) (V8 [Wb 1216 1216 0 (v0 (c++[Tok.mk 0 (Wz (bestG b i size i chain 0 0)) (Wg (bestG b i size i chain 0 0))])) 3] 82 Gd) (by(simp;done))<|.blk 1216 1216 (V8 (v8 tokD c++[bI 0,zI (Wz (bestG b i size i chain 0 0)),zI (Wg (bestG b i size i chain 0 0))]) 119 Ga) (V8 (v8 tokD (c++[Tok.mk 0 (Wz (bestG b i size i chain 0 0)) (Wg (bestG b i size i chain 0 0))])) 119 Ga) (by(exact ku rfl))<|Aw ZB ⟨(i+(bestG b i size i chain 0 0).2.toNat),uG,(c++[⟨0,(bestG b i size i chain 0 0).1,(bestG b i size i chain 0 0).2⟩]),(by(have h9:=best_bd b i size chain om;have h8:=rU (size:=size) (chain:=chain) (lazy:=lazy) (i:=i) aG (show i+1<b.length by omega);exact kP hr om om om)),uF,⟨⟩⟩ IS [(0,0),(8,8),(184,184),(192,192),(200,200),(224,224),(288,288),(1216,1216)] ro) (λ p3 Z6=>.K 21 (Ga&&V9 (v0 c*3) (v0 (v8 tokD c))&&Ga&&Ga&&Ga&&Ga&&Wf ((v0 c+1)*24) 140737488355328) py<|.V 7 6 (zI (i+1)) (zN (i+1)) uE<|.blk 8 8 (V8 [Wb 1152 1152 0 (v0 c+1) 3] 82 Gd) (V8 [Wb 1152 1152 0 (v0 (c++[Tok.mk (wm b i lb) 0 0])) 3] 82 Gd) (by(simp;done))<|.blk 1152 1152 (V8 (v8 tokD c++[cK (V7 (wm b (i*1) lb)),zI 0,zI 0]) 119 Ga) (V8 (v8 tokD (c++[Tok.mk (wm b i lb) 0 0])) 119 Ga) Am<|Aw ZB ⟨(i+1),om,(c++[⟨b.getD i lb,0,0⟩]),(by(have h9:=best_bd b i size chain om;have h8:=rU (size:=size) (chain:=chain) (lazy:=lazy) (i:=i) aG (show i+1<b.length by omega);exact nk hr om om)),uF,⟨⟩⟩ An [(0,0),(8,8),(184,184),(192,192),(200,200),(224,224),(288,288),(1152,1152)] ro)) (λ p2=>.E 4 (Ao (0<=Wg (bestG b i size i chain 0 0))) (by(refine decide_eq_true ?_;(omega)))<|.I 8 (i+Wg (bestG b i size i chain 0 0)) uG<|.K 25 (Ga&&V9 (v0 c*3) (v0 (v8 tokD c))&&Ga&&Ga&&Ga&&Ga&&Wf ((v0 c+1)*24) 140737488355328) py<|.V 7 6 (zI (i+Wg (bestG b i size i chain 0 0))) (zN (i+zL (Wg (bestG b i size i chain 0 0)))) uE<|.blk 8 8 (V8 [Wb 936 936 0 (v0 c+1) 3] 82 Gd) (V8 [Wb 936 936 0 (v0 (c++[Tok.mk 0 (Wz (bestG b i size i chain 0 0)) (Wg (bestG b i size i chain 0 0))])) 3] 82 Gd) (by(simp;done))<|.blk 936 936 (V8 (v8 tokD c++[bI 0,zI (Wz (bestG b i size i chain 0 0)),zI (Wg (bestG b i size i chain 0 0))]) 119 Ga) (V8 (v8 tokD (c++[Tok.mk 0 (Wz (bestG b i size i chain 0 0)) (Wg (bestG b i size i chain 0 0))])) 119 Ga) (by(exact ku rfl))<|Aw ZB ⟨(i+(bestG b i size i chain 0 0).2.toNat),uG,(c++[⟨0,(bestG b i size i chain 0 0).1,(bestG b i size i chain 0 0).2⟩]),(by(have h9:=best_bd b i size chain om;have h8:=yA (b:=b) (size:=size) (chain:=chain) (lazy:=lazy) (i:=i) (.inl aG);exact kP hr om om om)),uF,⟨⟩⟩ IS [(0,0),(8,8),(184,184),(192,192),(200,200),(224,224),(288,288),(936,936)] ro)) (λ p1 Z8=>.K 21 (Ga&&V9 (v0 c*3) (v0 (v8 tokD c))&&Ga&&Ga&&Ga&&Ga&&Wf ((v0 c+1)*24) 140737488355328) py<|.V 7 6 (zI (i+1)) (zN (i+1)) uE<|.blk 8 8 (V8 [Wb 824 824 0 (v0 c+1) 3] 82 Gd) (V8 [Wb 824 824 0 (v0 (c++[Tok.mk (wm b i lb) 0 0])) 3] 82 Gd) (by(simp;done))<|.blk 824 824 (V8 (v8 tokD c++[cK (V7 (wm b (i*1) lb)),zI 0,zI 0]) 119 Ga) (V8 (v8 tokD (c++[Tok.mk (wm b i lb) 0 0])) 119 Ga) Am<|Aw ZB ⟨(i+1),om,(c++[⟨b.getD i lb,0,0⟩]),(by(have h9:=best_bd b i size chain om;exact nk hr om om)),uF,⟨⟩⟩ An [(0,0),(8,8),(184,184),(192,192),(200,200),(224,224),(288,288),(824,824)] ro)) (λ p0 Z9=>.blk 8 8 (V8 [Wb 352 352 0 (v0 c) 3] 82 Gd) (V8 [Wb 352 352 0 (v0 (cutG b size chain lazy k)) 3] 82 Gd) FZ<|.blk 352 352 (V8 (v8 tokD c) 119 Ga) (V8 (v8 tokD (cutG b size chain lazy k)) 119 Ga) FZ<|BO ZD 0 (():Unit) rfl [(0,0),(8,8),(184,184),(192,192),(200,200),(224,224),(288,288),(352,352)] ro)) (fun|⟨i,hi,c,hr,hb,_⟩=>by kernel_rfl) ⟨(k),om,([]),(by(simp;done)),(by(simp;done)),⟨⟩⟩ [(0,0),(8,8),(184,184),(192,192),(200,200),(224,224),(288,288),(312,312)] ro (bB (fun|()=>.Y 9 [352] [352] (Xm [Wb 0 0 0 (v0 (cutG b size chain lazy k)) 3,zI 0]) [V8 (v8 tokD (cutG b size chain lazy k)) 119 Ga] ok))) kr
end Vt
end Go.Proofs.YtefjnofhgkjpmaaGreat
namespace Go.Proofs.YtefjnofhgkjpmaaGreat
open Go.RowKit Go.Bw Go.Vx
open List (length getD map take drop flatMap replicate)
namespace Vp
def F1(h:p:=by(refine decide_eq_true ?_;have h9:=hl i;unfold mF at h9;have h8:=K5 (l.getD i lb).lit;omega)):=h
def MO(h:p:=by(have h9:=hl i;unfold mF at h9;have h8:=K5 (l.getD i lb).lit;rcases h9 with h9|h9<;>omega)):=h
def Ul(h:p:=by(have h9:=hl i;unfold mF at h9;have h8:=K5 (l.getD i lb).lit;rcases h9 with h9|h9<;>(try have h7:=h8.1 h9.1)<;>omega)):=h
def K4 (nn1 nn2:Bool)(X Y:Z4)(a b:Nat)(ha:a=X.length)(hb:b=Y.length)(ha2:a<=10000000)(hb2:b<=10000000):S0 68 [.sl Gd 2 1 [.sl nn1 a 1 (X.map dB),.sl nn2 b 1 (Y.map dB)]] [] (.ref 0 0 0 (a+b) 1) [⟨(X++Y).map dB, 5,Ga⟩]:=SpR Tryz.func68 rfl rfl rfl ⟨aH _,trivial⟩ rfl 1000 64 (λ R ok=>.W 20 (0+(a:Int))<|.W 23 (0+(a:Int)+b)<|.W 30 (0+(a:Int)+b-0)<|.B 4 (0<0+(a:Int)+b-0) (λ p0 Z9=>.K 7 (Ao (0<0+(a:Int)+b-0)&&Ga&&Wf (zL (0+(a:Int)+b-0)) 140737488355328&&Wf (zL (0+(a:Int)+b-0)*1) 140737488355328) Ki<|.K 3 (aV z9 (Ge 0) z9 (zL (0+(a:Int)+b-0))&&Ga) (by(simp;done))<|.K 20 (Ga&&Wf ((0+a)*1) 140737488355328) (by(refine We ?_;(omega)))<|.K 17 (Ga&&V9 ((0+a)*1) (v0 (wo dB X))&&Ga&&Ga&&Ga&&Ga&&Wf ((0+a+b)*1) 140737488355328) (by(simp <;>(omega)))<|.U 10 [648] [648] (Wb 0 0 0 (0+a+b) 1) [V8 (wo dB X++wo dB Y) 5 Ga] R (ok _ _ (by(simp;done)) (by(simp;done)))) (λ p0 Z9=>.K 19 (Ga&&Wf ((0+a)*1) 140737488355328) (by(refine We ?_;(omega)))<|.K 17 (Ga&&V9 (a*1) (v0 (wo dB X))&&Ga&&Ga&&Ga&&Ga&&Wf ((a+b)*1) 140737488355328) (by(simp <;>(omega)))<|.U 10 [568] [568] (Wb 0 0 0 (a+b) 1) [V8 (wo dB X++wo dB Y) 5 Ga] R (ok _ _ wr (by(simp;done))))) kr
def PA (l:GB)(m:Nat)(hm:m=(pk l).length)(hl:l.length<=8388608):S0 52 [vW m l] [] (.tup [.agg [.ref 0 0 0 m 1,nD (8*m)],iD 0]) [⟨(pk l).map dB, 5,Ga⟩]:=by
 have h9:=ag l;refine SpR Tryz.func52 rfl rfl rfl ⟨aH _,trivial⟩ rfl 1000 64 (λ R ok=>.C 10 43 Gd [] (.fn JX (@oh (l) (m) om om))<|.C 13 56 Gd [] (.fn HR (@iF (pk l) (m) om om))<|.W 9 (8*(m:Int))<|.U 9 [80] [80] (Xm [W6 [Wb 0 0 0 m 1,zI (8*(m:Int))],zI 0]) [V8 (wo dB (pk l)) 5 Ga] R (ok _ _ (by(simp;done)) wr)) kr
def mF (t:Tn):Prop:=(t.long=0/\t.dist=0)\/(t.lit=0/\3<=t.long/\t.long<=258/\1<=t.dist/\t.dist<=32768)
def mF.may {t:Tn}(h:mF t):bY t:=by
 rcases h with h|h
 ·exact .inl h.1
 ·exact .inr h.2
def CH (t:Vt.Tok):Tn:=⟨t.lit,t.dist.toNat,t.long.toNat⟩
structure TokK (t:Vt.Tok):Prop where
 d:0<=t.dist
 l:0<=t.long
 ok:mF (CH t)
def F2 {b:Z4}{sz ch:Nat}{lz:Bool}{i:Nat}(hs:sz<=32768)(hi:i<b.length):TokK (Vt.tokAt b (sz:Int) (ch:Int) lz i):=by
 have h:=Vt.best_bd b i (sz:Int) (ch:Int) om;unfold Vt.tokAt
 split
 ·exact⟨Int.le_refl _,Int.le_refl _,.inl ⟨rfl,rfl⟩⟩
 ·next q=>
  have h2:=h.2.2.2.2.2.2 (λ e=>q (.inl e));refine⟨h.2.2.2.1,h.1,.inr ⟨rfl,?_⟩⟩;show 3<=(Vm.bestG b i (sz:Int) i (ch:Int) 0 0).2.toNat/\(Vm.bestG b i (sz:Int) i (ch:Int) 0 0).2.toNat<=258/\1<=(Vm.bestG b i (sz:Int) i (ch:Int) 0 0).1.toNat/\(Vm.bestG b i (sz:Int) i (ch:Int) 0 0).1.toNat<=32768;omega
def wi {b:Z4}{sz ch:Nat}{lz:Bool}(hs:sz<=32768):∀(k i:Nat),∀t∈Vt.cutK b (sz:Int) (ch:Int) lz k i,TokK t
 |0,_=>λ t ht=>absurd ht YW
 |k+1,i=>λ t ht=>by
  rw[Vt.cutK]at ht
  split at ht
  ·next q=>
   rcases List.mem_cons.1 ht with e|e
   ·subst e;exact F2 hs q
   ·exact wi hs k _ t e
  ·exact absurd ht YW
def F3 (b:Z4)(q sz ch:Nat)(lz:Bool):GU:=lk b ((Vt.cutG b (sz:Int) (ch:Int) lz q).map CH)
def oW (b:Z4)(q sz ch:Nat)(lz:Bool):F3 b q sz ch lz=(Vt.cutG b (sz:Int) (ch:Int) lz q).map CH:=aM _ _
def F4 (b:Z4)(q sz ch:Nat)(lz:Bool):(F3 b q sz ch lz).length<=b.length-q:=by
 rw[oW,Wj];exact Vt.cutG_len _ _ _ _ _
def CI:∀l:List Vt.Tok,(∀t∈l,TokK t)->l.flatMap Vt.tokD=(l.map CH).flatMap aY
 |[],_=>rfl
 |t::r,h=>by
  have h1:=h t WH;have e:Vt.tokD t=aY (CH t):=by
   show[dB t.lit,D.v (.int .i64 t.dist),D.v (.int .i64 t.long)]=[dB t.lit,D.v (.int .i64 ((t.dist.toNat:Nat):Int)),D.v (.int .i64 ((t.long.toNat:Nat):Int))];rw[Yk h1.d,Yk h1.l]
  rw[List.map_cons,XE,XE,e,CI r λ t ht=>h t (WG _ ht)]
def CJ {b:Z4}{q sz ch:Nat}{lz:Bool}(hs:sz<=32768):(Vt.cutG b (sz:Int) (ch:Int) lz q).flatMap Vt.tokD=(F3 b q sz ch lz).flatMap aY:=by
 rw[oW];exact CI _ (wi hs _ _)
def fe {b:Z4}{q sz ch:Nat}{lz:Bool}(hs:sz<=32768)(i:Nat):mF ((F3 b q sz ch lz).getD i lb):=by
 rw[oW,Wd,WB]
 cases h:(Vt.cutG b (sz:Int) (ch:Int) lz q)[i]? with
 |none=>exact .inl ⟨rfl,rfl⟩
 |some t=>exact(wi hs _ _ t (Xy h)).ok
abbrev Sr (sz ch mo:Nat)(lz:Bool):D:=.agg [nD sz,nD ch,nD mo,bD lz]
def PB (b:Z4)(n q:Nat)(hn:n=b.length)(hN:n<=131072)(hq:q<=n)(sz ch mo:Nat)(lz:Bool)(hs:1<=sz/\sz<=32768)(hc:ch<=256)(hm:1<=mo/\mo<=65535)(T:GU)(hT:F3 b q sz ch lz=T):S0 67 [.sl Gd n 1 (b.map dB),nD q,Sr sz ch mo lz] [] (.tup [.ref 0 0 0 T.length 3,iD 0]) [⟨T.flatMap aY, 119,Ga⟩]:=by
 subst hT;have h:=Vt.Cut_ok b n (sz:Int) (ch:Int) (mo:Int) (q:Int) lz hn om om (Vt.mayS_iff.2 om) om;rw[Ya,CJ hs.2,show(Vt.cutG b (sz:Int) (ch:Int) lz q).length=(F3 b q sz ch lz).length from by rw[oW,Wj]]at h;exact h
def K5 (x:UInt8):(x=0->((x.toNat:Nat):Int)=0)/\x.toNat<256:=⟨λ h=>by rw[h];rfl,x.toNat_lt⟩
def F5 (l:GU)(k:Nat)(hk:k=l.length)(hk2:k<=65535)(hl:∀i,mF (l.getD i lb))(raw:Z4)(r:Nat)(hr:r=raw.length)(hr2:r<=65535):S0 64 [fK 0,.sl Gd r 1 (raw.map dB),.sl Gd k 3 (l.flatMap aY)] [] (iD 0) []:=SpR Tryz.func64 rfl rfl rfl trivial rfl 1000 64 (λ R ok=>.F 11 (Ao (65535<(r:Int))) rC<|.F 6 (Ao (65535<(k:Int))) rC<|.s 12<|BY T_ok ae Gd 19 136 (am Tryz.prog 103 0) (λ(x:(i:Nat)×'(hi:i<=k)×'Unit)=>match x with|⟨i,hi,_⟩=>Wr [(0,Wu Gd k 3 (v8 aY l)),(1,Yd (Xi 83) [] []),(7,zN k),(8,nD i)] [] 136) (λ(x:(i:Nat)×'(hi:i<=k)×'Unit)=>match x with|⟨i,hi,_⟩=>k-i) [⟨Unit,.exit 0,λ()=>Wr [(0,Wu Gd k 3 (v8 aY l)),(1,Yd (Xi 83) [] []),(7,zN k),(8,nD k)] [] 136⟩] 1000 64 (fun|⟨i,hi,_⟩,Q,ZB,ZD=>.B 2 ((i:Int)<k) (λ p0 Z9=>.K 6 (Ga&&Ao ((i:Int)<k)&&Ga) Ki<|.K 2 (Wf (i*3+3) (v0 (v8 aY l))) Kt<|.lst (wx 3 (Ag (i*3) (v8 aY l))) ([cK (V7 (Tn.lit (wm l i lb))),zN (Tn.dist (wm l i lb)),zN (Tn.long (wm l i lb))]) (aI (k:=3) (i:=i) (λ _=>rfl) om om)<|.R 42 (!Ao (0<(↑(Tn.long (wm l i lb)):Int))) (λ p1=>have Z8:=zY (cT p1);.E 10 ((↑(Tn.long (wm l i lb)):Int)==0) v4<|.R 12 (!(↑(Tn.dist (wm l i lb)):Int)==0) (λ p2=>have Z7:=ak (cT p2);.abs MO) (λ p2=>have Z7:=eq_of_beq (cU p2);.W 7 (i+1)<|.V 1 8 (zI (i+1)) (zN (i+1)) Ex<|Aw ZB ⟨(i+1),om,⟨⟩⟩ Sm [] ro)) (λ p1=>have Z8:=zX (cU p1);.R 10 ((↑(V7 (Tn.lit (wm l i lb))):Int)==0) (λ p3=>have Z6:=eq_of_beq p3;.E 12 (Ao (3<=(↑(Tn.long (wm l i lb)):Int))) F1<|.E 12 (Ao ((↑(Tn.long (wm l i lb)):Int)<=258)) F1<|.E 12 (Ao (1<=(↑(Tn.dist (wm l i lb)):Int))) F1<|.R 12 (!Ao ((↑(Tn.dist (wm l i lb)):Int)<=32768)) (λ p4=>have Z5:=zY (cT p4);.abs MO) (λ p4=>have Z5:=zX (cU p4);.W 7 (i+1)<|.V 1 8 (zI (i+1)) (zN (i+1)) Ex<|Aw ZB ⟨(i+1),om,⟨⟩⟩ Sm [] ro)) (λ p3=>have Z6:=ak p3;.abs Ul))) (λ p0 Z9=>.val 8 (zN i) (zN k) Ex<|BO ZD 0 (():Unit) rfl [] ro)) (fun|⟨i,hi,_⟩=>by kernel_rfl) ⟨(0),om,⟨⟩⟩ [] ro (bB (fun|()=>.Y 6 [] [] (zI 0) [] ok))) kr
def F6 (l:GU)(k:Nat)(hk:k=l.length)(hk2:k<=65535)(hl:∀i,mF (l.getD i lb))(raw:Z4)(r:Nat)(hr:r=raw.length)(hr2:r<=65535):S0 64 [fK 1,.sl Gd r 1 (raw.map dB),.sl Gd k 3 (l.flatMap aY)] [] (iD 0) []:=SpR Tryz.func64 rfl rfl rfl trivial rfl 1000 64 (λ R ok=>.F 11 (Ao (65535<(r:Int))) rC<|.F 6 (Ao (65535<(k:Int))) rC<|.s 12<|BY T_ok ae Gd 19 136 (am Tryz.prog 103 0) (λ(x:(i:Nat)×'(hi:i<=k)×'Unit)=>match x with|⟨i,hi,_⟩=>Wr [(0,Wu Gd k 3 (v8 aY l)),(1,Yd (Xi 83) [] []),(7,zN k),(8,nD i)] [] 136) (λ(x:(i:Nat)×'(hi:i<=k)×'Unit)=>match x with|⟨i,hi,_⟩=>k-i) [⟨Unit,.exit 0,λ()=>Wr [(0,Wu Gd k 3 (v8 aY l)),(1,Yd (Xi 83) [] []),(7,zN k),(8,nD k)] [] 136⟩] 1000 64 (fun|⟨i,hi,_⟩,Q,ZB,ZD=>.B 2 ((i:Int)<k) (λ p0 Z9=>.K 6 (Ga&&Ao ((i:Int)<k)&&Ga) Ki<|.K 2 (Wf (i*3+3) (v0 (v8 aY l))) Kt<|.lst (wx 3 (Ag (i*3) (v8 aY l))) ([cK (V7 (Tn.lit (wm l i lb))),zN (Tn.dist (wm l i lb)),zN (Tn.long (wm l i lb))]) (aI (k:=3) (i:=i) (λ _=>rfl) om om)<|.R 42 (!Ao (0<(↑(Tn.long (wm l i lb)):Int))) (λ p1=>have Z8:=zY (cT p1);.E 10 ((↑(Tn.long (wm l i lb)):Int)==0) v4<|.R 12 (!(↑(Tn.dist (wm l i lb)):Int)==0) (λ p2=>have Z7:=ak (cT p2);.abs MO) (λ p2=>have Z7:=eq_of_beq (cU p2);.W 7 (i+1)<|.V 1 8 (zI (i+1)) (zN (i+1)) Ex<|Aw ZB ⟨(i+1),om,⟨⟩⟩ Sm [] ro)) (λ p1=>have Z8:=zX (cU p1);.R 10 ((↑(V7 (Tn.lit (wm l i lb))):Int)==0) (λ p3=>have Z6:=eq_of_beq p3;.E 12 (Ao (3<=(↑(Tn.long (wm l i lb)):Int))) F1<|.E 12 (Ao ((↑(Tn.long (wm l i lb)):Int)<=258)) F1<|.E 12 (Ao (1<=(↑(Tn.dist (wm l i lb)):Int))) F1<|.R 12 (!Ao ((↑(Tn.dist (wm l i lb)):Int)<=32768)) (λ p4=>have Z5:=zY (cT p4);.abs MO) (λ p4=>have Z5:=zX (cU p4);.W 7 (i+1)<|.V 1 8 (zI (i+1)) (zN (i+1)) Ex<|Aw ZB ⟨(i+1),om,⟨⟩⟩ Sm [] ro)) (λ p3=>have Z6:=ak p3;.abs Ul))) (λ p0 Z9=>.val 8 (zN i) (zN k) Ex<|BO ZD 0 (():Unit) rfl [] ro)) (fun|⟨i,hi,_⟩=>by kernel_rfl) ⟨(0),om,⟨⟩⟩ [] ro (bB (fun|()=>.Y 6 [] [] (zI 0) [] ok))) kr
def F7 (l:GU)(k:Nat)(hk:k=l.length)(hk2:k<=65535)(hl:∀i,mF (l.getD i lb))(raw:Z4)(r:Nat)(hr:r=raw.length)(hr2:r<=65535):S0 64 [fK 2,.sl Gd r 1 (raw.map dB),.sl Gd k 3 (l.flatMap aY)] [] (iD 0) []:=SpR Tryz.func64 rfl rfl rfl trivial rfl 1000 64 (λ R ok=>.F 11 (Ao (65535<(r:Int))) rC<|.F 6 (Ao (65535<(k:Int))) rC<|.s 12<|BY T_ok ae Gd 19 136 (am Tryz.prog 103 0) (λ(x:(i:Nat)×'(hi:i<=k)×'Unit)=>match x with|⟨i,hi,_⟩=>Wr [(0,Wu Gd k 3 (v8 aY l)),(1,Yd (Xi 83) [] []),(7,zN k),(8,nD i)] [] 136) (λ(x:(i:Nat)×'(hi:i<=k)×'Unit)=>match x with|⟨i,hi,_⟩=>k-i) [⟨Unit,.exit 0,λ()=>Wr [(0,Wu Gd k 3 (v8 aY l)),(1,Yd (Xi 83) [] []),(7,zN k),(8,nD k)] [] 136⟩] 1000 64 (fun|⟨i,hi,_⟩,Q,ZB,ZD=>.B 2 ((i:Int)<k) (λ p0 Z9=>.K 6 (Ga&&Ao ((i:Int)<k)&&Ga) Ki<|.K 2 (Wf (i*3+3) (v0 (v8 aY l))) Kt<|.lst (wx 3 (Ag (i*3) (v8 aY l))) ([cK (V7 (Tn.lit (wm l i lb))),zN (Tn.dist (wm l i lb)),zN (Tn.long (wm l i lb))]) (aI (k:=3) (i:=i) (λ _=>rfl) om om)<|.R 42 (!Ao (0<(↑(Tn.long (wm l i lb)):Int))) (λ p1=>have Z8:=zY (cT p1);.E 10 ((↑(Tn.long (wm l i lb)):Int)==0) v4<|.R 12 (!(↑(Tn.dist (wm l i lb)):Int)==0) (λ p2=>have Z7:=ak (cT p2);.abs MO) (λ p2=>have Z7:=eq_of_beq (cU p2);.W 7 (i+1)<|.V 1 8 (zI (i+1)) (zN (i+1)) Ex<|Aw ZB ⟨(i+1),om,⟨⟩⟩ Sm [] ro)) (λ p1=>have Z8:=zX (cU p1);.R 10 ((↑(V7 (Tn.lit (wm l i lb))):Int)==0) (λ p3=>have Z6:=eq_of_beq p3;.E 12 (Ao (3<=(↑(Tn.long (wm l i lb)):Int))) F1<|.E 12 (Ao ((↑(Tn.long (wm l i lb)):Int)<=258)) F1<|.E 12 (Ao (1<=(↑(Tn.dist (wm l i lb)):Int))) F1<|.R 12 (!Ao ((↑(Tn.dist (wm l i lb)):Int)<=32768)) (λ p4=>have Z5:=zY (cT p4);.abs MO) (λ p4=>have Z5:=zX (cU p4);.W 7 (i+1)<|.V 1 8 (zI (i+1)) (zN (i+1)) Ex<|Aw ZB ⟨(i+1),om,⟨⟩⟩ Sm [] ro)) (λ p3=>have Z6:=ak p3;.abs Ul))) (λ p0 Z9=>.val 8 (zN i) (zN k) Ex<|BO ZD 0 (():Unit) rfl [] ro)) (fun|⟨i,hi,_⟩=>by kernel_rfl) ⟨(0),om,⟨⟩⟩ [] ro (bB (fun|()=>.Y 6 [] [] (zI 0) [] ok))) kr
def gQ(h:p:=by(have h9:=hl i;have h5:=Xb (l.getD i lb).lit;have h2:=bb hT1 hT2 (hl i);have h1:=inA.1 i om;have h8:=oA (l.getD i lb).lit.toNat;have h4:=oA (257+ai T1 (l.getD i lb).long);have h3:=oB (ai T2 (l.getD i lb).dist);have y1:=hz1 (ai T1 (l.getD i lb).long);have y2:=hz2 (ai T2 (l.getD i lb).dist);have y3:=oA 256;have h7:=cv (T1:=T1) (T2:=T2) (A:=aa (A.take n1)) (B:=aa (B.take n2)) (H:=H5) (l:=l) i om;unfold bY at h9;omega)):=h
def rV(h:p:=by(have h9:=hl 0;have h5:=Xb (l.getD 0 lb).lit;have h2:=bb hT1 hT2 (hl 0);have h1:=inA.1 0 om;have h8:=oA (l.getD 0 lb).lit.toNat;have h4:=oA (257+ai T1 (l.getD 0 lb).long);have h3:=oB (ai T2 (l.getD 0 lb).dist);have y1:=hz1 (ai T1 (l.getD 0 lb).long);have y2:=hz2 (ai T2 (l.getD 0 lb).dist);have y3:=oA 256;have h7:=cv (T1:=T1) (T2:=T2) (A:=aa (A.take n1)) (B:=aa (B.take n2)) (H:=H5) (l:=l) 0 om;unfold bY at h9;omega)):=h
def wj(h:p:=by(simp;have y3:=oA 256;omega)):=h
def kQ(h:p:=by unfold wB;exact wj):=h
def yB(h:p:=by(first|omega|(simp only[Wc,bM,WQ,Yi,WM,WV,Wh,Yh,XM];omega))):=h
def F8(h:p:=by(exact Ww (oA _).1 (by decide))):=h
def IT(h:p:=by(refine decide_eq_true ?_;have h9:=hl i;have h5:=Xb (l.getD i lb).lit;have h2:=bb hT1 hT2 (hl i);have h1:=inA.1 i om;have h8:=oA (l.getD i lb).lit.toNat;have h4:=oA (257+ai T1 (l.getD i lb).long);have h3:=oB (ai T2 (l.getD i lb).dist);have y1:=hz1 (ai T1 (l.getD i lb).long);have y2:=hz2 (ai T2 (l.getD i lb).dist);have y3:=oA 256;have h7:=cv (T1:=T1) (T2:=T2) (A:=aa (A.take n1)) (B:=aa (B.take n2)) (H:=H5) (l:=l) i om;unfold bY at h9;omega)):=h
def K6(h:p:=by exact(Wn (D.sim.slw rfl (ao (by(simp;have y3:=oA 256;omega))|>.trans rfl)) (qr trivial))):=h
def Ap(h:p:=by(rw[f7];have h9:=hl i;have h5:=Xb (l.getD i lb).lit;have h2:=bb hT1 hT2 (hl i);have h1:=inA.1 i om;have h8:=oA (l.getD i lb).lit.toNat;have h4:=oA (257+ai T1 (l.getD i lb).long);have h3:=oB (ai T2 (l.getD i lb).dist);have y1:=hz1 (ai T1 (l.getD i lb).long);have y2:=hz2 (ai T2 (l.getD i lb).dist);have y3:=oA 256;have h7:=cv (T1:=T1) (T2:=T2) (A:=aa (A.take n1)) (B:=aa (B.take n2)) (H:=H5) (l:=l) i om;unfold bY at h9;refine We ?_;omega)):=h
def CL(h:p:=by(have z:=dE 19 (gv R0 i) (R0.getD i lb).s;have z2:=jX R0 i;have z3:=oR i;omega)):=h
def CM(h:p:=by(rw[f7];have h9:=hl 0;have h5:=Xb (l.getD 0 lb).lit;have h2:=bb hT1 hT2 (hl 0);have h1:=inA.1 0 om;have h8:=oA (l.getD 0 lb).lit.toNat;have h4:=oA (257+ai T1 (l.getD 0 lb).long);have h3:=oB (ai T2 (l.getD 0 lb).dist);have y1:=hz1 (ai T1 (l.getD 0 lb).long);have y2:=hz2 (ai T2 (l.getD 0 lb).dist);have y3:=oA 256;have h7:=cv (T1:=T1) (T2:=T2) (A:=aa (A.take n1)) (B:=aa (B.take n2)) (H:=H5) (l:=l) 0 om;unfold bY at h9;refine We ?_;omega)):=h
def CN(h:p:=by(have h7:=cv (T1:=T1) (T2:=T2) (A:=aa (A.take n1)) (B:=aa (B.take n2)) (H:=H5) (l:=l) k om;simp only[bM,Xk,WM,WV];refine We ?_;omega)):=h
def Gb(h:p:=by(have h7:=cv (T1:=T1) (T2:=T2) (A:=aa (A.take n1)) (B:=aa (B.take n2)) (H:=H5) (l:=l) i om;simp only[bM,Xk,WM,WV];refine We ?_;omega)):=h
def K7(h:p:=by(simp only[Wc,Wj,cN,bM,WM,WV];have h5:=Xb (l.getD i lb).lit;have h2:=bb hT1 hT2 (hl i);refine We ?_;omega)):=h
def K8(h:p:=by(refine decide_eq_true ?_;have z:=dE 19 (gv R0 i) (R0.getD i lb).s;have z2:=jX R0 i;have z3:=oR i;omega)):=h
def K9(h:p:=by(refine decide_eq_true ?_;have h9:=hl 0;have h5:=Xb (l.getD 0 lb).lit;have h2:=bb hT1 hT2 (hl 0);have h1:=inA.1 0 om;have h8:=oA (l.getD 0 lb).lit.toNat;have h4:=oA (257+ai T1 (l.getD 0 lb).long);have h3:=oB (ai T2 (l.getD 0 lb).dist);have y1:=hz1 (ai T1 (l.getD 0 lb).long);have y2:=hz2 (ai T2 (l.getD 0 lb).dist);have y3:=oA 256;have h7:=cv (T1:=T1) (T2:=T2) (A:=aa (A.take n1)) (B:=aa (B.take n2)) (H:=H5) (l:=l) 0 om;unfold bY at h9;omega)):=h
def La(h:p:=by(exact Ww (oB _).1 (by decide))):=h
def PC(h:p:=by(rw[bg (k:=2) (λ(x:Rn)=>(rfl:(dh x).length=2))];refine We ?_;(omega))):=h
def PD(h:p:=by show v0 R0-(i+1)<v0 R0-i;clear ZB ZD;omega):=h
def PE(h:p:=by(have y1:=oR i;have y2:=oC (R0.getD i lb).s;have y3:=xv (R0.getD i lb).s;have y4:=lX4 i om;omega)):=h
def PF(h:p:=by(have h7:=cv (T1:=T1) (T2:=T2) (A:=aa (A.take n1)) (B:=aa (B.take n2)) (H:=H5) (l:=l) i om;simp only[Wc,bM,WQ,Yi,WM,WV,Wh,Yh,XM];omega)):=h
structure EqV {α:Type}(a b:α):Prop where
 h:a=b
def wk (l:Z4)(L:Nat)(hL:L=l.length)(hL2:L<=320)(m:Nat)(hm:m<=1000)(T:Nat)(hT:EqV (gO l m) T):S0 109 [.sl Gd L 1 (l.map dB),nD m] [] (nD T) []:=Kp l L hL hL2 m hm T hT.h
def Um (l:Z4)(n:Nat)(hn:n=l.length)(hn2:n<=320)(ho:∀i,i<n->(l.getD i lb).toNat<=15)(T:nl)(hT:EqV (xw l) T):S0 110 [.sl Gd n 1 (l.map dB)] [] (.tup [.ref 0 0 0 T.length 2,iD 0]) [⟨T.flatMap dh, 187,Ga⟩]:=Ti l n hn hn2 ho T hT.h
def CP (W:Gw)(L:Nat)(hL:L=W.length)(hL2:L<=320)(hB:∀t,W.getD t lb<=1073741824)(m:Nat)(hm:1<=m/\m<=15)(hNm:(eU W L).length<=2^m)(T:Z4)(hT:EqV (bE W m) T):S0 108 [.sl Gd L 1 (W.map nD),nD m] [] (.tup [.ref 0 0 0 L 1,iD 0]) [⟨T.map dB, 5,Ga⟩]:=by
 obtain⟨hT⟩:=hT;subst hT;exact Pn W L hL hL2 hB m hm hNm
structure DyV (T1 T2:a9)(l:GU)(k:Nat)(W1 W2:Gw)(A B:Z4)(n1 n2:Nat)(R:nl)(W3:Gw)(C O:Z4)(n3:Nat):Prop where
 w1:aL 286 (bV T1 l k++[256])=W1
 w2:aL 30 (dl T2 l k)=W2
 a:EqV (bE W1 15) A
 b:EqV (bE W2 15) B
 t1:EqV (gO A 257) n1
 t2:EqV (gO B 1) n2
 r:EqV (xw (A.take n1++B.take n2)) R
 w3:aL 19 (R.map Rn.s)=W3
 c:EqV (bE W3 7) C
 o:iK C 19=O
 t3:EqV (gO O 4) n3
structure DyF (W1 W2:Gw)(A B:Z4)(n1 n2:Nat)(R:nl)(W3:Gw)(C O:Z4)(n3:Nat):Prop where
 lW1:W1.length=286
 lW2:W2.length=30
 bW1:∀t,W1.getD t lb<=1073741824
 bW2:∀t,W2.getD t lb<=1073741824
 iW1:(eU W1 286).length<=2^15
 iW2:(eU W2 30).length<=2^15
 lA:A.length=286
 lB:B.length=30
 k1:257<=n1/\n1<=286
 k2:1<=n2/\n2<=30
 lA2:(A.take n1).length=n1
 lB2:(B.take n2).length=n2
 cA:dC (A.take n1) 15=0
 cB:dC (B.take n2) 15=0
 mA:(aa (A.take n1)).length=n1
 mB:(aa (B.take n2)).length=n2
 oA:jU (aa (A.take n1))
 oB:jU (aa (B.take n2))
 lQ:(A.take n1++B.take n2).length=n1+n2
 bQ:∀i,i<n1+n2->((A.take n1++B.take n2).getD i lb).toNat<=15
 lR:R.length<=316
 oR:∀i,(R.getD i lb).s<=18/\(R.getD i lb).x<2^rb (R.getD i lb).s
 lW3:W3.length=19
 bW3:∀t,W3.getD t lb<=1073741824
 iW3:(eU W3 19).length<=2^7
 lC:C.length=19
 cC:dC C 7=0
 mC:(aa C).length=19
 oC:jU (aa C)
 lO:O.length=19
 k3:4<=n3/\n3<=19
 lO2:(O.take n3).length=n3
 bO:∀i,(O.getD i lb).toNat<=7
def VG {l:Z4}{m n:Nat}(h:gO l m=n):l.take n=vd l m:=by rw[ly,h]
def ju (l:Z4):(aa l).length=l.length:=by rw[rq,oq]
def CQ {l:Z4}{m:Nat}(h:dC l m=0)(i:Nat):(l.getD i lb).toNat<=m:=by
 rcases WR i l.length with q|q
 ·exact f6 (gg h).2.1 q
 ·rw[ng q];exact W5 _
def DyV.f {T1 T2:a9}{l:GU}{k:Nat}{W1 W2:Gw}{A B:Z4}{n1 n2:Nat}{R:nl}{W3:Gw}{C O:Z4}{n3:Nat}(D:DyV T1 T2 l k W1 W2 A B n1 n2 R W3 C O n3)(hk:k=l.length)(hk2:k<=65535):DyF W1 W2 A B n1 n2 R W3 C O n3:=by
 obtain⟨rfl,rfl,⟨rfl⟩,⟨rfl⟩,⟨t1⟩,⟨t2⟩,⟨r⟩,rfl,⟨rfl⟩,rfl,⟨t3⟩⟩:=D;have a1:(bV T1 l k++[256]).length<=65536:=by rw[Wc];have:=lx (T1:=T1) (l:=l) (i:=k);simp;omega
 have a2:(dl T2 l k).length<=65535:=Ww (rO k om) hk2;generalize bV T1 l k++[256]=S1 at *;generalize dl T2 l k=S2 at *;have lW1:=cN 286 S1;have lW2:=cN 30 S2;have i1:(eU (aL 286 S1) 286).length<=2^15:=Ww (jW _ _) (by decide);have i2:(eU (aL 30 S2) 30).length<=2^15:=Ww (jW _ _) (by decide);have cA0:=oP (aL 286 S1) (by rw[lW1];decide) 15 (by decide) (by rw[lW1];exact i1);have cB0:=oP (aL 30 S2) (by rw[lW2];decide) 15 (by decide) (by rw[lW2];exact i2);have lA:(bE (aL 286 S1) 15).length=286:=by rw[kI,lW1]
 have lB:(bE (aL 30 S2) 15).length=30:=by rw[kI,lW2]
 generalize bE (aL 286 S1) 15=A at *;generalize bE (aL 30 S2) 15=B at *;have h1:=lq A 257;have h2:=lq B 1;have cA:=yj (q:=257) cA0;have cB:=yj (q:=1) cB0;have lA2:=ni A 257;have lB2:=ni B 1;rw[<-VG t1]at cA lA2;rw[<-VG t2]at cB lB2;rw[t1]at h1 lA2;rw[t2]at h2 lB2;have bQ:∀i,((A.take n1++B.take n2).getD i lb).toNat<=15:=λ i=>by
  rw[Wd];rcases WR i n1 with q|q
  ·rw[WO om,<-Wd];exact CQ cA i
  ·rw[WJ om,<-Wd];exact CQ cB _
 have lR:R.length<=316:=by
  rw[<-r];refine Ww (FO _) ?_;rw[Wc];omega
 have oR:=λ i=>KQ bQ i
 rw[r]at oR;have lS:(R.map Rn.s).length<=316:=by rw[Wj];exact lR
 generalize R.map Rn.s=S3 at *;have lW3:=cN 19 S3;have i3:(eU (aL 19 S3) 19).length<=2^7:=Ww (jW _ _) (by decide);have cC:=oP (aL 19 S3) (by rw[lW3];decide) 7 (by decide) (by rw[lW3];exact i3);have lC:(bE (aL 19 S3) 7).length=19:=by rw[kI,lW3]
 generalize bE (aL 19 S3) 7=C at *;have c15:=(mZ (by decide) cC).1;have lO:=rP C (Wl 19);have h3:=lq (iK C 19) 4;rw[t3]at h3;refine⟨lW1,lW2,λ t=>Ww (dE _ _ _) om,λ t=>Ww (dE _ _ _) om,i1,i2,lA,lB,by omega,by omega,lA2,lB2,cA,cB,by rw[ju];exact lA2,by rw[ju];exact lB2,eE cA,eE cB,by rw[Wc];omega,λ i _=>bQ i,lR,oR,lW3,λ t=>Ww (dE _ _ _) om,i3,lC,cC,by rw[ju];exact lC,eE c15,lO,by omega,by rw[Wi];omega,λ i=>?_⟩;rw[oS,Wd,WB]
 cases(qq.take 19)[i]? with
 |none=>exact W5 _
 |some j=>exact CQ cC j
def DyV.inA {T1 T2:a9}{l:GU}{k:Nat}{W1 W2:Gw}{A B:Z4}{n1 n2:Nat}{R:nl}{W3:Gw}{C O:Z4}{n3:Nat}(D:DyV T1 T2 l k W1 W2 A B n1 n2 R W3 C O n3)(hk:k=l.length)(hk2:k<=65535)(hT1:T1=ay)(hT2:T2=aK)(hl:∀i,bY (l.getD i lb)):(∀i,i<k->((l.getD i lb).long=0->(l.getD i lb).lit.toNat<n1)/\((l.getD i lb).long≠0->257+ai T1 (l.getD i lb).long<n1/\ai T2 (l.getD i lb).dist<n2))/\256<n1:=by
 have F:=D.f hk hk2;obtain⟨w1,w2,⟨a⟩,⟨b⟩,⟨t1⟩,⟨t2⟩,-,-,-,-,-⟩:=D;have p1:∀s,s<286->s∈bV T1 l k++[256]->s<n1:=λ s h hm=>by
  rw[<-t1];refine Co ?_;rw[<-a];refine ut W1 (by rw[F.lW1];decide) 15 (by decide) (by rw[F.lW1];exact F.iW1) ?_;rw[<-w1];exact yk h hm
 have p2:∀s,s<30->s∈dl T2 l k->s<n2:=λ s h hm=>by
  rw[<-t2];refine Co ?_;rw[<-b];refine ut W2 (by rw[F.lW2];decide) 15 (by decide) (by rw[F.lW2];exact F.iW2) ?_;rw[<-w2];exact yk h hm
 refine⟨λ i hi=>⟨λ h0=>?_,λ h0=>?_⟩,p1 256 (by decide) (List.mem_append_right _ (List.mem_singleton.2 rfl))⟩
 ·have m:=Cp (T1:=T1) hk hi
  rw[IG,ZF h0]at m;have:=(l.getD i lb).lit.toNat_lt;exact p1 _ om (Yu _ m)
 ·have te:=bb hT1 hT2 (hl i) h0
  have m:=Cp (T1:=T1) hk hi;rw[IG,ZE h0]at m;exact⟨p1 _ om (Yu _ m),p2 _ te.2 (KS hk hi h0)⟩
def gv (R:nl)(i:Nat):Gw:=lk R ((R.take i).map Rn.s)
def uK (R:nl)(i:Nat):gv R i=(R.take i).map Rn.s:=aM _ _
def PH (R:nl):gv R 0=[]:=uK R 0
def PI (R:nl):gv R R.length=R.map Rn.s:=by rw[uK,WN (Wl _)]
def jX (R:nl)(i:Nat):(gv R i).length<=i:=by rw[uK,Wj,Wi];omega
def PJ {R:nl}{i:Nat}(h:i<R.length):gv R (i+1)=gv R i++[(R.getD i lb).s]:=by
 have e1:R.take (i+1)=R.take i++[R.getD i lb]:=by
  rw[WW h,Wd,Wa h];rfl
 rw[uK,uK,e1,W4];rfl
def IV (l:GU)(k:Nat)(hk:k=l.length)(hk2:k<=65535)(hl:∀i,bY (l.getD i lb))(T1 T2:a9)(hT1:T1=ay)(hT2:T2=aK)(hl1:T1.length=29)(hl2:T2.length=30)(hz1:bi T1)(hz2:bi T2)(W1 W2:Gw)(A B:Z4)(n1 n2:Nat)(R0:nl)(W3:Gw)(C O:Z4)(n3:Nat)(D:DyV T1 T2 l k W1 W2 A B n1 n2 R0 W3 C O n3)(L F:Z4)(hL:L=cd)(hF:F=dS)(a:Nat)(ha:a<=7)(raw:Z4)(r:Nat)(hr:r=raw.length)(hr2:r<=65535)(H H3 H4 H5:GR)(hH:H=kX 1 2)(hH3:H3=H++[⟨n1-257,5⟩,⟨n2-1,5⟩,⟨n3-4,4⟩])(hH4:cI H3 gJ (O.take n3) n3=H4)(hH5:cI H4 (iv (aa C)) R0 R0.length=H5)(H' H3' H4' H5':GR)(hH':H'=kX 0 2)(hH3':H3'=H'++[⟨n1-257,5⟩,⟨n2-1,5⟩,⟨n3-4,4⟩])(hH4':cI H3' gJ (O.take n3) n3=H4')(hH5':cI H4' (iv (aa C)) R0 R0.length=H5'):(S0 65 [nD a,fK 2,.sl Gd r 1 (raw.map dB),.sl Gd k 3 (l.flatMap aY),.v (.bool Ga)] [] (.ptr 0 0 0) [⟨[.ref 1 1 0 ((ba T1 T2 (aa (A.take n1)) (aa (B.take n2)) H5 l k)++iG (aa (A.take n1)) 256 0 0).length 2], 123,Gd⟩,⟨((ba T1 T2 (aa (A.take n1)) (aa (B.take n2)) H5 l k)++iG (aa (A.take n1)) 256 0 0).flatMap aC, 126,Ga⟩])/\(S0 65 [nD a,fK 2,.sl Gd r 1 (raw.map dB),.sl Gd k 3 (l.flatMap aY),.v (.bool Gd)] [] (.ptr 0 0 0) [⟨[.ref 1 1 0 ((ba T1 T2 (aa (A.take n1)) (aa (B.take n2)) H5' l k)++iG (aa (A.take n1)) 256 0 0).length 2], 123,Gd⟩,⟨((ba T1 T2 (aa (A.take n1)) (aa (B.take n2)) H5' l k)++iG (aa (A.take n1)) 256 0 0).flatMap aC, 126,Ga⟩]):=by
 have inA:=D.inA hk hk2 hT1 hT2 hl;obtain⟨lW1,lW2,bW1,bW2,iW1,iW2,lA,lB,g1,g2,lA2,lB2,cA,cB,mA,mB,oA,oB,lQ,bQ,lR,oR,lW3,bW3,iW3,lC,cC,mC,oC,lO,g3,lO2,bO⟩:=D.f hk hk2;obtain⟨w1,w2,eA,eB,et1,et2,eR,w3,eC,eO,et3⟩:=D;have c15:=(mZ (by decide) cC).1;refine SpecH.run2 (λ(d:Bool) (e:Nat) (H H3 H4 H5:GR) (hH:H=kX e 2) (hH3:H3=H++[⟨n1-257,5⟩,⟨n2-1,5⟩,⟨n3-4,4⟩]) (hH4:cI H3 gJ (O.take n3) n3=H4) (hH5:cI H4 (iv (aa C)) R0 R0.length=H5) (R:D->lM->Prop) (ok:∀r' bs',r'=(.ptr 0 0 0)->bs'=[⟨[.ref 1 1 0 ((ba T1 T2 (aa (A.take n1)) (aa (B.take n2)) H5 l k)++iG (aa (A.take n1)) 256 0 0).length 2], 123,Gd⟩,⟨((ba T1 T2 (aa (A.take n1)) (aa (B.take n2)) H5 l k)++iG (aa (A.take n1)) 256 0 0).flatMap aC, 126,Ga⟩]->R r' bs')=>have lH:H.length=2:=(by rw[hH];rfl);have lH3:H3.length=5:=(by rw[hH3,Wc,lH];rfl);have lX3:=λ i h=>iu (H:=H3) (g:=gJ) (l:=O.take n3) (c:=1) (λ _=>rfl) i h;have lH4:H4.length=5+n3:=(by rw[<-hH4,lX3 n3 om,lH3,Nat.one_mul]);have lX4:=λ i h=>iu (H:=H4) (g:=iv (aa C)) (l:=R0) (c:=2) (λ _=>rfl) i h;have lH5:H5.length=5+n3+2*R0.length:=(by rw[<-hH5,lX4 R0.length om,lH4]);((.cl 86 Gd [] (.fn Sa (@m6 (L) (F) aG aG))<|.M 33 (384+sh d) (384+sh d) (V8 (replicate 286 (zI 0)) 176 Gd) (V8 (wo nD (aL 286 (bV T1 l 0))) 176 Gd) (by(refine aq ?_;rw[Pq,ye,Ys];rfl))<|.blk (392+sh d) (392+sh d) (V8 (replicate 30 (zI 0)) 177 Gd) (V8 (wo nD (aL 30 (dl T2 l 0))) 177 Gd) (by(refine aq ?_;rw[KN,ye,Ys];rfl))<|BY T_ok ae Gd 53 (424+sh d) (am Tryz.prog 106 0) (λ(x:(i:Nat)×'(hi:i<=k)×'Unit)=>match x with|⟨i,hi,_⟩=>Wr [(1,Yd (Xi 107) [] [WA (392+sh d) (392+sh d) 0,WA (384+sh d) (384+sh d) 0]),(10,Wu Gd k 3 (v8 aY l)),(11,zN k),(12,nD i)] [⟨16,16,16,16,.b ⟨[Wb (160+sh d) (160+sh d) 0 2 2],123,Gd⟩⟩,⟨(96+sh d),(96+sh d),(96+sh d),(96+sh d),.b ⟨[ah e,zI 1,uI 2,zI 2],126,Gd⟩⟩,⟨(160+sh d),(160+sh d),(160+sh d),(160+sh d),.b ⟨[ah e,zI 1,uI 2,zI 2],126,Ga⟩⟩,⟨(256+sh d),(256+sh d),(256+sh d),(256+sh d),.b ⟨wo dB L,5,Ga⟩⟩,⟨(257+sh d),(257+sh d),(257+sh d),(257+sh d),.b ⟨wo dB F,5,Ga⟩⟩,⟨(384+sh d),(384+sh d),(384+sh d),(384+sh d),.r ⟨(aL 286 (bV T1 l i)).map nD,176,Ga⟩⟩,⟨(392+sh d),(392+sh d),(392+sh d),(392+sh d),.r ⟨(aL 30 (dl T2 l i)).map nD,177,Ga⟩⟩] (480+sh d)) (λ(x:(i:Nat)×'(hi:i<=k)×'Unit)=>match x with|⟨i,hi,_⟩=>k-i) [⟨Unit,.exit 0,λ()=>Wr [(1,Yd (Xi 107) [] [WA (392+sh d) (392+sh d) 0,WA (384+sh d) (384+sh d) 0]),(10,Wu Gd k 3 (v8 aY l)),(11,zN k),(12,nD k)] [⟨16,16,16,16,.b ⟨[Wb (160+sh d) (160+sh d) 0 2 2],123,Gd⟩⟩,⟨(96+sh d),(96+sh d),(96+sh d),(96+sh d),.b ⟨[ah e,zI 1,uI 2,zI 2],126,Gd⟩⟩,⟨(160+sh d),(160+sh d),(160+sh d),(160+sh d),.b ⟨[ah e,zI 1,uI 2,zI 2],126,Ga⟩⟩,⟨(256+sh d),(256+sh d),(256+sh d),(256+sh d),.b ⟨wo dB L,5,Ga⟩⟩,⟨(257+sh d),(257+sh d),(257+sh d),(257+sh d),.b ⟨wo dB F,5,Ga⟩⟩,⟨(384+sh d),(384+sh d),(384+sh d),(384+sh d),.r ⟨(aL 286 (bV T1 l k)).map nD,176,Ga⟩⟩,⟨(392+sh d),(392+sh d),(392+sh d),(392+sh d),.r ⟨W2.map nD,177,Ga⟩⟩] (480+sh d)⟩] 1000 64 (fun|⟨i,hi,_⟩,Q,ZB,ZD=>.B 2 ((i:Int)<k) (λ p0 Z9=>.K 1 (Ga&&Ao ((i:Int)<k)&&Ga) yB<|.K 2 (Wf (i*3+3) (v0 (v8 aY l))) Kt<|.lst (wx 3 (Ag (i*3) (v8 aY l))) ([cK (V7 (Tn.lit (wm l i lb))),zN (Tn.dist (wm l i lb)),zN (Tn.long (wm l i lb))]) (aI (k:=3) (i:=i) (λ _=>rfl) om om)<|.R 13 ((↑(Tn.long (wm l i lb)):Int)==0) (λ p1=>have Z8:=eq_of_beq p1;.I 8 (↑(V7 (Tn.lit (wm l i lb))):Int) Ku<|.K 6 (Ga&&Ao ((↑(V7 (Tn.lit (wm l i lb))):Int)<(↑286:Int))) OI<|.O 3 ((wo nD (aL 286 (bV T1 l i)))[0+V7 (Tn.lit (wm l i lb))*1]?) (nD (wm (aL 286 (bV T1 l i)) (V7 (Tn.lit (wm l i lb))) lb)) (@kM 286 (bV T1 l i) (l.getD i lb).lit.toNat (0+V7 (Tn.lit (wm l i lb))*1) gQ om)<|.I 2 ((↑(wm (aL 286 (bV T1 l i)) (V7 (Tn.lit (wm l i lb))) lb):Int)+1) (by(have z1:=dE 286 (bV T1 l i) (l.getD i lb).lit.toNat;have z2:=lx (T1:=T1) (l:=l) (i:=i);have h5:=Xb (l.getD i lb).lit;have h2:=bb hT1 hT2 (hl i);omega))<|.K 1 (Ga&&Ao ((↑(V7 (Tn.lit (wm l i lb))):Int)<(↑286:Int))) OI<|.K 2 (Ga&&Wf (0+V7 (Tn.lit (wm l i lb))*1+1) (v0 (wo nD (aL 286 (bV T1 l i))))) K7<|.lst (ac (wo nD (aL 286 (bV T1 l i))) (0+V7 (Tn.lit (wm l i lb))*1) [zI ((↑(wm (aL 286 (bV T1 l i)) (V7 (Tn.lit (wm l i lb))) lb):Int)+1)]) (wo nD (aL 286 (bV T1 l i++[V7 (Tn.lit (wm l i lb))]))) (@nj 286 (bV T1 l i) (l.getD i lb).lit.toNat (0+V7 (Tn.lit (wm l i lb))*1) (V7 (Tn.lit (wm l i lb))) gQ om om)<|.W 2 (i+1)<|.V 1 12 (zI (i+1)) (zN (i+1)) Ex<|.blk (384+sh d) (384+sh d) (V8 (wo nD (aL 286 (bV T1 l i++[V7 (Tn.lit (wm l i lb))]))) 176 Ga) (V8 (wo nD (aL 286 (bV T1 l (i+1)))) 176 Ga) (by(refine aq ?_;rw[(yg (T1:=T1) (T2:=T2) (i:=i) om om).1]))<|.blk (392+sh d) (392+sh d) (V8 (wo nD (aL 30 (dl T2 l i))) 177 Ga) (V8 (wo nD (aL 30 (dl T2 l (i+1)))) 177 Ga) (by(refine aq ?_;rw[(yg (T1:=T1) (T2:=T2) (i:=i) om om).2]))<|Aw ZB ⟨(i+1),om,⟨⟩⟩ Sm [(16,16),((96+sh d),(96+sh d)),((160+sh d),(160+sh d)),((256+sh d),(256+sh d)),((257+sh d),(257+sh d)),((384+sh d),(384+sh d)),((392+sh d),(392+sh d))] Ii) (λ p1=>have Z8:=ak p1;.C 7 142 Gd [] (.fn vR (@jV (T1) aG om om (Tn.long (wm l i lb)) gQ gQ))<|.K 23 (Ga&&Ao ((↑(257+ai T1 (Tn.long (wm l i lb))):Int)<(↑286:Int))) IT<|.O 3 ((wo nD (aL 286 (bV T1 l i)))[0+(257+ai T1 (Tn.long (wm l i lb)))*1]?) (nD (wm (aL 286 (bV T1 l i)) (257+ai T1 (Tn.long (wm l i lb))) lb)) (@kM 286 (bV T1 l i) (257+ai T1 (l.getD i lb).long) (0+(257+ai T1 (Tn.long (wm l i lb)))*1) gQ om)<|.I 2 ((↑(wm (aL 286 (bV T1 l i)) (257+ai T1 (Tn.long (wm l i lb))) lb):Int)+1) (by(have z1:=dE 286 (bV T1 l i) (257+ai T1 (l.getD i lb).long);have z2:=lx (T1:=T1) (l:=l) (i:=i);have h5:=Xb (l.getD i lb).lit;have h2:=bb hT1 hT2 (hl i);omega))<|.K 1 (Ga&&Ao ((↑(257+ai T1 (Tn.long (wm l i lb))):Int)<(↑286:Int))) IT<|.K 2 (Ga&&Wf (0+(257+ai T1 (Tn.long (wm l i lb)))*1+1) (v0 (wo nD (aL 286 (bV T1 l i))))) K7<|.lst (ac (wo nD (aL 286 (bV T1 l i))) (0+(257+ai T1 (Tn.long (wm l i lb)))*1) [zI ((↑(wm (aL 286 (bV T1 l i)) (257+ai T1 (Tn.long (wm l i lb))) lb):Int)+1)]) (wo nD (aL 286 (bV T1 l i++[257+ai T1 (Tn.long (wm l i lb))]))) (@nj 286 (bV T1 l i) (257+ai T1 (l.getD i lb).long) (0+(257+ai T1 (Tn.long (wm l i lb)))*1) (257+ai T1 (Tn.long (wm l i lb))) gQ om om)<|.C 7 143 Gd [] (.fn vS (@oz (T2) aG om om (Tn.dist (wm l i lb)) gQ gQ))<|.K 22 (Ga&&Ao ((↑(ai T2 (Tn.dist (wm l i lb))):Int)<(↑30:Int))) IT<|.O 3 ((wo nD (aL 30 (dl T2 l i)))[0+ai T2 (Tn.dist (wm l i lb))*1]?) (nD (wm (aL 30 (dl T2 l i)) (ai T2 (Tn.dist (wm l i lb))) lb)) (@kM 30 (dl T2 l i) (ai T2 (l.getD i lb).dist) (0+ai T2 (Tn.dist (wm l i lb))*1) gQ om)<|.I 2 ((↑(wm (aL 30 (dl T2 l i)) (ai T2 (Tn.dist (wm l i lb))) lb):Int)+1) (by(have z1:=dE 30 (dl T2 l i) (ai T2 (l.getD i lb).dist);have z2:=rO (T2:=T2) (l:=l) i om;have h5:=Xb (l.getD i lb).lit;have h2:=bb hT1 hT2 (hl i);omega))<|.K 1 (Ga&&Ao ((↑(ai T2 (Tn.dist (wm l i lb))):Int)<(↑30:Int))) IT<|.K 2 (Ga&&Wf (0+ai T2 (Tn.dist (wm l i lb))*1+1) (v0 (wo nD (aL 30 (dl T2 l i))))) K7<|.lst (ac (wo nD (aL 30 (dl T2 l i))) (0+ai T2 (Tn.dist (wm l i lb))*1) [zI ((↑(wm (aL 30 (dl T2 l i)) (ai T2 (Tn.dist (wm l i lb))) lb):Int)+1)]) (wo nD (aL 30 (dl T2 l i++[ai T2 (Tn.dist (wm l i lb))]))) (@nj 30 (dl T2 l i) (ai T2 (l.getD i lb).dist) (0+ai T2 (Tn.dist (wm l i lb))*1) (ai T2 (Tn.dist (wm l i lb))) gQ om om)<|.W 2 (i+1)<|.V 1 12 (zI (i+1)) (zN (i+1)) Ex<|.blk (384+sh d) (384+sh d) (V8 (wo nD (aL 286 (bV T1 l i++[257+ai T1 (Tn.long (wm l i lb))]))) 176 Ga) (V8 (wo nD (aL 286 (bV T1 l (i+1)))) 176 Ga) (by(refine aq ?_;rw[(yh (T1:=T1) (T2:=T2) (i:=i) om om).1]))<|.blk (392+sh d) (392+sh d) (V8 (wo nD (aL 30 (dl T2 l i++[ai T2 (Tn.dist (wm l i lb))]))) 177 Ga) (V8 (wo nD (aL 30 (dl T2 l (i+1)))) 177 Ga) (by(refine aq ?_;rw[(yh (T1:=T1) (T2:=T2) (i:=i) om om).2]))<|Aw ZB ⟨(i+1),om,⟨⟩⟩ Sm [(16,16),((96+sh d),(96+sh d)),((160+sh d),(160+sh d)),((256+sh d),(256+sh d)),((257+sh d),(257+sh d)),((384+sh d),(384+sh d)),((392+sh d),(392+sh d))] Ii)) (λ p0 Z9=>.val 12 (zN i) (zN k) MJ<|.blk (384+sh d) (384+sh d) (V8 (wo nD (aL 286 (bV T1 l i))) 176 Ga) (V8 (wo nD (aL 286 (bV T1 l k))) 176 Ga) MJ<|.blk (392+sh d) (392+sh d) (V8 (wo nD (aL 30 (dl T2 l i))) 177 Ga) (V8 (wo nD W2) 177 Ga) (by(rw[show i=k from by omega,w2]))<|BO ZD 0 (():Unit) rfl [(16,16),((96+sh d),(96+sh d)),((160+sh d),(160+sh d)),((256+sh d),(256+sh d)),((257+sh d),(257+sh d)),((384+sh d),(384+sh d)),((392+sh d),(392+sh d))] Ii)) (fun|⟨i,hi,_⟩=>by cases d<;>kernel_rfl) ⟨(0),om,⟨⟩⟩ [(16,16),((96+sh d),(96+sh d)),((160+sh d),(160+sh d)),((256+sh d),(256+sh d)),((257+sh d),(257+sh d)),((384+sh d),(384+sh d)),((392+sh d),(392+sh d))] Ii (bB (fun|()=>.O 11 ((wo nD (aL 286 (bV T1 l k)))[256]?) (nD (wm (aL 286 (bV T1 l k)) 256 lb)) (@kM 286 (bV T1 l k) 256 (256) om om)<|.I 2 ((↑(wm (aL 286 (bV T1 l k)) 256 lb):Int)+1) (by(have z1:=dE 286 (bV T1 l k) 256;have z2:=lx (T1:=T1) (l:=l) (i:=k);omega))<|.K 4 (Ga&&Wf 257 (v0 (wo nD (aL 286 (bV T1 l k))))) (by(rw[Wj,cN];rfl))<|.lst (ac (wo nD (aL 286 (bV T1 l k))) 256 [zI ((↑(wm (aL 286 (bV T1 l k)) 256 lb):Int)+1)]) (wo nD W1) (@Pt 286 (bV T1 l k) 256 W1 om (256) (256) om om om)<|.K 1 (Ga&&Wf 286 (v0 (wo nD W1))&&Ga) wj<|.L 1 108 Gd [] (Ga&&(Ga&&Wf 286 (v0 (wo nD W1))&&Ga&&ab (bif Ga&&V9 286 (v0 (wo nD W1))then wo nD W1 else wx 286 (Ag 0 (wo nD W1))))&&Ga) wj ([Wu Ga 286 1 (bif Ga&&V9 286 (v0 (wo nD W1))then wo nD W1 else wx 286 (Ag 0 (wo nD W1))),zI 15]) K6 (.fn Q108 (@CP (W1) (286) om om om (15) yB om (A) aG))<|.K 7 (Ga&&Wf 30 (v0 (wo nD W2))&&Ga) wj<|.L 1 108 Gd [] (Ga&&(Ga&&Wf 30 (v0 (wo nD W2))&&Ga&&ab (bif Ga&&V9 30 (v0 (wo nD W2))then wo nD W2 else wx 30 (Ag 0 (wo nD W2))))&&Ga) wj ([Wu Ga 30 1 (bif Ga&&V9 30 (v0 (wo nD W2))then wo nD W2 else wx 30 (Ag 0 (wo nD W2))),zI 15]) K6 (.fn Q108 (@CP (W2) (30) om om om (15) yB om (B) aG))<|.L 10 109 Gd [] (Ga&&(Ga&&Wf 286 (v0 (wo dB A))&&Ga&&ab (bif Ga&&V9 286 (v0 (wo dB A))then wo dB A else wx 286 (Ag 0 (wo dB A))))&&Ga) wj ([Wu Ga 286 1 (bif Ga&&V9 286 (v0 (wo dB A))then wo dB A else wx 286 (Ag 0 (wo dB A))),zI 257]) K6 (.fn Q109 (@wk (A) (286) om om (257) yB (n1) aG))<|.K 1 (aV z9 (Ge (n1:Int)) z9 286&&Ga) wj<|.L 3 109 Gd [] (Ga&&(Ga&&Wf 30 (v0 (wo dB B))&&Ga&&ab (bif Ga&&V9 30 (v0 (wo dB B))then wo dB B else wx 30 (Ag 0 (wo dB B))))&&Ga) wj ([Wu Ga 30 1 (bif Ga&&V9 30 (v0 (wo dB B))then wo dB B else wx 30 (Ag 0 (wo dB B))),zI 1]) K6 (.fn Q109 (@wk (B) (30) om om (1) yB (n2) aG))<|.K 1 (aV z9 (Ge (n2:Int)) z9 30&&Ga) wj<|.L 7 68 Gd [] (Ga&&(Ga&&(wB (wo dB A) n1 1&&(wB (wo dB B) n2 1&&Ga)))&&Ga) kQ ([Wu Ga 2 1 [wD (wo dB A) n1 1,wD (wo dB B) n2 1]]) (by exact(Wn (D.sim.slc (cells:=[Wu (Wf 1 n1) n1 1 (bif Ga&&V9 (n1*1) (v0 (wo dB A))then wo dB A else wx (n1*1) (Ag 0 (wo dB A))),Wu (Wf 1 n2) n2 1 (bif Ga&&V9 (n2*1) (v0 (wo dB B))then wo dB B else wx (n2*1) (Ag 0 (wo dB B)))]) (cells':=[Wu Gd n1 1 (wo dB (wx n1 A)),Wu Gd n2 1 (wo dB (wx n2 B))]) rfl (Wn (D.sim.slw rfl ((ar (A) (0) (n1*1)).trans (by(simp;done)))) (Wn (D.sim.slw rfl ((ar (B) (0) (n2*1)).trans (by(simp;done)))) trivial))) trivial)) (.fn Q68 (@K4 (Gd) (Gd) (wx n1 A) (wx n2 B) (n1) (n2) om om om om))<|.L 1 110 Gd [] (Ga&&(wB (wo dB (wx n1 A++wx n2 B)) (n1+n2) 1)&&Ga) kQ ([wD (wo dB (wx n1 A++wx n2 B)) (n1+n2) 1]) (by exact(Wn (D.sim.slw rfl (ao (by(simp;have y3:=oA 256;omega))|>.trans rfl)) trivial)) (Ws (ap.of Tryz.func110 rfl rfl) (@Um (wx n1 A++wx n2 B) (n1+n2) om om om (R0) aG))<|.M 12 (848+sh d) (848+sh d) (V8 [zI 0,zI 0,zI 0,zI 0,zI 0,zI 0,zI 0,zI 0,zI 0,zI 0,zI 0,zI 0,zI 0,zI 0,zI 0,zI 0,zI 0,zI 0,zI 0] 185 Gd) (V8 (wo nD (aL 19 (gv R0 0))) 185 Gd) (by(refine aq ?_;rw[PH,ye,Ys];rfl))<|BY T_ok ae Gd 149 (368+sh d) (am Tryz.prog 88 0) (λ(x:(i:Nat)×'(hi:i<=R0.length)×'Unit)=>match x with|⟨i,hi,_⟩=>Wr [(0,WA 16 16 0),(4,Wb (408+sh d) (408+sh d) 0 n1 1),(5,Wb (416+sh d) (416+sh d) 0 n2 1),(8,Wb (424+sh d) (424+sh d) 0 (v0 R0) 2),(10,WA (432+sh d) (432+sh d) 0),(55,Wb (424+sh d) (424+sh d) 0 (v0 R0) 2),(56,zN (v0 R0)),(57,nD i)] [⟨16,16,16,16,.b ⟨[Wb (160+sh d) (160+sh d) 0 2 2],123,Gd⟩⟩,⟨(96+sh d),(96+sh d),(96+sh d),(96+sh d),.b ⟨[ah e,zI 1,uI 2,zI 2],126,Gd⟩⟩,⟨(160+sh d),(160+sh d),(160+sh d),(160+sh d),.b ⟨[ah e,zI 1,uI 2,zI 2],126,Ga⟩⟩,⟨(256+sh d),(256+sh d),(256+sh d),(256+sh d),.b ⟨wo dB L,5,Ga⟩⟩,⟨(257+sh d),(257+sh d),(257+sh d),(257+sh d),.b ⟨wo dB F,5,Ga⟩⟩,⟨(408+sh d),(408+sh d),(600+sh d),(600+sh d),.b ⟨wo dB A,5,Ga⟩⟩,⟨(416+sh d),(416+sh d),(648+sh d),(648+sh d),.b ⟨wo dB B,5,Ga⟩⟩,⟨(424+sh d),(424+sh d),(800+sh d),(800+sh d),.b ⟨v8 dh R0,187,Ga⟩⟩,⟨(432+sh d),(432+sh d),(848+sh d),(848+sh d),.r ⟨(aL 19 (gv R0 i)).map nD,185,Ga⟩⟩] (440+sh d)) (λ(x:(i:Nat)×'(hi:i<=R0.length)×'Unit)=>match x with|⟨i,hi,_⟩=>R0.length-i) [⟨Unit,.exit 0,λ()=>Wr [(0,WA 16 16 0),(4,Wb (408+sh d) (408+sh d) 0 n1 1),(5,Wb (416+sh d) (416+sh d) 0 n2 1),(8,Wb (424+sh d) (424+sh d) 0 (v0 R0) 2),(10,WA (432+sh d) (432+sh d) 0),(55,Wb (424+sh d) (424+sh d) 0 (v0 R0) 2),(56,zN (v0 R0))] [⟨16,16,16,16,.b ⟨[Wb (160+sh d) (160+sh d) 0 2 2],123,Gd⟩⟩,⟨(96+sh d),(96+sh d),(96+sh d),(96+sh d),.b ⟨[ah e,zI 1,uI 2,zI 2],126,Gd⟩⟩,⟨(160+sh d),(160+sh d),(160+sh d),(160+sh d),.b ⟨[ah e,zI 1,uI 2,zI 2],126,Ga⟩⟩,⟨(256+sh d),(256+sh d),(256+sh d),(256+sh d),.b ⟨wo dB L,5,Ga⟩⟩,⟨(257+sh d),(257+sh d),(257+sh d),(257+sh d),.b ⟨wo dB F,5,Ga⟩⟩,⟨(408+sh d),(408+sh d),(600+sh d),(600+sh d),.b ⟨wo dB A,5,Ga⟩⟩,⟨(416+sh d),(416+sh d),(648+sh d),(648+sh d),.b ⟨wo dB B,5,Ga⟩⟩,⟨(424+sh d),(424+sh d),(800+sh d),(800+sh d),.b ⟨v8 dh R0,187,Ga⟩⟩,⟨(432+sh d),(432+sh d),(848+sh d),(848+sh d),.r ⟨W3.map nD,185,Ga⟩⟩] (440+sh d)⟩] 1000 64 (fun|⟨i,hi,_⟩,Q,ZB,ZD=>.B 2 ((i:Int)<(↑(v0 R0):Int)) (λ p2 Z7=>.K 1 (Ga&&Ao ((i:Int)<(↑(v0 R0):Int))) aG<|.K 2 (Wf (0+i*2+2) (v0 (v8 dh R0))) PC<|.lst (wx 2 (Ag (0+i*2) (v8 dh R0))) ([zN (Rn.s (wm R0 i lb)),zN (Rn.x (wm R0 i lb))]) (aI (k:=2) (i:=i) (λ _=>rfl) om om)<|.K 12 (Ga&&Ao ((↑(Rn.s (wm R0 i lb)):Int)<(↑19:Int))) K8<|.O 3 ((wo nD (aL 19 (gv R0 i)))[0+Rn.s (wm R0 i lb)*1]?) (nD (wm (aL 19 (gv R0 i)) (Rn.s (wm R0 i lb)) lb)) (@kM 19 (gv R0 i) (R0.getD i lb).s (0+Rn.s (wm R0 i lb)*1) CL om)<|.I 2 ((↑(wm (aL 19 (gv R0 i)) (Rn.s (wm R0 i lb)) lb):Int)+1) CL<|.K 1 (Ga&&Ao ((↑(Rn.s (wm R0 i lb)):Int)<(↑19:Int))) K8<|.K 2 (Ga&&Wf (0+Rn.s (wm R0 i lb)*1+1) (v0 (wo nD (aL 19 (gv R0 i))))) (by(simp only[Wj,cN,WM,WV];have z:=dE 19 (gv R0 i) (R0.getD i lb).s;have z2:=jX R0 i;have z3:=oR i;refine We ?_;omega))<|.lst (ac (wo nD (aL 19 (gv R0 i))) (0+Rn.s (wm R0 i lb)*1) [zI ((↑(wm (aL 19 (gv R0 i)) (Rn.s (wm R0 i lb)) lb):Int)+1)]) (wo nD (aL 19 (gv R0 i++[Rn.s (wm R0 i lb)]))) (@nj 19 (gv R0 i) (R0.getD i lb).s (0+Rn.s (wm R0 i lb)*1) (Rn.s (wm R0 i lb)) CL om om)<|.W 2 (i+1)<|.V 1 57 (zI (i+1)) (zN (i+1)) Ex<|.blk (432+sh d) (432+sh d) (V8 (wo nD (aL 19 (gv R0 i++[Rn.s (wm R0 i lb)]))) 185 Ga) (V8 (wo nD (aL 19 (gv R0 (i+1)))) 185 Ga) (by(refine aq ?_;rw[PJ (i:=i) om]))<|Aw ZB ⟨(i+1),om,⟨⟩⟩ PD [(16,16),((96+sh d),(96+sh d)),((160+sh d),(160+sh d)),((256+sh d),(256+sh d)),((257+sh d),(257+sh d)),((408+sh d),(408+sh d)),((416+sh d),(416+sh d)),((424+sh d),(424+sh d)),((432+sh d),(432+sh d))] Ii) (λ p2 Z7=>.blk (432+sh d) (432+sh d) (V8 (wo nD (aL 19 (gv R0 i))) 185 Ga) (V8 (wo nD W3) 185 Ga) (by(rw[show i=R0.length from by omega,PI,w3]))<|BO ZD 0 (():Unit) rfl [(16,16),((96+sh d),(96+sh d)),((160+sh d),(160+sh d)),((256+sh d),(256+sh d)),((257+sh d),(257+sh d)),((408+sh d),(408+sh d)),((416+sh d),(416+sh d)),((424+sh d),(424+sh d)),((432+sh d),(432+sh d))] Ii)) (fun|⟨i,hi,_⟩=>by cases d<;>kernel_rfl) ⟨(0),om,⟨⟩⟩ [(16,16),((96+sh d),(96+sh d)),((160+sh d),(160+sh d)),((256+sh d),(256+sh d)),((257+sh d),(257+sh d)),((600+sh d),(600+sh d)),((648+sh d),(648+sh d)),((800+sh d),(800+sh d)),((848+sh d),(848+sh d))] Ii (bB (fun|()=>.K 1 (Ga&&Wf 19 (v0 (wo nD W3))&&Ga) wj<|.L 1 108 Gd [] (Ga&&(Ga&&Wf 19 (v0 (wo nD W3))&&Ga&&ab (bif Ga&&V9 19 (v0 (wo nD W3))then wo nD W3 else wx 19 (Ag 0 (wo nD W3))))&&Ga) wj ([Wu Ga 19 1 (bif Ga&&V9 19 (v0 (wo nD W3))then wo nD W3 else wx 19 (Ag 0 (wo nD W3))),zI 7]) K6 (.fn Q108 (@CP (W3) (19) om om om (7) yB om (C) aG))<|.C 9 111 Gd [] (.fn SJ (@Fs))<|.s 1<|.nils 15 (520+sh d) 1 5<|.blk (520+sh d) (520+sh d) (V8 [] 5 Ga) (V8 (wo dB (iK C 0)) 5 Ga) (by(rw[IH];rfl))<|BY T_ok ae Gd 149 (368+sh d) (am Tryz.prog 88 1) (λ(x:(i:Nat)×'(hi:i<=19)×'Unit)=>match x with|⟨i,hi,_⟩=>Wr [(0,WA 16 16 0),(4,Wb (408+sh d) (408+sh d) 0 n1 1),(5,Wb (416+sh d) (416+sh d) 0 n2 1),(8,Wb (424+sh d) (424+sh d) 0 (v0 R0) 2),(13,Wb (432+sh d) (432+sh d) 0 19 1),(15,(Wb (440+sh d) (440+sh d) (0) (i) 1)),(73,W6 [zI 16,zI 17,zI 18,zI 0,zI 8,zI 7,zI 9,zI 6,zI 10,zI 5,zI 11,zI 4,zI 12,zI 3,zI 13,zI 2,zI 14,zI 1,zI 15]),(74,nD i)] [⟨16,16,16,16,.b ⟨[Wb (160+sh d) (160+sh d) 0 2 2],123,Gd⟩⟩,⟨(96+sh d),(96+sh d),(96+sh d),(96+sh d),.b ⟨[ah e,zI 1,uI 2,zI 2],126,Gd⟩⟩,⟨(160+sh d),(160+sh d),(160+sh d),(160+sh d),.b ⟨[ah e,zI 1,uI 2,zI 2],126,Ga⟩⟩,⟨(256+sh d),(256+sh d),(256+sh d),(256+sh d),.b ⟨wo dB L,5,Ga⟩⟩,⟨(257+sh d),(257+sh d),(257+sh d),(257+sh d),.b ⟨wo dB F,5,Ga⟩⟩,⟨(408+sh d),(408+sh d),(408+sh d),(408+sh d),.b ⟨wo dB A,5,Ga⟩⟩,⟨(416+sh d),(416+sh d),(416+sh d),(416+sh d),.b ⟨wo dB B,5,Ga⟩⟩,⟨(424+sh d),(424+sh d),(424+sh d),(424+sh d),.b ⟨v8 dh R0,187,Ga⟩⟩,⟨(432+sh d),(432+sh d),(448+sh d),(448+sh d),.b ⟨wo dB C,5,Ga⟩⟩,⟨(440+sh d),(440+sh d),(520+sh d),(520+sh d),.b ⟨(iK C i).map dB,5,Ga⟩⟩] (448+sh d)) (λ(x:(i:Nat)×'(hi:i<=19)×'Unit)=>match x with|⟨i,hi,_⟩=>19-i) [⟨Unit,.exit 2,λ()=>Wr [(0,WA 16 16 0),(4,Wb (408+sh d) (408+sh d) 0 n1 1),(5,Wb (416+sh d) (416+sh d) 0 n2 1),(8,Wb (424+sh d) (424+sh d) 0 (v0 R0) 2),(13,Wb (432+sh d) (432+sh d) 0 19 1),(15,(Wb (440+sh d) (440+sh d) (0) (19) 1)),(73,W6 [zI 16,zI 17,zI 18,zI 0,zI 8,zI 7,zI 9,zI 6,zI 10,zI 5,zI 11,zI 4,zI 12,zI 3,zI 13,zI 2,zI 14,zI 1,zI 15])] [⟨16,16,16,16,.b ⟨[Wb (160+sh d) (160+sh d) 0 2 2],123,Gd⟩⟩,⟨(96+sh d),(96+sh d),(96+sh d),(96+sh d),.b ⟨[ah e,zI 1,uI 2,zI 2],126,Gd⟩⟩,⟨(160+sh d),(160+sh d),(160+sh d),(160+sh d),.b ⟨[ah e,zI 1,uI 2,zI 2],126,Ga⟩⟩,⟨(256+sh d),(256+sh d),(256+sh d),(256+sh d),.b ⟨wo dB L,5,Ga⟩⟩,⟨(257+sh d),(257+sh d),(257+sh d),(257+sh d),.b ⟨wo dB F,5,Ga⟩⟩,⟨(408+sh d),(408+sh d),(408+sh d),(408+sh d),.b ⟨wo dB A,5,Ga⟩⟩,⟨(416+sh d),(416+sh d),(416+sh d),(416+sh d),.b ⟨wo dB B,5,Ga⟩⟩,⟨(424+sh d),(424+sh d),(424+sh d),(424+sh d),.b ⟨v8 dh R0,187,Ga⟩⟩,⟨(432+sh d),(432+sh d),(448+sh d),(448+sh d),.b ⟨wo dB C,5,Ga⟩⟩,⟨(440+sh d),(440+sh d),(520+sh d),(520+sh d),.b ⟨O.map dB,5,Ga⟩⟩] (448+sh d)⟩] 1000 64 (fun|⟨i,hi,_⟩,Q,ZB,ZD=>.B 2 ((i:Int)<19) (λ p3 Z6=>.K 1 (Ga&&Ao ((i:Int)<(↑19:Int))) aG<|.opt ((wo nD qq)[i*1]?) (nD (Ad C (i*1))) (@IJ C (i*1) om)<|.K 5 (Ga&&Ao ((↑(Ad C (i*1)):Int)<(↑19:Int))) (by(have y:=rR C (i*1) om;rw[WM];refine decide_eq_true ?_;omega))<|.O 2 ((wo dB C)[0+Ad C (i*1)*1]?) (dB (wm C (0+Ad C (i*1)*1) lb)) (aj _ _ (by(have y:=rR C (i*1) om;omega)))<|.K 3 (Ga&&V9 (i*1) (v0 (wo dB (iK C i)))&&Ga&&Ga&&Ga&&Ga&&Wf ((i+1)*1) 140737488355328) (by(rw[Wj,rP C (i:=i) (by(omega))];simp only[Wx,Xk,WM,WV];refine We ?_;(omega)))<|.W 3 (i+1)<|.V 1 74 (zI (i+1)) (zN (i+1)) Ex<|.blk (520+sh d) (520+sh d) (V8 (wo dB (iK C i)++[cK (V7 (wm C (0+Ad C (i*1)*1) lb))]) 5 Ga) (V8 (wo dB (iK C (i+1))) 5 Ga) (by(refine aq ?_;rw[II C (i:=i) om,W4];simp only[rQ,Wx,WE];rfl))<|Aw ZB ⟨(i+1),om,⟨⟩⟩ (by show 19-(i+1)<19-i;clear ZB ZD;omega) [(16,16),((96+sh d),(96+sh d)),((160+sh d),(160+sh d)),((256+sh d),(256+sh d)),((257+sh d),(257+sh d)),((408+sh d),(408+sh d)),((416+sh d),(416+sh d)),((424+sh d),(424+sh d)),((432+sh d),(432+sh d)),((520+sh d),(520+sh d))] Ii) (λ p3 Z6=>.val 15 (Wb (440+sh d) (440+sh d) 0 i 1) (Wb (440+sh d) (440+sh d) 0 19 1) wj<|.blk (440+sh d) (440+sh d) (V8 (wo dB (iK C i)) 5 Ga) (V8 (wo dB O) 5 Ga) (by(rw[show i=19 from by omega,eO]))<|BO ZD 0 (():Unit) rfl [(16,16),((96+sh d),(96+sh d)),((160+sh d),(160+sh d)),((256+sh d),(256+sh d)),((257+sh d),(257+sh d)),((408+sh d),(408+sh d)),((416+sh d),(416+sh d)),((424+sh d),(424+sh d)),((432+sh d),(432+sh d)),((440+sh d),(440+sh d))] Ii)) (fun|⟨i,hi,_⟩=>by cases d<;>kernel_rfl) ⟨(0),om,⟨⟩⟩ [(16,16),((96+sh d),(96+sh d)),((160+sh d),(160+sh d)),((256+sh d),(256+sh d)),((257+sh d),(257+sh d)),((408+sh d),(408+sh d)),((416+sh d),(416+sh d)),((424+sh d),(424+sh d)),((448+sh d),(448+sh d)),((520+sh d),(520+sh d))] Ii (bB (fun|()=>.L 3 109 Gd [] (Ga&&(Ga&&Wf 19 (v0 (wo dB O))&&Ga&&ab (bif Ga&&V9 19 (v0 (wo dB O))then wo dB O else wx 19 (Ag 0 (wo dB O))))&&Ga) wj ([Wu Ga 19 1 (bif Ga&&V9 19 (v0 (wo dB O))then wo dB O else wx 19 (Ag 0 (wo dB O))),zI 4]) K6 (.fn Q109 (@wk (O) (19) om om (4) yB (n3) aG))<|.K 1 (aV z9 (Ge (n3:Int)) z9 19&&Ga) wj<|.W 6 (n1-256)<|.W 2 (n1-256-1)<|.O 1 (au .u32 ((n1:Int)-256-1)) (uI (n1-256-1)) (ax om)<|.W 6 (n2-1)<|.O 1 (au .u32 ((n2:Int)-1)) (uI (n2-1)) (ax om)<|.W 6 (n3-4)<|.O 1 (au .u32 ((n3:Int)-4)) (uI (n3-4)) (ax om)<|.M 28 16 16 (V8 [Wb (688+sh d) (688+sh d) 0 5 2] 123 Gd) (V8 [Wb (688+sh d) (688+sh d) 0 (v0 (cI H3 gJ (wx n3 O) 0)) 2] 123 Gd) (by(rw[kK,lH3]))<|.blk (688+sh d) (688+sh d) (V8 [ah e,zI 1,uI 2,zI 2,uI (n1-256-1),zI 5,uI (n2-1),zI 5,uI (n3-4),zI 4] 126 Ga) (V8 (v8 aC (cI H3 gJ (wx n3 O) 0)) 126 Ga) (by(refine aq ?_;rw[kK,hH3,hH];exact Pu om om om))<|BY T_ok ae Gd 149 (368+sh d) (am Tryz.prog 88 2) (λ(x:(i:Nat)×'(hi:i<=n3)×'Unit)=>match x with|⟨i,hi,_⟩=>Wr [(0,WA 16 16 0),(4,Wb (400+sh d) (400+sh d) 0 n1 1),(5,Wb (408+sh d) (408+sh d) 0 n2 1),(8,Wb (416+sh d) (416+sh d) 0 (v0 R0) 2),(13,Wb (424+sh d) (424+sh d) 0 19 1),(108,Wb (432+sh d) (432+sh d) 0 n3 1),(109,zN n3),(110,nD i)] [⟨16,16,16,16,.b ⟨[(Wb (440+sh d) (440+sh d) (0) ((cI H3 gJ (O.take n3) i).length) 2)],123,Gd⟩⟩,⟨(96+sh d),(96+sh d),(96+sh d),(96+sh d),.b ⟨[ah e,zI 1,uI 2,zI 2],126,Gd⟩⟩,⟨(256+sh d),(256+sh d),(256+sh d),(256+sh d),.b ⟨wo dB L,5,Ga⟩⟩,⟨(257+sh d),(257+sh d),(257+sh d),(257+sh d),.b ⟨wo dB F,5,Ga⟩⟩,⟨(400+sh d),(400+sh d),(408+sh d),(408+sh d),.b ⟨wo dB A,5,Ga⟩⟩,⟨(408+sh d),(408+sh d),(416+sh d),(416+sh d),.b ⟨wo dB B,5,Ga⟩⟩,⟨(416+sh d),(416+sh d),(424+sh d),(424+sh d),.b ⟨v8 dh R0,187,Ga⟩⟩,⟨(424+sh d),(424+sh d),(432+sh d),(432+sh d),.b ⟨wo dB C,5,Ga⟩⟩,⟨(432+sh d),(432+sh d),(440+sh d),(440+sh d),.b ⟨wo dB O,5,Ga⟩⟩,⟨(440+sh d),(440+sh d),(688+sh d),(688+sh d),.b ⟨(cI H3 gJ (O.take n3) i).flatMap aC,126,Ga⟩⟩] (448+sh d)) (λ(x:(i:Nat)×'(hi:i<=n3)×'Unit)=>match x with|⟨i,hi,_⟩=>n3-i) [⟨Unit,.exit 4,λ()=>Wr [(0,WA 16 16 0),(4,Wb (400+sh d) (400+sh d) 0 n1 1),(5,Wb (408+sh d) (408+sh d) 0 n2 1),(8,Wb (416+sh d) (416+sh d) 0 (v0 R0) 2),(13,Wb (424+sh d) (424+sh d) 0 19 1),(108,Wb (432+sh d) (432+sh d) 0 n3 1),(109,zN n3)] [⟨16,16,16,16,.b ⟨[(Wb (440+sh d) (440+sh d) (0) (H4.length) 2)],123,Gd⟩⟩,⟨(96+sh d),(96+sh d),(96+sh d),(96+sh d),.b ⟨[ah e,zI 1,uI 2,zI 2],126,Gd⟩⟩,⟨(256+sh d),(256+sh d),(256+sh d),(256+sh d),.b ⟨wo dB L,5,Ga⟩⟩,⟨(257+sh d),(257+sh d),(257+sh d),(257+sh d),.b ⟨wo dB F,5,Ga⟩⟩,⟨(400+sh d),(400+sh d),(408+sh d),(408+sh d),.b ⟨wo dB A,5,Ga⟩⟩,⟨(408+sh d),(408+sh d),(416+sh d),(416+sh d),.b ⟨wo dB B,5,Ga⟩⟩,⟨(416+sh d),(416+sh d),(424+sh d),(424+sh d),.b ⟨v8 dh R0,187,Ga⟩⟩,⟨(424+sh d),(424+sh d),(432+sh d),(432+sh d),.b ⟨wo dB C,5,Ga⟩⟩,⟨(432+sh d),(432+sh d),(440+sh d),(440+sh d),.b ⟨wo dB O,5,Ga⟩⟩,⟨(440+sh d),(440+sh d),(688+sh d),(688+sh d),.b ⟨H4.flatMap aC,126,Ga⟩⟩] (448+sh d)⟩] 1000 64 (fun|⟨i,hi,_⟩,Q,ZB,ZD=>.B 2 ((i:Int)<n3) (λ p4 Z5=>.K 1 (Ga&&Ao ((i:Int)<n3)) aG<|.O 2 ((wo dB O)[0+i*1]?) (dB (wm O (0+i*1) lb)) (aj _ _ om)<|.O 4 (au .u32 (↑(V7 (wm O (0+i*1) lb)):Int)) (ah (V7 (wm O (0+i*1) lb))) (ax Ku)<|.K 17 (Ga&&V9 (v0 (cI H3 gJ (wx n3 O) i)*2) (v0 (v8 aC (cI H3 gJ (wx n3 O) i)))&&Ga&&Ga&&Ga&&Ga&&Wf ((v0 (cI H3 gJ (wx n3 O) i)+1)*16) 140737488355328) (by(simp only[bM,lX3 i om,Xk,WM,WV];refine We ?_;(omega)))<|.W 9 (i+1)<|.V 1 110 (zI (i+1)) (zN (i+1)) Ex<|.blk 16 16 (V8 [Wb (576+sh d) (576+sh d) 0 (v0 (cI H3 gJ (wx n3 O) i)+1) 2] 123 Gd) (V8 [Wb (576+sh d) (576+sh d) 0 (v0 (cI H3 gJ (wx n3 O) (i+1))) 2] 123 Gd) (by(rw[kL (i:=i) om,Wc];rfl))<|.blk (576+sh d) (576+sh d) (V8 (v8 aC (cI H3 gJ (wx n3 O) i)++[ah (V7 (wm O (0+i*1) lb)),zI 3]) 126 Ga) (V8 (v8 aC (cI H3 gJ (wx n3 O) (i+1))) 126 Ga) (by(refine aq ?_;rw[kL (i:=i) om,cu];unfold gJ;rw[ym om,WE,Wx];rfl))<|Aw ZB ⟨(i+1),om,⟨⟩⟩ (by show n3-(i+1)<n3-i;clear ZB ZD;omega) [(16,16),((96+sh d),(96+sh d)),((256+sh d),(256+sh d)),((257+sh d),(257+sh d)),((400+sh d),(400+sh d)),((408+sh d),(408+sh d)),((416+sh d),(416+sh d)),((424+sh d),(424+sh d)),((432+sh d),(432+sh d)),((576+sh d),(576+sh d))] Ii) (λ p4 Z5=>.blk 16 16 (V8 [Wb (440+sh d) (440+sh d) 0 (v0 (cI H3 gJ (wx n3 O) i)) 2] 123 Gd) (V8 [Wb (440+sh d) (440+sh d) 0 (v0 H4) 2] 123 Gd) (by(rw[show i=n3 from by omega,hH4]))<|.blk (440+sh d) (440+sh d) (V8 (v8 aC (cI H3 gJ (wx n3 O) i)) 126 Ga) (V8 (v8 aC H4) 126 Ga) (by(rw[show i=n3 from by omega,hH4]))<|BO ZD 0 (():Unit) rfl [(16,16),((96+sh d),(96+sh d)),((256+sh d),(256+sh d)),((257+sh d),(257+sh d)),((400+sh d),(400+sh d)),((408+sh d),(408+sh d)),((416+sh d),(416+sh d)),((424+sh d),(424+sh d)),((432+sh d),(432+sh d)),((440+sh d),(440+sh d))] Ii)) (fun|⟨i,hi,_⟩=>by cases d<;>kernel_rfl) ⟨(0),om,⟨⟩⟩ [(16,16),((96+sh d),(96+sh d)),((256+sh d),(256+sh d)),((257+sh d),(257+sh d)),((408+sh d),(408+sh d)),((416+sh d),(416+sh d)),((424+sh d),(424+sh d)),((432+sh d),(432+sh d)),((440+sh d),(440+sh d)),((688+sh d),(688+sh d))] Ii (bB (fun|()=>.L 2 112 Gd [] (Ga&&(Ga&&Wf 19 (v0 (wo dB C))&&Ga&&ab (bif Ga&&V9 19 (v0 (wo dB C))then wo dB C else wx 19 (Ag 0 (wo dB C))))&&Ga) wj ([Wu Ga 19 1 (bif Ga&&V9 19 (v0 (wo dB C))then wo dB C else wx 19 (Ag 0 (wo dB C))),zI 7]) K6 (.fn Q112 (@kB (C) (19) om (7) yB om))<|.M 10 16 16 (V8 [Wb (440+sh d) (440+sh d) 0 (v0 H4) 2] 123 Gd) (V8 [Wb (440+sh d) (440+sh d) 0 (v0 (cI H4 (iv (aa C)) R0 0)) 2] 123 Gd) (by(refine aq ?_;rw[kK]))<|.blk (440+sh d) (440+sh d) (V8 (v8 aC H4) 126 Ga) (V8 (v8 aC (cI H4 (iv (aa C)) R0 0)) 126 Ga) (by(refine aq ?_;rw[kK]))<|BY T_ok ae Gd 149 (368+sh d) (am Tryz.prog 88 3) (λ(x:(i:Nat)×'(hi:i<=R0.length)×'Unit)=>match x with|⟨i,hi,_⟩=>Wr [(0,WA 16 16 0),(4,Wb (400+sh d) (400+sh d) 0 n1 1),(5,Wb (408+sh d) (408+sh d) 0 n2 1),(20,Wb (432+sh d) (432+sh d) 0 19 2),(126,Wb (416+sh d) (416+sh d) 0 (v0 R0) 2),(127,zN (v0 R0)),(128,nD i)] [⟨16,16,16,16,.b ⟨[(Wb (424+sh d) (424+sh d) (0) ((cI H4 (iv (aa C)) R0 i).length) 2)],123,Gd⟩⟩,⟨(96+sh d),(96+sh d),(96+sh d),(96+sh d),.b ⟨[ah e,zI 1,uI 2,zI 2],126,Gd⟩⟩,⟨(256+sh d),(256+sh d),(256+sh d),(256+sh d),.b ⟨wo dB L,5,Ga⟩⟩,⟨(257+sh d),(257+sh d),(257+sh d),(257+sh d),.b ⟨wo dB F,5,Ga⟩⟩,⟨(400+sh d),(400+sh d),(400+sh d),(400+sh d),.b ⟨wo dB A,5,Ga⟩⟩,⟨(408+sh d),(408+sh d),(408+sh d),(408+sh d),.b ⟨wo dB B,5,Ga⟩⟩,⟨(416+sh d),(416+sh d),(416+sh d),(416+sh d),.b ⟨v8 dh R0,187,Ga⟩⟩,⟨(424+sh d),(424+sh d),(440+sh d),(440+sh d),.b ⟨(cI H4 (iv (aa C)) R0 i).flatMap aC,126,Ga⟩⟩,⟨(432+sh d),(432+sh d),(456+sh d),(456+sh d),.b ⟨v8 cW (aa C),210,Ga⟩⟩] (440+sh d)) (λ(x:(i:Nat)×'(hi:i<=R0.length)×'Unit)=>match x with|⟨i,hi,_⟩=>R0.length-i) [⟨Unit,.exit 6,λ()=>Wr [(0,WA 16 16 0),(4,Wb (400+sh d) (400+sh d) 0 n1 1),(5,Wb (408+sh d) (408+sh d) 0 n2 1),(20,Wb (432+sh d) (432+sh d) 0 19 2),(126,Wb (416+sh d) (416+sh d) 0 (v0 R0) 2),(127,zN (v0 R0))] [⟨16,16,16,16,.b ⟨[(Wb (424+sh d) (424+sh d) (0) (H5.length) 2)],123,Gd⟩⟩,⟨(96+sh d),(96+sh d),(96+sh d),(96+sh d),.b ⟨[ah e,zI 1,uI 2,zI 2],126,Gd⟩⟩,⟨(256+sh d),(256+sh d),(256+sh d),(256+sh d),.b ⟨wo dB L,5,Ga⟩⟩,⟨(257+sh d),(257+sh d),(257+sh d),(257+sh d),.b ⟨wo dB F,5,Ga⟩⟩,⟨(400+sh d),(400+sh d),(400+sh d),(400+sh d),.b ⟨wo dB A,5,Ga⟩⟩,⟨(408+sh d),(408+sh d),(408+sh d),(408+sh d),.b ⟨wo dB B,5,Ga⟩⟩,⟨(416+sh d),(416+sh d),(416+sh d),(416+sh d),.b ⟨v8 dh R0,187,Ga⟩⟩,⟨(424+sh d),(424+sh d),(440+sh d),(440+sh d),.b ⟨H5.flatMap aC,126,Ga⟩⟩,⟨(432+sh d),(432+sh d),(456+sh d),(456+sh d),.b ⟨v8 cW (aa C),210,Ga⟩⟩] (440+sh d)⟩] 1000 64 (fun|⟨i,hi,_⟩,Q,ZB,ZD=>.B 2 ((i:Int)<(↑(v0 R0):Int)) (λ p5 p5f=>.K 1 (Ga&&Ao ((i:Int)<(↑(v0 R0):Int))) aG<|.K 2 (Wf (0+i*2+2) (v0 (v8 dh R0))) PC<|.lst (wx 2 (Ag (0+i*2) (v8 dh R0))) ([zN (Rn.s (wm R0 i lb)),zN (Rn.x (wm R0 i lb))]) (aI (k:=2) (i:=i) (λ _=>rfl) om om)<|.C 12 113 Gd [] (.fn SK (@NO (Rn.s (wm R0 i lb)) CL))<|.K 27 (Ga&&Ao ((↑(Rn.s (wm R0 i lb)):Int)<(↑19:Int))) K8<|.K 2 (Wf (0+Rn.s (wm R0 i lb)*2+2) (v0 (v8 cW (aa C)))) (by(rw[f7,mC];have y:=oR i;refine We ?_;omega))<|.lst (wx 2 (Ag (0+Rn.s (wm R0 i lb)*2) (v8 cW (aa C)))) ([ah (Wz (wm (aa C) (Rn.s (wm R0 i lb)) lb)),cK (Wg (wm (aa C) (Rn.s (wm R0 i lb)) lb))]) (aI (k:=2) (i:=Rn.s (wm R0 i lb)) (λ _=>rfl) CL om)<|.I 18 (↑(Wg (wm (aa C) (Rn.s (wm R0 i lb)) lb)):Int) PE<|.C 1 152 Gd [] (.fn fa (@bU (Wz (wm (aa C) (Rn.s (wm R0 i lb)) lb)) (Wg (wm (aa C) (Rn.s (wm R0 i lb)) lb)) (by(exact Ww (oC _).1 (by decide))) (by(exact(oC _).2))))<|.I 16 (↑(Wg (wm (aa C) (Rn.s (wm R0 i lb)) lb)):Int) PE<|.O 4 (au .u32 (↑(Rn.x (wm R0 i lb)):Int)) (uI ((↑(Rn.x (wm R0 i lb)):Int)%4294967296)) (aD _ _)<|.K 18 (Ga&&V9 (v0 (cI H4 (iv (aa C)) R0 i)*2) (v0 (v8 aC (cI H4 (iv (aa C)) R0 i)))&&Ga&&Ga&&Ga&&Ga&&Wf ((v0 (cI H4 (iv (aa C)) R0 i)+2)*16) 140737488355328) (by(simp only[bM,lX4 i om,Xk,WM,WV];refine We ?_;(omega)))<|.W 9 (i+1)<|.V 1 128 (zI (i+1)) (zN (i+1)) Ex<|.blk 16 16 (V8 [Wb (888+sh d) (888+sh d) 0 (v0 (cI H4 (iv (aa C)) R0 i)+2) 2] 123 Gd) (V8 [Wb (888+sh d) (888+sh d) 0 (v0 (cI H4 (iv (aa C)) R0 (i+1))) 2] 123 Gd) (by(rw[kL (i:=i) om,Wc];rfl))<|.blk (888+sh d) (888+sh d) (V8 (v8 aC (cI H4 (iv (aa C)) R0 i)++[ah (dz (Wz (wm (aa C) (Rn.s (wm R0 i lb)) lb)) (Wg (wm (aa C) (Rn.s (wm R0 i lb)) lb))),zN (Wg (wm (aa C) (Rn.s (wm R0 i lb)) lb)),uI ((↑(Rn.x (wm R0 i lb)):Int)%4294967296),zN (rb (Rn.s (wm R0 i lb)))]) 126 Ga) (V8 (v8 aC (cI H4 (iv (aa C)) R0 (i+1))) 126 Ga) (by(refine aq ?_;rw[kL (i:=i) om,cu];have y:=oR i;have y3:=xv (R0.getD i lb).s;have y5:(R0.getD i lb).x<128:=WX y.2 y3.1;rw[show((R0.getD i lb).x:Int)%4294967296=(((R0.getD i lb).x:Nat):Int)from by omega];rfl))<|Aw ZB ⟨(i+1),om,⟨⟩⟩ PD [(16,16),((96+sh d),(96+sh d)),((256+sh d),(256+sh d)),((257+sh d),(257+sh d)),((400+sh d),(400+sh d)),((408+sh d),(408+sh d)),((416+sh d),(416+sh d)),((888+sh d),(888+sh d)),((432+sh d),(432+sh d))] Ii) (λ p5 p5f=>.blk 16 16 (V8 [Wb (424+sh d) (424+sh d) 0 (v0 (cI H4 (iv (aa C)) R0 i)) 2] 123 Gd) (V8 [Wb (424+sh d) (424+sh d) 0 (v0 H5) 2] 123 Gd) (by(rw[show i=R0.length from by omega,hH5]))<|.blk (424+sh d) (424+sh d) (V8 (v8 aC (cI H4 (iv (aa C)) R0 i)) 126 Ga) (V8 (v8 aC H5) 126 Ga) (by(rw[show i=R0.length from by omega,hH5]))<|BO ZD 0 (():Unit) rfl [(16,16),((96+sh d),(96+sh d)),((256+sh d),(256+sh d)),((257+sh d),(257+sh d)),((400+sh d),(400+sh d)),((408+sh d),(408+sh d)),((416+sh d),(416+sh d)),((424+sh d),(424+sh d)),((432+sh d),(432+sh d))] Ii)) (fun|⟨i,hi,_⟩=>by cases d<;>kernel_rfl) ⟨(0),om,⟨⟩⟩ [(16,16),((96+sh d),(96+sh d)),((256+sh d),(256+sh d)),((257+sh d),(257+sh d)),((400+sh d),(400+sh d)),((408+sh d),(408+sh d)),((416+sh d),(416+sh d)),((440+sh d),(440+sh d)),((456+sh d),(456+sh d))] Ii (bB (fun|()=>.L 21 112 Gd [] (Ga&&(wB (wo dB A) n1 1)&&Ga) kQ ([wD (wo dB A) n1 1,zI 15]) (by exact(Wn (D.sim.slw rfl ((ar (A) (0) (n1*1)).trans (by(simp;done)))) (qr trivial))) (.fn Q112 (@kB (wx n1 A) (n1) om (15) yB om))<|.L 13 112 Gd [] (Ga&&(wB (wo dB B) n2 1)&&Ga) kQ ([wD (wo dB B) n2 1,zI 15]) (by exact(Wn (D.sim.slw rfl ((ar (B) (0) (n2*1)).trans (by(simp;done)))) (qr trivial))) (.fn Q112 (@kB (wx n2 B) (n2) om (15) yB om))<|.s 18<|.two (.B 2 (0<(k:Int)) (λ p6 p6f=>.K 1 (Ga&&Ao (0<(k:Int))&&Ga) yB<|.K 2 (Wf 3 (v0 (v8 aY l))) Kt<|.lst (wx 3 (Ag 0 (v8 aY l))) ([cK (V7 (Tn.lit (wm l 0 lb))),zN (Tn.dist (wm l 0 lb)),zN (Tn.long (wm l 0 lb))]) (aI (k:=3) (i:=0) (λ _=>rfl) om om)<|.R 13 ((↑(Tn.long (wm l 0 lb)):Int)==0) (λ p7=>have p7f:=eq_of_beq p7;.I 8 (↑(V7 (Tn.lit (wm l 0 lb))):Int) Ku<|.K 18 (Ga&&Ao ((↑(V7 (Tn.lit (wm l 0 lb))):Int)<(n1:Int))) K9<|.K 2 (Wf (0+V7 (Tn.lit (wm l 0 lb))*2+2) (v0 (v8 cW (aa (wx n1 A))))) CM<|.lst (wx 2 (Ag (0+V7 (Tn.lit (wm l 0 lb))*2) (v8 cW (aa (wx n1 A))))) ([ah (Wz (wm (aa (wx n1 A)) (V7 (Tn.lit (wm l 0 lb))) lb)),cK (Wg (wm (aa (wx n1 A)) (V7 (Tn.lit (wm l 0 lb))) lb))]) (aI (k:=2) (i:=V7 (Tn.lit (wm l 0 lb))) (λ _=>rfl) rV om)<|.I 18 (↑(Wg (wm (aa (wx n1 A)) (V7 (Tn.lit (wm l 0 lb))) lb)):Int) rV<|.C 1 152 Gd [] (.fn fa (@bU (Wz (wm (aa (wx n1 A)) (V7 (Tn.lit (wm l 0 lb))) lb)) (Wg (wm (aa (wx n1 A)) (V7 (Tn.lit (wm l 0 lb))) lb)) F8 (by(exact(oA _).2))))<|.I 16 (↑(Wg (wm (aa (wx n1 A)) (V7 (Tn.lit (wm l 0 lb))) lb)):Int) rV<|.K 23 (Ga&&V9 (v0 H5*2) (v0 (v8 aC H5))&&Ga&&Ga&&Ga&&Ga&&Wf ((v0 H5+2)*16) 140737488355328) CN<|.M 11 16 16 (V8 [Wb (1200+sh d) (1200+sh d) 0 (v0 H5+2) 2] 123 Gd) (V8 [Wb (1200+sh d) (1200+sh d) 0 (v0 (ba T1 T2 (aa (wx n1 A)) (aa (wx n2 B)) H5 l 1)) 2] 123 Gd) (by(rw[fc (i:=0) om om,iY,Wc];rfl))<|.blk (1200+sh d) (1200+sh d) (V8 (v8 aC H5++[ah (dz (Wz (wm (aa (wx n1 A)) (V7 (Tn.lit (wm l 0 lb))) lb)) (Wg (wm (aa (wx n1 A)) (V7 (Tn.lit (wm l 0 lb))) lb))),zN (Wg (wm (aa (wx n1 A)) (V7 (Tn.lit (wm l 0 lb))) lb)),uI 0,zI 0]) 126 Ga) (V8 (v8 aC (ba T1 T2 (aa (wx n1 A)) (aa (wx n2 B)) H5 l 1)) 126 Ga) (by(refine aq ?_;rw[fc (i:=0) om om,iY,cu];rfl))<|BY T_ok ae Gd 53 (736+sh d) (am Tryz.prog 106 0) (λ(x:(i:Nat)×'(hi:1<=i/\i<=k)×'Unit)=>match x with|⟨i,hi,_⟩=>Wr [(1,Yd (Xi 115) [] [WA (576+sh d) (576+sh d) 0,WA (688+sh d) (688+sh d) 0,WA (624+sh d) (624+sh d) 0]),(10,Wu Gd k 3 (v8 aY l)),(11,zN k),(12,nD i)] [⟨16,16,16,16,.b ⟨[(Wb (840+sh d) (840+sh d) (0) ((ba T1 T2 (aa (A.take n1)) (aa (B.take n2)) H5 l i).length) 2)],123,Gd⟩⟩,⟨(96+sh d),(96+sh d),(96+sh d),(96+sh d),.b ⟨[ah e,zI 1,uI 2,zI 2],126,Gd⟩⟩,⟨(256+sh d),(256+sh d),(256+sh d),(256+sh d),.b ⟨wo dB L,5,Ga⟩⟩,⟨(257+sh d),(257+sh d),(257+sh d),(257+sh d),.b ⟨wo dB F,5,Ga⟩⟩,⟨(400+sh d),(400+sh d),(400+sh d),(400+sh d),.b ⟨wo dB A,5,Ga⟩⟩,⟨(408+sh d),(408+sh d),(408+sh d),(408+sh d),.b ⟨wo dB B,5,Ga⟩⟩,⟨(416+sh d),(416+sh d),(416+sh d),(416+sh d),.b ⟨v8 dh R0,187,Ga⟩⟩,⟨(432+sh d),(432+sh d),(432+sh d),(432+sh d),.b ⟨v8 cW (aa C),210,Ga⟩⟩,⟨(576+sh d),(576+sh d),(576+sh d),(576+sh d),.b ⟨[WA 16 16 0],105,Gd⟩⟩,⟨(592+sh d),(592+sh d),(592+sh d),(592+sh d),.b ⟨v8 cW (aa (wx n1 A)),210,Ga⟩⟩,⟨(624+sh d),(624+sh d),(624+sh d),(624+sh d),.b ⟨[Wb (592+sh d) (592+sh d) 0 n1 2],189,Gd⟩⟩,⟨(656+sh d),(656+sh d),(656+sh d),(656+sh d),.b ⟨v8 cW (aa (wx n2 B)),210,Ga⟩⟩,⟨(688+sh d),(688+sh d),(688+sh d),(688+sh d),.b ⟨[Wb (656+sh d) (656+sh d) 0 n2 2],189,Gd⟩⟩,⟨(840+sh d),(840+sh d),(1200+sh d),(1200+sh d),.b ⟨(ba T1 T2 (aa (A.take n1)) (aa (B.take n2)) H5 l i).flatMap aC,126,Ga⟩⟩] (848+sh d)) (λ(x:(i:Nat)×'(hi:1<=i/\i<=k)×'Unit)=>match x with|⟨i,hi,_⟩=>k-i) [⟨Unit,.exit 0,λ()=>Wr [(1,Yd (Xi 115) [] [WA (576+sh d) (576+sh d) 0,WA (688+sh d) (688+sh d) 0,WA (624+sh d) (624+sh d) 0]),(10,Wu Gd k 3 (v8 aY l)),(11,zN k),(12,nD k)] [⟨16,16,16,16,.b ⟨[(Wb (840+sh d) (840+sh d) (0) ((ba T1 T2 (aa (A.take n1)) (aa (B.take n2)) H5 l k).length) 2)],123,Gd⟩⟩,⟨(96+sh d),(96+sh d),(96+sh d),(96+sh d),.b ⟨[ah e,zI 1,uI 2,zI 2],126,Gd⟩⟩,⟨(256+sh d),(256+sh d),(256+sh d),(256+sh d),.b ⟨wo dB L,5,Ga⟩⟩,⟨(257+sh d),(257+sh d),(257+sh d),(257+sh d),.b ⟨wo dB F,5,Ga⟩⟩,⟨(400+sh d),(400+sh d),(400+sh d),(400+sh d),.b ⟨wo dB A,5,Ga⟩⟩,⟨(408+sh d),(408+sh d),(408+sh d),(408+sh d),.b ⟨wo dB B,5,Ga⟩⟩,⟨(416+sh d),(416+sh d),(416+sh d),(416+sh d),.b ⟨v8 dh R0,187,Ga⟩⟩,⟨(432+sh d),(432+sh d),(432+sh d),(432+sh d),.b ⟨v8 cW (aa C),210,Ga⟩⟩,⟨(576+sh d),(576+sh d),(576+sh d),(576+sh d),.b ⟨[WA 16 16 0],105,Gd⟩⟩,⟨(592+sh d),(592+sh d),(592+sh d),(592+sh d),.b ⟨v8 cW (aa (wx n1 A)),210,Ga⟩⟩,⟨(624+sh d),(624+sh d),(624+sh d),(624+sh d),.b ⟨[Wb (592+sh d) (592+sh d) 0 n1 2],189,Gd⟩⟩,⟨(656+sh d),(656+sh d),(656+sh d),(656+sh d),.b ⟨v8 cW (aa (wx n2 B)),210,Ga⟩⟩,⟨(688+sh d),(688+sh d),(688+sh d),(688+sh d),.b ⟨[Wb (656+sh d) (656+sh d) 0 n2 2],189,Gd⟩⟩,⟨(840+sh d),(840+sh d),(1200+sh d),(1200+sh d),.b ⟨(ba T1 T2 (aa (A.take n1)) (aa (B.take n2)) H5 l k).flatMap aC,126,Ga⟩⟩] (848+sh d)⟩] 1000 64 (fun|⟨i,hi,_⟩,Q,ZB,ZD=>.B 2 ((i:Int)<k) (λ p8 p8f=>.K 1 (Ga&&Ao ((i:Int)<k)&&Ga) yB<|.K 2 (Wf (i*3+3) (v0 (v8 aY l))) Kt<|.lst (wx 3 (Ag (i*3) (v8 aY l))) ([cK (V7 (Tn.lit (wm l i lb))),zN (Tn.dist (wm l i lb)),zN (Tn.long (wm l i lb))]) (aI (k:=3) (i:=i) (λ _=>rfl) om om)<|.R 13 ((↑(Tn.long (wm l i lb)):Int)==0) (λ p9=>have p9f:=eq_of_beq p9;.I 8 (↑(V7 (Tn.lit (wm l i lb))):Int) Ku<|.K 18 (Ga&&Ao ((↑(V7 (Tn.lit (wm l i lb))):Int)<(n1:Int))) OI<|.K 2 (Wf (0+V7 (Tn.lit (wm l i lb))*2+2) (v0 (v8 cW (aa (wx n1 A))))) Ap<|.lst (wx 2 (Ag (0+V7 (Tn.lit (wm l i lb))*2) (v8 cW (aa (wx n1 A))))) ([ah (Wz (wm (aa (wx n1 A)) (V7 (Tn.lit (wm l i lb))) lb)),cK (Wg (wm (aa (wx n1 A)) (V7 (Tn.lit (wm l i lb))) lb))]) (aI (k:=2) (i:=V7 (Tn.lit (wm l i lb))) (λ _=>rfl) gQ om)<|.I 18 (↑(Wg (wm (aa (wx n1 A)) (V7 (Tn.lit (wm l i lb))) lb)):Int) gQ<|.C 1 152 Gd [] (.fn fa (@bU (Wz (wm (aa (wx n1 A)) (V7 (Tn.lit (wm l i lb))) lb)) (Wg (wm (aa (wx n1 A)) (V7 (Tn.lit (wm l i lb))) lb)) F8 (by(exact(oA _).2))))<|.I 16 (↑(Wg (wm (aa (wx n1 A)) (V7 (Tn.lit (wm l i lb))) lb)):Int) gQ<|.K 23 (Ga&&V9 (v0 (ba T1 T2 (aa (wx n1 A)) (aa (wx n2 B)) H5 l i)*2) (v0 (v8 aC (ba T1 T2 (aa (wx n1 A)) (aa (wx n2 B)) H5 l i)))&&Ga&&Ga&&Ga&&Ga&&Wf ((v0 (ba T1 T2 (aa (wx n1 A)) (aa (wx n2 B)) H5 l i)+2)*16) 140737488355328) Gb<|.W 9 (i+1)<|.V 1 12 (zI (i+1)) (zN (i+1)) Ex<|.blk 16 16 (V8 [Wb (1288+sh d) (1288+sh d) 0 (v0 (ba T1 T2 (aa (wx n1 A)) (aa (wx n2 B)) H5 l i)+2) 2] 123 Gd) (V8 [Wb (1288+sh d) (1288+sh d) 0 (v0 (ba T1 T2 (aa (wx n1 A)) (aa (wx n2 B)) H5 l (i+1))) 2] 123 Gd) (by(rw[fc om om,Wc];rfl))<|.blk (1288+sh d) (1288+sh d) (V8 (v8 aC (ba T1 T2 (aa (wx n1 A)) (aa (wx n2 B)) H5 l i)++[ah (dz (Wz (wm (aa (wx n1 A)) (V7 (Tn.lit (wm l i lb))) lb)) (Wg (wm (aa (wx n1 A)) (V7 (Tn.lit (wm l i lb))) lb))),zN (Wg (wm (aa (wx n1 A)) (V7 (Tn.lit (wm l i lb))) lb)),uI 0,zI 0]) 126 Ga) (V8 (v8 aC (ba T1 T2 (aa (wx n1 A)) (aa (wx n2 B)) H5 l (i+1))) 126 Ga) (by(refine aq ?_;rw[fc om om,cu];rfl))<|Aw ZB ⟨(i+1),om,⟨⟩⟩ Sm [(16,16),((96+sh d),(96+sh d)),((256+sh d),(256+sh d)),((257+sh d),(257+sh d)),((400+sh d),(400+sh d)),((408+sh d),(408+sh d)),((416+sh d),(416+sh d)),((432+sh d),(432+sh d)),((576+sh d),(576+sh d)),((592+sh d),(592+sh d)),((624+sh d),(624+sh d)),((656+sh d),(656+sh d)),((688+sh d),(688+sh d)),((1288+sh d),(1288+sh d))] Ii) (λ p9=>have p9f:=ak p9;.C 7 142 Gd [] (.fn vR (@jV (T1) aG om om (Tn.long (wm l i lb)) gQ gQ))<|.K 35 (Ga&&Ao ((↑(257+ai T1 (Tn.long (wm l i lb))):Int)<(n1:Int))) IT<|.K 2 (Wf (0+(257+ai T1 (Tn.long (wm l i lb)))*2+2) (v0 (v8 cW (aa (wx n1 A))))) Ap<|.lst (wx 2 (Ag (0+(257+ai T1 (Tn.long (wm l i lb)))*2) (v8 cW (aa (wx n1 A))))) ([ah (Wz (wm (aa (wx n1 A)) (257+ai T1 (Tn.long (wm l i lb))) lb)),cK (Wg (wm (aa (wx n1 A)) (257+ai T1 (Tn.long (wm l i lb))) lb))]) (aI (k:=2) (i:=257+ai T1 (Tn.long (wm l i lb))) (λ _=>rfl) gQ om)<|.I 18 (↑(Wg (wm (aa (wx n1 A)) (257+ai T1 (Tn.long (wm l i lb))) lb)):Int) gQ<|.C 1 152 Gd [] (.fn fa (@bU (Wz (wm (aa (wx n1 A)) (257+ai T1 (Tn.long (wm l i lb))) lb)) (Wg (wm (aa (wx n1 A)) (257+ai T1 (Tn.long (wm l i lb))) lb)) F8 (by(exact(oA _).2))))<|.I 16 (↑(Wg (wm (aa (wx n1 A)) (257+ai T1 (Tn.long (wm l i lb))) lb)):Int) gQ<|.O 4 (au .u32 (↑(Tn.long (wm l i lb)-Sy.least (wm T1 (ai T1 (Tn.long (wm l i lb))) lb)):Int)) (ah (Tn.long (wm l i lb)-Sy.least (wm T1 (ai T1 (Tn.long (wm l i lb))) lb))) (ax gQ)<|.K 18 (Ga&&V9 (v0 (ba T1 T2 (aa (wx n1 A)) (aa (wx n2 B)) H5 l i)*2) (v0 (v8 aC (ba T1 T2 (aa (wx n1 A)) (aa (wx n2 B)) H5 l i)))&&Ga&&Ga&&Ga&&Ga&&Wf ((v0 (ba T1 T2 (aa (wx n1 A)) (aa (wx n2 B)) H5 l i)+2)*16) 140737488355328) Gb<|.C 14 143 Gd [] (.fn vS (@oz (T2) aG om om (Tn.dist (wm l i lb)) gQ gQ))<|.K 34 (Ga&&Ao ((↑(ai T2 (Tn.dist (wm l i lb))):Int)<(n2:Int))) IT<|.K 2 (Wf (0+ai T2 (Tn.dist (wm l i lb))*2+2) (v0 (v8 cW (aa (wx n2 B))))) Ap<|.lst (wx 2 (Ag (0+ai T2 (Tn.dist (wm l i lb))*2) (v8 cW (aa (wx n2 B))))) ([ah (Wz (wm (aa (wx n2 B)) (ai T2 (Tn.dist (wm l i lb))) lb)),cK (Wg (wm (aa (wx n2 B)) (ai T2 (Tn.dist (wm l i lb))) lb))]) (aI (k:=2) (i:=ai T2 (Tn.dist (wm l i lb))) (λ _=>rfl) gQ om)<|.I 18 (↑(Wg (wm (aa (wx n2 B)) (ai T2 (Tn.dist (wm l i lb))) lb)):Int) gQ<|.C 1 152 Gd [] (.fn fa (@bU (Wz (wm (aa (wx n2 B)) (ai T2 (Tn.dist (wm l i lb))) lb)) (Wg (wm (aa (wx n2 B)) (ai T2 (Tn.dist (wm l i lb))) lb)) La (by(exact(oB _).2))))<|.I 16 (↑(Wg (wm (aa (wx n2 B)) (ai T2 (Tn.dist (wm l i lb))) lb)):Int) gQ<|.O 4 (au .u32 (↑(Tn.dist (wm l i lb)-Sy.least (wm T2 (ai T2 (Tn.dist (wm l i lb))) lb)):Int)) (ah (Tn.dist (wm l i lb)-Sy.least (wm T2 (ai T2 (Tn.dist (wm l i lb))) lb))) (ax gQ)<|.K 18 (Ga&&V9 ((v0 (ba T1 T2 (aa (wx n1 A)) (aa (wx n2 B)) H5 l i)+2)*2) (v0 (v8 aC (ba T1 T2 (aa (wx n1 A)) (aa (wx n2 B)) H5 l i)++[ah (dz (Wz (wm (aa (wx n1 A)) (257+ai T1 (Tn.long (wm l i lb))) lb)) (Wg (wm (aa (wx n1 A)) (257+ai T1 (Tn.long (wm l i lb))) lb))),zN (Wg (wm (aa (wx n1 A)) (257+ai T1 (Tn.long (wm l i lb))) lb)),ah (Tn.long (wm l i lb)-Sy.least (wm T1 (ai T1 (Tn.long (wm l i lb))) lb)),zN (Sy.bits (wm T1 (ai T1 (Tn.long (wm l i lb))) lb))]))&&Ga&&Ga&&Ga&&Ga&&Wf ((v0 (ba T1 T2 (aa (wx n1 A)) (aa (wx n2 B)) H5 l i)+2+2)*16) 140737488355328) PF<|.W 9 (i+1)<|.V 1 12 (zI (i+1)) (zN (i+1)) Ex<|.blk 16 16 (V8 [Wb (2064+sh d) (2064+sh d) 0 (v0 (ba T1 T2 (aa (wx n1 A)) (aa (wx n2 B)) H5 l i)+2+2) 2] 123 Gd) (V8 [Wb (2064+sh d) (2064+sh d) 0 (v0 (ba T1 T2 (aa (wx n1 A)) (aa (wx n2 B)) H5 l (i+1))) 2] 123 Gd) (by(rw[gm om om,Wc];rfl))<|.blk (2064+sh d) (2064+sh d) (V8 (v8 aC (ba T1 T2 (aa (wx n1 A)) (aa (wx n2 B)) H5 l i)++[ah (dz (Wz (wm (aa (wx n1 A)) (257+ai T1 (Tn.long (wm l i lb))) lb)) (Wg (wm (aa (wx n1 A)) (257+ai T1 (Tn.long (wm l i lb))) lb))),zN (Wg (wm (aa (wx n1 A)) (257+ai T1 (Tn.long (wm l i lb))) lb)),ah (Tn.long (wm l i lb)-Sy.least (wm T1 (ai T1 (Tn.long (wm l i lb))) lb)),zN (Sy.bits (wm T1 (ai T1 (Tn.long (wm l i lb))) lb))]++[ah (dz (Wz (wm (aa (wx n2 B)) (ai T2 (Tn.dist (wm l i lb))) lb)) (Wg (wm (aa (wx n2 B)) (ai T2 (Tn.dist (wm l i lb))) lb))),zN (Wg (wm (aa (wx n2 B)) (ai T2 (Tn.dist (wm l i lb))) lb)),ah (Tn.dist (wm l i lb)-Sy.least (wm T2 (ai T2 (Tn.dist (wm l i lb))) lb)),zN (Sy.bits (wm T2 (ai T2 (Tn.dist (wm l i lb))) lb))]) 126 Ga) (V8 (v8 aC (ba T1 T2 (aa (wx n1 A)) (aa (wx n2 B)) H5 l (i+1))) 126 Ga) OK<|Aw ZB ⟨(i+1),om,⟨⟩⟩ Sm [(16,16),((96+sh d),(96+sh d)),((256+sh d),(256+sh d)),((257+sh d),(257+sh d)),((400+sh d),(400+sh d)),((408+sh d),(408+sh d)),((416+sh d),(416+sh d)),((432+sh d),(432+sh d)),((576+sh d),(576+sh d)),((592+sh d),(592+sh d)),((624+sh d),(624+sh d)),((656+sh d),(656+sh d)),((688+sh d),(688+sh d)),((2064+sh d),(2064+sh d))] Ii)) (λ p8 p8f=>.val 12 (zN i) (zN k) MJ<|.blk 16 16 (V8 [Wb (840+sh d) (840+sh d) 0 (v0 (ba T1 T2 (aa (wx n1 A)) (aa (wx n2 B)) H5 l i)) 2] 123 Gd) (V8 [Wb (840+sh d) (840+sh d) 0 (v0 (ba T1 T2 (aa (wx n1 A)) (aa (wx n2 B)) H5 l k)) 2] 123 Gd) MJ<|.blk (840+sh d) (840+sh d) (V8 (v8 aC (ba T1 T2 (aa (wx n1 A)) (aa (wx n2 B)) H5 l i)) 126 Ga) (V8 (v8 aC (ba T1 T2 (aa (wx n1 A)) (aa (wx n2 B)) H5 l k)) 126 Ga) MJ<|BO ZD 0 (():Unit) rfl [(16,16),((96+sh d),(96+sh d)),((256+sh d),(256+sh d)),((257+sh d),(257+sh d)),((400+sh d),(400+sh d)),((408+sh d),(408+sh d)),((416+sh d),(416+sh d)),((432+sh d),(432+sh d)),((576+sh d),(576+sh d)),((592+sh d),(592+sh d)),((624+sh d),(624+sh d)),((656+sh d),(656+sh d)),((688+sh d),(688+sh d)),((840+sh d),(840+sh d))] Ii)) (fun|⟨i,hi,_⟩=>by cases d<;>kernel_rfl) ⟨(1),om,⟨⟩⟩ [(16,16),((96+sh d),(96+sh d)),((256+sh d),(256+sh d)),((257+sh d),(257+sh d)),((400+sh d),(400+sh d)),((408+sh d),(408+sh d)),((416+sh d),(416+sh d)),((432+sh d),(432+sh d)),((576+sh d),(576+sh d)),((592+sh d),(592+sh d)),((624+sh d),(624+sh d)),((656+sh d),(656+sh d)),((688+sh d),(688+sh d)),((1200+sh d),(1200+sh d))] Ii (bB (fun|()=>.K 19 (Ga&&Ao (256<(n1:Int))) v4<|.K 2 (Wf 514 (v0 (v8 cW (aa (wx n1 A))))) CM<|.lst (wx 2 (Ag 512 (v8 cW (aa (wx n1 A))))) ([ah (Wz (wm (aa (wx n1 A)) 256 lb)),cK (Wg (wm (aa (wx n1 A)) 256 lb))]) (aI (k:=2) (i:=256) (λ _=>rfl) om om)<|.I 18 (↑(Wg (wm (aa (wx n1 A)) 256 lb)):Int) rV<|.C 1 152 Gd [] (.fn fa (@bU (Wz (wm (aa (wx n1 A)) 256 lb)) (Wg (wm (aa (wx n1 A)) 256 lb)) F8 (by(exact(oA _).2))))<|.I 16 (↑(Wg (wm (aa (wx n1 A)) 256 lb)):Int) rV<|.K 23 (Ga&&V9 (v0 (ba T1 T2 (aa (wx n1 A)) (aa (wx n2 B)) H5 l k)*2) (v0 (v8 aC (ba T1 T2 (aa (wx n1 A)) (aa (wx n2 B)) H5 l k)))&&Ga&&Ga&&Ga&&Ga&&Wf ((v0 (ba T1 T2 (aa (wx n1 A)) (aa (wx n2 B)) H5 l k)+2)*16) 140737488355328) CN<|.U 9 [16,(1200+sh d)] [16,(1200+sh d)] (WA 0 0 0) [V8 [Wb 1 1 0 (v0 (ba T1 T2 (aa (wx n1 A)) (aa (wx n2 B)) H5 l k)+2) 2] 123 Gd,V8 (v8 aC (ba T1 T2 (aa (wx n1 A)) (aa (wx n2 B)) H5 l k)++[ah (dz (Wz (wm (aa (wx n1 A)) 256 lb)) (Wg (wm (aa (wx n1 A)) 256 lb))),zN (Wg (wm (aa (wx n1 A)) 256 lb)),uI 0,zI 0]) 126 Ga] R (ok _ _ wr (by(rw[Wc,cu];rfl)))))) (λ p7=>have p7f:=ak p7;.C 7 142 Gd [] (.fn vR (@jV (T1) aG om om (Tn.long (wm l 0 lb)) rV rV))<|.K 35 (Ga&&Ao ((↑(257+ai T1 (Tn.long (wm l 0 lb))):Int)<(n1:Int))) K9<|.K 2 (Wf (0+(257+ai T1 (Tn.long (wm l 0 lb)))*2+2) (v0 (v8 cW (aa (wx n1 A))))) CM<|.lst (wx 2 (Ag (0+(257+ai T1 (Tn.long (wm l 0 lb)))*2) (v8 cW (aa (wx n1 A))))) ([ah (Wz (wm (aa (wx n1 A)) (257+ai T1 (Tn.long (wm l 0 lb))) lb)),cK (Wg (wm (aa (wx n1 A)) (257+ai T1 (Tn.long (wm l 0 lb))) lb))]) (aI (k:=2) (i:=257+ai T1 (Tn.long (wm l 0 lb))) (λ _=>rfl) rV om)<|.I 18 (↑(Wg (wm (aa (wx n1 A)) (257+ai T1 (Tn.long (wm l 0 lb))) lb)):Int) rV<|.C 1 152 Gd [] (.fn fa (@bU (Wz (wm (aa (wx n1 A)) (257+ai T1 (Tn.long (wm l 0 lb))) lb)) (Wg (wm (aa (wx n1 A)) (257+ai T1 (Tn.long (wm l 0 lb))) lb)) F8 (by(exact(oA _).2))))<|.I 16 (↑(Wg (wm (aa (wx n1 A)) (257+ai T1 (Tn.long (wm l 0 lb))) lb)):Int) rV<|.O 4 (au .u32 (↑(Tn.long (wm l 0 lb)-Sy.least (wm T1 (ai T1 (Tn.long (wm l 0 lb))) lb)):Int)) (ah (Tn.long (wm l 0 lb)-Sy.least (wm T1 (ai T1 (Tn.long (wm l 0 lb))) lb))) (ax rV)<|.K 18 (Ga&&V9 (v0 H5*2) (v0 (v8 aC H5))&&Ga&&Ga&&Ga&&Ga&&Wf ((v0 H5+2)*16) 140737488355328) CN<|.C 14 143 Gd [] (.fn vS (@oz (T2) aG om om (Tn.dist (wm l 0 lb)) rV rV))<|.K 34 (Ga&&Ao ((↑(ai T2 (Tn.dist (wm l 0 lb))):Int)<(n2:Int))) K9<|.K 2 (Wf (0+ai T2 (Tn.dist (wm l 0 lb))*2+2) (v0 (v8 cW (aa (wx n2 B))))) CM<|.lst (wx 2 (Ag (0+ai T2 (Tn.dist (wm l 0 lb))*2) (v8 cW (aa (wx n2 B))))) ([ah (Wz (wm (aa (wx n2 B)) (ai T2 (Tn.dist (wm l 0 lb))) lb)),cK (Wg (wm (aa (wx n2 B)) (ai T2 (Tn.dist (wm l 0 lb))) lb))]) (aI (k:=2) (i:=ai T2 (Tn.dist (wm l 0 lb))) (λ _=>rfl) rV om)<|.I 18 (↑(Wg (wm (aa (wx n2 B)) (ai T2 (Tn.dist (wm l 0 lb))) lb)):Int) rV<|.C 1 152 Gd [] (.fn fa (@bU (Wz (wm (aa (wx n2 B)) (ai T2 (Tn.dist (wm l 0 lb))) lb)) (Wg (wm (aa (wx n2 B)) (ai T2 (Tn.dist (wm l 0 lb))) lb)) La (by(exact(oB _).2))))<|.I 16 (↑(Wg (wm (aa (wx n2 B)) (ai T2 (Tn.dist (wm l 0 lb))) lb)):Int) rV<|.O 4 (au .u32 (↑(Tn.dist (wm l 0 lb)-Sy.least (wm T2 (ai T2 (Tn.dist (wm l 0 lb))) lb)):Int)) (ah (Tn.dist (wm l 0 lb)-Sy.least (wm T2 (ai T2 (Tn.dist (wm l 0 lb))) lb))) (ax rV)<|.K 18 (Ga&&V9 ((v0 H5+2)*2) (v0 (v8 aC H5++[ah (dz (Wz (wm (aa (wx n1 A)) (257+ai T1 (Tn.long (wm l 0 lb))) lb)) (Wg (wm (aa (wx n1 A)) (257+ai T1 (Tn.long (wm l 0 lb))) lb))),zN (Wg (wm (aa (wx n1 A)) (257+ai T1 (Tn.long (wm l 0 lb))) lb)),ah (Tn.long (wm l 0 lb)-Sy.least (wm T1 (ai T1 (Tn.long (wm l 0 lb))) lb)),zN (Sy.bits (wm T1 (ai T1 (Tn.long (wm l 0 lb))) lb))]))&&Ga&&Ga&&Ga&&Ga&&Wf ((v0 H5+2+2)*16) 140737488355328) yB<|.M 11 16 16 (V8 [Wb (1976+sh d) (1976+sh d) 0 (v0 H5+2+2) 2] 123 Gd) (V8 [Wb (1976+sh d) (1976+sh d) 0 (v0 (ba T1 T2 (aa (wx n1 A)) (aa (wx n2 B)) H5 l 1)) 2] 123 Gd) (by(rw[gm (i:=0) om om,iY,Wc];rfl))<|.blk (1976+sh d) (1976+sh d) (V8 (v8 aC H5++[ah (dz (Wz (wm (aa (wx n1 A)) (257+ai T1 (Tn.long (wm l 0 lb))) lb)) (Wg (wm (aa (wx n1 A)) (257+ai T1 (Tn.long (wm l 0 lb))) lb))),zN (Wg (wm (aa (wx n1 A)) (257+ai T1 (Tn.long (wm l 0 lb))) lb)),ah (Tn.long (wm l 0 lb)-Sy.least (wm T1 (ai T1 (Tn.long (wm l 0 lb))) lb)),zN (Sy.bits (wm T1 (ai T1 (Tn.long (wm l 0 lb))) lb))]++[ah (dz (Wz (wm (aa (wx n2 B)) (ai T2 (Tn.dist (wm l 0 lb))) lb)) (Wg (wm (aa (wx n2 B)) (ai T2 (Tn.dist (wm l 0 lb))) lb))),zN (Wg (wm (aa (wx n2 B)) (ai T2 (Tn.dist (wm l 0 lb))) lb)),ah (Tn.dist (wm l 0 lb)-Sy.least (wm T2 (ai T2 (Tn.dist (wm l 0 lb))) lb)),zN (Sy.bits (wm T2 (ai T2 (Tn.dist (wm l 0 lb))) lb))]) 126 Ga) (V8 (v8 aC (ba T1 T2 (aa (wx n1 A)) (aa (wx n2 B)) H5 l 1)) 126 Ga) (by(refine aq ?_;rw[gm (i:=0) om om,iY,cu,cu,WI];rfl))<|BY T_ok ae Gd 53 (736+sh d) (am Tryz.prog 106 0) (λ(x:(i:Nat)×'(hi:1<=i/\i<=k)×'Unit)=>match x with|⟨i,hi,_⟩=>Wr [(1,Yd (Xi 115) [] [WA (576+sh d) (576+sh d) 0,WA (688+sh d) (688+sh d) 0,WA (624+sh d) (624+sh d) 0]),(10,Wu Gd k 3 (v8 aY l)),(11,zN k),(12,nD i)] [⟨16,16,16,16,.b ⟨[(Wb (840+sh d) (840+sh d) (0) ((ba T1 T2 (aa (A.take n1)) (aa (B.take n2)) H5 l i).length) 2)],123,Gd⟩⟩,⟨(96+sh d),(96+sh d),(96+sh d),(96+sh d),.b ⟨[ah e,zI 1,uI 2,zI 2],126,Gd⟩⟩,⟨(256+sh d),(256+sh d),(256+sh d),(256+sh d),.b ⟨wo dB L,5,Ga⟩⟩,⟨(257+sh d),(257+sh d),(257+sh d),(257+sh d),.b ⟨wo dB F,5,Ga⟩⟩,⟨(400+sh d),(400+sh d),(400+sh d),(400+sh d),.b ⟨wo dB A,5,Ga⟩⟩,⟨(408+sh d),(408+sh d),(408+sh d),(408+sh d),.b ⟨wo dB B,5,Ga⟩⟩,⟨(416+sh d),(416+sh d),(416+sh d),(416+sh d),.b ⟨v8 dh R0,187,Ga⟩⟩,⟨(432+sh d),(432+sh d),(432+sh d),(432+sh d),.b ⟨v8 cW (aa C),210,Ga⟩⟩,⟨(576+sh d),(576+sh d),(576+sh d),(576+sh d),.b ⟨[WA 16 16 0],105,Gd⟩⟩,⟨(592+sh d),(592+sh d),(592+sh d),(592+sh d),.b ⟨v8 cW (aa (wx n1 A)),210,Ga⟩⟩,⟨(624+sh d),(624+sh d),(624+sh d),(624+sh d),.b ⟨[Wb (592+sh d) (592+sh d) 0 n1 2],189,Gd⟩⟩,⟨(656+sh d),(656+sh d),(656+sh d),(656+sh d),.b ⟨v8 cW (aa (wx n2 B)),210,Ga⟩⟩,⟨(688+sh d),(688+sh d),(688+sh d),(688+sh d),.b ⟨[Wb (656+sh d) (656+sh d) 0 n2 2],189,Gd⟩⟩,⟨(840+sh d),(840+sh d),(1976+sh d),(1976+sh d),.b ⟨(ba T1 T2 (aa (A.take n1)) (aa (B.take n2)) H5 l i).flatMap aC,126,Ga⟩⟩] (848+sh d)) (λ(x:(i:Nat)×'(hi:1<=i/\i<=k)×'Unit)=>match x with|⟨i,hi,_⟩=>k-i) [⟨Unit,.exit 0,λ()=>Wr [(1,Yd (Xi 115) [] [WA (576+sh d) (576+sh d) 0,WA (688+sh d) (688+sh d) 0,WA (624+sh d) (624+sh d) 0]),(10,Wu Gd k 3 (v8 aY l)),(11,zN k),(12,nD k)] [⟨16,16,16,16,.b ⟨[(Wb (840+sh d) (840+sh d) (0) ((ba T1 T2 (aa (A.take n1)) (aa (B.take n2)) H5 l k).length) 2)],123,Gd⟩⟩,⟨(96+sh d),(96+sh d),(96+sh d),(96+sh d),.b ⟨[ah e,zI 1,uI 2,zI 2],126,Gd⟩⟩,⟨(256+sh d),(256+sh d),(256+sh d),(256+sh d),.b ⟨wo dB L,5,Ga⟩⟩,⟨(257+sh d),(257+sh d),(257+sh d),(257+sh d),.b ⟨wo dB F,5,Ga⟩⟩,⟨(400+sh d),(400+sh d),(400+sh d),(400+sh d),.b ⟨wo dB A,5,Ga⟩⟩,⟨(408+sh d),(408+sh d),(408+sh d),(408+sh d),.b ⟨wo dB B,5,Ga⟩⟩,⟨(416+sh d),(416+sh d),(416+sh d),(416+sh d),.b ⟨v8 dh R0,187,Ga⟩⟩,⟨(432+sh d),(432+sh d),(432+sh d),(432+sh d),.b ⟨v8 cW (aa C),210,Ga⟩⟩,⟨(576+sh d),(576+sh d),(576+sh d),(576+sh d),.b ⟨[WA 16 16 0],105,Gd⟩⟩,⟨(592+sh d),(592+sh d),(592+sh d),(592+sh d),.b ⟨v8 cW (aa (wx n1 A)),210,Ga⟩⟩,⟨(624+sh d),(624+sh d),(624+sh d),(624+sh d),.b ⟨[Wb (592+sh d) (592+sh d) 0 n1 2],189,Gd⟩⟩,⟨(656+sh d),(656+sh d),(656+sh d),(656+sh d),.b ⟨v8 cW (aa (wx n2 B)),210,Ga⟩⟩,⟨(688+sh d),(688+sh d),(688+sh d),(688+sh d),.b ⟨[Wb (656+sh d) (656+sh d) 0 n2 2],189,Gd⟩⟩,⟨(840+sh d),(840+sh d),(1976+sh d),(1976+sh d),.b ⟨(ba T1 T2 (aa (A.take n1)) (aa (B.take n2)) H5 l k).flatMap aC,126,Ga⟩⟩] (848+sh d)⟩] 1000 64 (fun|⟨i,hi,_⟩,Q,ZB,ZD=>.B 2 ((i:Int)<k) (λ p10 p10f=>.K 1 (Ga&&Ao ((i:Int)<k)&&Ga) yB<|.K 2 (Wf (i*3+3) (v0 (v8 aY l))) Kt<|.lst (wx 3 (Ag (i*3) (v8 aY l))) ([cK (V7 (Tn.lit (wm l i lb))),zN (Tn.dist (wm l i lb)),zN (Tn.long (wm l i lb))]) (aI (k:=3) (i:=i) (λ _=>rfl) om om)<|.R 13 ((↑(Tn.long (wm l i lb)):Int)==0) (λ p11=>have p11f:=eq_of_beq p11;.I 8 (↑(V7 (Tn.lit (wm l i lb))):Int) Ku<|.K 18 (Ga&&Ao ((↑(V7 (Tn.lit (wm l i lb))):Int)<(n1:Int))) OI<|.K 2 (Wf (0+V7 (Tn.lit (wm l i lb))*2+2) (v0 (v8 cW (aa (wx n1 A))))) Ap<|.lst (wx 2 (Ag (0+V7 (Tn.lit (wm l i lb))*2) (v8 cW (aa (wx n1 A))))) ([ah (Wz (wm (aa (wx n1 A)) (V7 (Tn.lit (wm l i lb))) lb)),cK (Wg (wm (aa (wx n1 A)) (V7 (Tn.lit (wm l i lb))) lb))]) (aI (k:=2) (i:=V7 (Tn.lit (wm l i lb))) (λ _=>rfl) gQ om)<|.I 18 (↑(Wg (wm (aa (wx n1 A)) (V7 (Tn.lit (wm l i lb))) lb)):Int) gQ<|.C 1 152 Gd [] (.fn fa (@bU (Wz (wm (aa (wx n1 A)) (V7 (Tn.lit (wm l i lb))) lb)) (Wg (wm (aa (wx n1 A)) (V7 (Tn.lit (wm l i lb))) lb)) F8 (by(exact(oA _).2))))<|.I 16 (↑(Wg (wm (aa (wx n1 A)) (V7 (Tn.lit (wm l i lb))) lb)):Int) gQ<|.K 23 (Ga&&V9 (v0 (ba T1 T2 (aa (wx n1 A)) (aa (wx n2 B)) H5 l i)*2) (v0 (v8 aC (ba T1 T2 (aa (wx n1 A)) (aa (wx n2 B)) H5 l i)))&&Ga&&Ga&&Ga&&Ga&&Wf ((v0 (ba T1 T2 (aa (wx n1 A)) (aa (wx n2 B)) H5 l i)+2)*16) 140737488355328) Gb<|.W 9 (i+1)<|.V 1 12 (zI (i+1)) (zN (i+1)) Ex<|.blk 16 16 (V8 [Wb (1288+sh d) (1288+sh d) 0 (v0 (ba T1 T2 (aa (wx n1 A)) (aa (wx n2 B)) H5 l i)+2) 2] 123 Gd) (V8 [Wb (1288+sh d) (1288+sh d) 0 (v0 (ba T1 T2 (aa (wx n1 A)) (aa (wx n2 B)) H5 l (i+1))) 2] 123 Gd) (by(rw[fc om om,Wc];rfl))<|.blk (1288+sh d) (1288+sh d) (V8 (v8 aC (ba T1 T2 (aa (wx n1 A)) (aa (wx n2 B)) H5 l i)++[ah (dz (Wz (wm (aa (wx n1 A)) (V7 (Tn.lit (wm l i lb))) lb)) (Wg (wm (aa (wx n1 A)) (V7 (Tn.lit (wm l i lb))) lb))),zN (Wg (wm (aa (wx n1 A)) (V7 (Tn.lit (wm l i lb))) lb)),uI 0,zI 0]) 126 Ga) (V8 (v8 aC (ba T1 T2 (aa (wx n1 A)) (aa (wx n2 B)) H5 l (i+1))) 126 Ga) (by(refine aq ?_;rw[fc om om,cu];rfl))<|Aw ZB ⟨(i+1),om,⟨⟩⟩ Sm [(16,16),((96+sh d),(96+sh d)),((256+sh d),(256+sh d)),((257+sh d),(257+sh d)),((400+sh d),(400+sh d)),((408+sh d),(408+sh d)),((416+sh d),(416+sh d)),((432+sh d),(432+sh d)),((576+sh d),(576+sh d)),((592+sh d),(592+sh d)),((624+sh d),(624+sh d)),((656+sh d),(656+sh d)),((688+sh d),(688+sh d)),((1288+sh d),(1288+sh d))] Ii) (λ p11=>have p11f:=ak p11;.C 7 142 Gd [] (.fn vR (@jV (T1) aG om om (Tn.long (wm l i lb)) gQ gQ))<|.K 35 (Ga&&Ao ((↑(257+ai T1 (Tn.long (wm l i lb))):Int)<(n1:Int))) IT<|.K 2 (Wf (0+(257+ai T1 (Tn.long (wm l i lb)))*2+2) (v0 (v8 cW (aa (wx n1 A))))) Ap<|.lst (wx 2 (Ag (0+(257+ai T1 (Tn.long (wm l i lb)))*2) (v8 cW (aa (wx n1 A))))) ([ah (Wz (wm (aa (wx n1 A)) (257+ai T1 (Tn.long (wm l i lb))) lb)),cK (Wg (wm (aa (wx n1 A)) (257+ai T1 (Tn.long (wm l i lb))) lb))]) (aI (k:=2) (i:=257+ai T1 (Tn.long (wm l i lb))) (λ _=>rfl) gQ om)<|.I 18 (↑(Wg (wm (aa (wx n1 A)) (257+ai T1 (Tn.long (wm l i lb))) lb)):Int) gQ<|.C 1 152 Gd [] (.fn fa (@bU (Wz (wm (aa (wx n1 A)) (257+ai T1 (Tn.long (wm l i lb))) lb)) (Wg (wm (aa (wx n1 A)) (257+ai T1 (Tn.long (wm l i lb))) lb)) F8 (by(exact(oA _).2))))<|.I 16 (↑(Wg (wm (aa (wx n1 A)) (257+ai T1 (Tn.long (wm l i lb))) lb)):Int) gQ<|.O 4 (au .u32 (↑(Tn.long (wm l i lb)-Sy.least (wm T1 (ai T1 (Tn.long (wm l i lb))) lb)):Int)) (ah (Tn.long (wm l i lb)-Sy.least (wm T1 (ai T1 (Tn.long (wm l i lb))) lb))) (ax gQ)<|.K 18 (Ga&&V9 (v0 (ba T1 T2 (aa (wx n1 A)) (aa (wx n2 B)) H5 l i)*2) (v0 (v8 aC (ba T1 T2 (aa (wx n1 A)) (aa (wx n2 B)) H5 l i)))&&Ga&&Ga&&Ga&&Ga&&Wf ((v0 (ba T1 T2 (aa (wx n1 A)) (aa (wx n2 B)) H5 l i)+2)*16) 140737488355328) Gb<|.C 14 143 Gd [] (.fn vS (@oz (T2) aG om om (Tn.dist (wm l i lb)) gQ gQ))<|.K 34 (Ga&&Ao ((↑(ai T2 (Tn.dist (wm l i lb))):Int)<(n2:Int))) IT<|.K 2 (Wf (0+ai T2 (Tn.dist (wm l i lb))*2+2) (v0 (v8 cW (aa (wx n2 B))))) Ap<|.lst (wx 2 (Ag (0+ai T2 (Tn.dist (wm l i lb))*2) (v8 cW (aa (wx n2 B))))) ([ah (Wz (wm (aa (wx n2 B)) (ai T2 (Tn.dist (wm l i lb))) lb)),cK (Wg (wm (aa (wx n2 B)) (ai T2 (Tn.dist (wm l i lb))) lb))]) (aI (k:=2) (i:=ai T2 (Tn.dist (wm l i lb))) (λ _=>rfl) gQ om)<|.I 18 (↑(Wg (wm (aa (wx n2 B)) (ai T2 (Tn.dist (wm l i lb))) lb)):Int) gQ<|.C 1 152 Gd [] (.fn fa (@bU (Wz (wm (aa (wx n2 B)) (ai T2 (Tn.dist (wm l i lb))) lb)) (Wg (wm (aa (wx n2 B)) (ai T2 (Tn.dist (wm l i lb))) lb)) La (by(exact(oB _).2))))<|.I 16 (↑(Wg (wm (aa (wx n2 B)) (ai T2 (Tn.dist (wm l i lb))) lb)):Int) gQ<|.O 4 (au .u32 (↑(Tn.dist (wm l i lb)-Sy.least (wm T2 (ai T2 (Tn.dist (wm l i lb))) lb)):Int)) (ah (Tn.dist (wm l i lb)-Sy.least (wm T2 (ai T2 (Tn.dist (wm l i lb))) lb))) (ax gQ)<|.K 18 (Ga&&V9 ((v0 (ba T1 T2 (aa (wx n1 A)) (aa (wx n2 B)) H5 l i)+2)*2) (v0 (v8 aC (ba T1 T2 (aa (wx n1 A)) (aa (wx n2 B)) H5 l i)++[ah (dz (Wz (wm (aa (wx n1 A)) (257+ai T1 (Tn.long (wm l i lb))) lb)) (Wg (wm (aa (wx n1 A)) (257+ai T1 (Tn.long (wm l i lb))) lb))),zN (Wg (wm (aa (wx n1 A)) (257+ai T1 (Tn.long (wm l i lb))) lb)),ah (Tn.long (wm l i lb)-Sy.least (wm T1 (ai T1 (Tn.long (wm l i lb))) lb)),zN (Sy.bits (wm T1 (ai T1 (Tn.long (wm l i lb))) lb))]))&&Ga&&Ga&&Ga&&Ga&&Wf ((v0 (ba T1 T2 (aa (wx n1 A)) (aa (wx n2 B)) H5 l i)+2+2)*16) 140737488355328) PF<|.W 9 (i+1)<|.V 1 12 (zI (i+1)) (zN (i+1)) Ex<|.blk 16 16 (V8 [Wb (2064+sh d) (2064+sh d) 0 (v0 (ba T1 T2 (aa (wx n1 A)) (aa (wx n2 B)) H5 l i)+2+2) 2] 123 Gd) (V8 [Wb (2064+sh d) (2064+sh d) 0 (v0 (ba T1 T2 (aa (wx n1 A)) (aa (wx n2 B)) H5 l (i+1))) 2] 123 Gd) (by(rw[gm om om,Wc];rfl))<|.blk (2064+sh d) (2064+sh d) (V8 (v8 aC (ba T1 T2 (aa (wx n1 A)) (aa (wx n2 B)) H5 l i)++[ah (dz (Wz (wm (aa (wx n1 A)) (257+ai T1 (Tn.long (wm l i lb))) lb)) (Wg (wm (aa (wx n1 A)) (257+ai T1 (Tn.long (wm l i lb))) lb))),zN (Wg (wm (aa (wx n1 A)) (257+ai T1 (Tn.long (wm l i lb))) lb)),ah (Tn.long (wm l i lb)-Sy.least (wm T1 (ai T1 (Tn.long (wm l i lb))) lb)),zN (Sy.bits (wm T1 (ai T1 (Tn.long (wm l i lb))) lb))]++[ah (dz (Wz (wm (aa (wx n2 B)) (ai T2 (Tn.dist (wm l i lb))) lb)) (Wg (wm (aa (wx n2 B)) (ai T2 (Tn.dist (wm l i lb))) lb))),zN (Wg (wm (aa (wx n2 B)) (ai T2 (Tn.dist (wm l i lb))) lb)),ah (Tn.dist (wm l i lb)-Sy.least (wm T2 (ai T2 (Tn.dist (wm l i lb))) lb)),zN (Sy.bits (wm T2 (ai T2 (Tn.dist (wm l i lb))) lb))]) 126 Ga) (V8 (v8 aC (ba T1 T2 (aa (wx n1 A)) (aa (wx n2 B)) H5 l (i+1))) 126 Ga) OK<|Aw ZB ⟨(i+1),om,⟨⟩⟩ Sm [(16,16),((96+sh d),(96+sh d)),((256+sh d),(256+sh d)),((257+sh d),(257+sh d)),((400+sh d),(400+sh d)),((408+sh d),(408+sh d)),((416+sh d),(416+sh d)),((432+sh d),(432+sh d)),((576+sh d),(576+sh d)),((592+sh d),(592+sh d)),((624+sh d),(624+sh d)),((656+sh d),(656+sh d)),((688+sh d),(688+sh d)),((2064+sh d),(2064+sh d))] Ii)) (λ p10 p10f=>.val 12 (zN i) (zN k) MJ<|.blk 16 16 (V8 [Wb (840+sh d) (840+sh d) 0 (v0 (ba T1 T2 (aa (wx n1 A)) (aa (wx n2 B)) H5 l i)) 2] 123 Gd) (V8 [Wb (840+sh d) (840+sh d) 0 (v0 (ba T1 T2 (aa (wx n1 A)) (aa (wx n2 B)) H5 l k)) 2] 123 Gd) MJ<|.blk (840+sh d) (840+sh d) (V8 (v8 aC (ba T1 T2 (aa (wx n1 A)) (aa (wx n2 B)) H5 l i)) 126 Ga) (V8 (v8 aC (ba T1 T2 (aa (wx n1 A)) (aa (wx n2 B)) H5 l k)) 126 Ga) MJ<|BO ZD 0 (():Unit) rfl [(16,16),((96+sh d),(96+sh d)),((256+sh d),(256+sh d)),((257+sh d),(257+sh d)),((400+sh d),(400+sh d)),((408+sh d),(408+sh d)),((416+sh d),(416+sh d)),((432+sh d),(432+sh d)),((576+sh d),(576+sh d)),((592+sh d),(592+sh d)),((624+sh d),(624+sh d)),((656+sh d),(656+sh d)),((688+sh d),(688+sh d)),((840+sh d),(840+sh d))] Ii)) (fun|⟨i,hi,_⟩=>by cases d<;>kernel_rfl) ⟨(1),om,⟨⟩⟩ [(16,16),((96+sh d),(96+sh d)),((256+sh d),(256+sh d)),((257+sh d),(257+sh d)),((400+sh d),(400+sh d)),((408+sh d),(408+sh d)),((416+sh d),(416+sh d)),((432+sh d),(432+sh d)),((576+sh d),(576+sh d)),((592+sh d),(592+sh d)),((624+sh d),(624+sh d)),((656+sh d),(656+sh d)),((688+sh d),(688+sh d)),((1976+sh d),(1976+sh d))] Ii (bB (fun|()=>.K 19 (Ga&&Ao (256<(n1:Int))) v4<|.K 2 (Wf 514 (v0 (v8 cW (aa (wx n1 A))))) CM<|.lst (wx 2 (Ag 512 (v8 cW (aa (wx n1 A))))) ([ah (Wz (wm (aa (wx n1 A)) 256 lb)),cK (Wg (wm (aa (wx n1 A)) 256 lb))]) (aI (k:=2) (i:=256) (λ _=>rfl) om om)<|.I 18 (↑(Wg (wm (aa (wx n1 A)) 256 lb)):Int) rV<|.C 1 152 Gd [] (.fn fa (@bU (Wz (wm (aa (wx n1 A)) 256 lb)) (Wg (wm (aa (wx n1 A)) 256 lb)) F8 (by(exact(oA _).2))))<|.I 16 (↑(Wg (wm (aa (wx n1 A)) 256 lb)):Int) rV<|.K 23 (Ga&&V9 (v0 (ba T1 T2 (aa (wx n1 A)) (aa (wx n2 B)) H5 l k)*2) (v0 (v8 aC (ba T1 T2 (aa (wx n1 A)) (aa (wx n2 B)) H5 l k)))&&Ga&&Ga&&Ga&&Ga&&Wf ((v0 (ba T1 T2 (aa (wx n1 A)) (aa (wx n2 B)) H5 l k)+2)*16) 140737488355328) CN<|.U 9 [16,(1200+sh d)] [16,(1200+sh d)] (WA 0 0 0) [V8 [Wb 1 1 0 (v0 (ba T1 T2 (aa (wx n1 A)) (aa (wx n2 B)) H5 l k)+2) 2] 123 Gd,V8 (v8 aC (ba T1 T2 (aa (wx n1 A)) (aa (wx n2 B)) H5 l k)++[ah (dz (Wz (wm (aa (wx n1 A)) 256 lb)) (Wg (wm (aa (wx n1 A)) 256 lb))),zN (Wg (wm (aa (wx n1 A)) 256 lb)),uI 0,zI 0]) 126 Ga] R (ok _ _ wr (by(rw[Wc,cu];rfl))))))) (λ p6 p6f=>.K 19 (Ga&&Ao (256<(n1:Int))) v4<|.K 2 (Wf 514 (v0 (v8 cW (aa (wx n1 A))))) (by(rw[f7];refine We ?_;(omega)))<|.lst (wx 2 (Ag 512 (v8 cW (aa (wx n1 A))))) ([ah (Wz (wm (aa (wx n1 A)) 256 lb)),cK (Wg (wm (aa (wx n1 A)) 256 lb))]) (aI (k:=2) (i:=256) (λ _=>rfl) om om)<|.I 18 (↑(Wg (wm (aa (wx n1 A)) 256 lb)):Int) (by(have y3:=oA 256;omega))<|.C 1 152 Gd [] (.fn fa (@bU (Wz (wm (aa (wx n1 A)) 256 lb)) (Wg (wm (aa (wx n1 A)) 256 lb)) F8 (by(exact(oA _).2))))<|.I 16 (↑(Wg (wm (aa (wx n1 A)) 256 lb)):Int) (by(have y3:=oA 256;omega))<|.K 23 (Ga&&V9 (v0 H5*2) (v0 (v8 aC H5))&&Ga&&Ga&&Ga&&Ga&&Wf ((v0 H5+2)*16) 140737488355328) CN<|.U 9 [16,(1120+sh d)] [16,(1120+sh d)] (WA 0 0 0) [V8 [Wb 1 1 0 (v0 H5+2) 2] 123 Gd,V8 (v8 aC H5++[ah (dz (Wz (wm (aa (wx n1 A)) 256 lb)) (Wg (wm (aa (wx n1 A)) 256 lb))),zN (Wg (wm (aa (wx n1 A)) 256 lb)),uI 0,zI 0]) 126 Ga] R (ok _ _ wr (by(rw[show k=0 from by omega,iY,Wc,cu];rfl))))) .nil))))))))))):Hn CK)) (λ t h=>SpecH.run T_ok ae Tryz.func65 rfl rfl rfl ⟨rfl,cV (λ _=>rfl) _,trivial⟩ rfl 1000 64 (λ R ok=>.s 43 (t Ga 1 H H3 H4 H5 hH hH3 hH4 hH5 R ok)) h) (λ t h=>SpecH.run T_ok ae Tryz.func65 rfl rfl rfl ⟨rfl,cV (λ _=>rfl) _,trivial⟩ rfl 1000 64 (λ R ok=>.s 42 (t Gd 0 H' H3' H4' H5' hH' hH3' hH4' hH5' R ok)) h) kr kr
def PK (l:GU)(k:Nat)(hk:k=l.length)(hk2:k<=65535)(hl:∀i,bY (l.getD i lb))(T1 T2:a9)(hT1:T1=ay)(hT2:T2=aK)(hl1:T1.length=29)(hl2:T2.length=30)(hz1:bi T1)(hz2:bi T2)(W1 W2:Gw)(A B:Z4)(n1 n2:Nat)(R0:nl)(W3:Gw)(C O:Z4)(n3:Nat)(D:DyV T1 T2 l k W1 W2 A B n1 n2 R0 W3 C O n3)(L F:Z4)(hL:L=cd)(hF:F=dS)(H H3 H4 H5:GR)(hH:H=kX 1 2)(hH3:H3=H++[⟨n1-257,5⟩,⟨n2-1,5⟩,⟨n3-4,4⟩])(hH4:cI H3 gJ (O.take n3) n3=H4)(hH5:cI H4 (iv (aa C)) R0 R0.length=H5)(a:Nat)(ha:a<=7)(raw:Z4)(r:Nat)(hr:r=raw.length)(hr2:r<=65535):S0 65 [nD a,fK 2,.sl Gd r 1 (raw.map dB),.sl Gd k 3 (l.flatMap aY),.v (.bool Ga)] [] (.ptr 0 0 0) [⟨[.ref 1 1 0 ((ba T1 T2 (aa (A.take n1)) (aa (B.take n2)) H5 l k)++iG (aa (A.take n1)) 256 0 0).length 2], 123,Gd⟩,⟨((ba T1 T2 (aa (A.take n1)) (aa (B.take n2)) H5 l k)++iG (aa (A.take n1)) 256 0 0).flatMap aC, 126,Ga⟩]:=(IV l k hk hk2 hl T1 T2 hT1 hT2 hl1 hl2 hz1 hz2 W1 W2 A B n1 n2 R0 W3 C O n3 D L F hL hF a ha raw r hr hr2 H H3 H4 H5 hH hH3 hH4 hH5 _ _ _ _ rfl rfl rfl rfl).1
def PL (l:GU)(k:Nat)(hk:k=l.length)(hk2:k<=65535)(hl:∀i,bY (l.getD i lb))(T1 T2:a9)(hT1:T1=ay)(hT2:T2=aK)(hl1:T1.length=29)(hl2:T2.length=30)(hz1:bi T1)(hz2:bi T2)(W1 W2:Gw)(A B:Z4)(n1 n2:Nat)(R0:nl)(W3:Gw)(C O:Z4)(n3:Nat)(D:DyV T1 T2 l k W1 W2 A B n1 n2 R0 W3 C O n3)(L F:Z4)(hL:L=cd)(hF:F=dS)(H H3 H4 H5:GR)(hH:H=kX 0 2)(hH3:H3=H++[⟨n1-257,5⟩,⟨n2-1,5⟩,⟨n3-4,4⟩])(hH4:cI H3 gJ (O.take n3) n3=H4)(hH5:cI H4 (iv (aa C)) R0 R0.length=H5)(a:Nat)(ha:a<=7)(raw:Z4)(r:Nat)(hr:r=raw.length)(hr2:r<=65535):S0 65 [nD a,fK 2,.sl Gd r 1 (raw.map dB),.sl Gd k 3 (l.flatMap aY),.v (.bool Gd)] [] (.ptr 0 0 0) [⟨[.ref 1 1 0 ((ba T1 T2 (aa (A.take n1)) (aa (B.take n2)) H5 l k)++iG (aa (A.take n1)) 256 0 0).length 2], 123,Gd⟩,⟨((ba T1 T2 (aa (A.take n1)) (aa (B.take n2)) H5 l k)++iG (aa (A.take n1)) 256 0 0).flatMap aC, 126,Ga⟩]:=(IV l k hk hk2 hl T1 T2 hT1 hT2 hl1 hl2 hz1 hz2 W1 W2 A B n1 n2 R0 W3 C O n3 D L F hL hF a ha raw r hr hr2 _ _ _ _ rfl rfl rfl rfl H H3 H4 H5 hH hH3 hH4 hH5).2
def Ss(h:p:=by rw[ju];decide+kernel):=h
def Un (e:Nat)(l:GU):GR:=lk l (ba ay aK (aa cd) (aa dS) (kX e 1) l l.length++iG (aa cd) 256 0 0)
def i9 (e:Nat)(l:GU):Un e l=ba ay aK (aa cd) (aa dS) (kX e 1) l l.length++iG (aa cd) 256 0 0:=aM _ _
def np (l:GU):Z4:=lk l (vd (bE (aL 286 (bV ay l l.length++[256])) 15) 257)
def rW (l:GU):Z4:=lk l (vd (bE (aL 30 (dl aK l l.length)) 15) 1)
def ve (l:GU):nl:=lk l (xw (np l++rW l))
def nq (l:GU):Z4:=lk l (bE (aL 19 ((ve l).map Rn.s)) 7)
def yC (l:GU):Z4:=lk l (vd (iK (nq l) 19) 4)
def Ez (e:Nat)(l:GU):GR:=lk l (cI (cI (kX e 2++[⟨(np l).length-257,5⟩,⟨(rW l).length-1,5⟩,⟨(yC l).length-4,4⟩]) gJ (yC l) (yC l).length) (iv (aa (nq l))) (ve l) (ve l).length)
def Uo (e:Nat)(l:GU):GR:=lk l (ba ay aK (aa (np l)) (aa (rW l)) (Ez e l) l l.length++iG (aa (np l)) 256 0 0)
def rX (l:GU):np l=vd (bE (aL 286 (bV ay l l.length++[256])) 15) 257:=aM _ _
def rY (l:GU):rW l=vd (bE (aL 30 (dl aK l l.length)) 15) 1:=aM _ _
def Lc (l:GU):ve l=xw (np l++rW l):=aM _ _
def Ld (l:GU):nq l=bE (aL 19 ((ve l).map Rn.s)) 7:=aM _ _
def rZ (l:GU):yC l=vd (iK (nq l) 19) 4:=aM _ _
def lJ (e:Nat)(l:GU):Ez e l=cI (cI (kX e 2++[⟨(np l).length-257,5⟩,⟨(rW l).length-1,5⟩,⟨(yC l).length-4,4⟩]) gJ (yC l) (yC l).length) (iv (aa (nq l))) (ve l) (ve l).length:=aM _ _
def ja (e:Nat)(l:GU):Uo e l=ba ay aK (aa (np l)) (aa (rW l)) (Ez e l) l l.length++iG (aa (np l)) 256 0 0:=aM _ _
def ff (l:Z4)(m:Nat):vd l m=l.take (gO l m):=ly l m
def r6 (l:GU):DyV ay aK l l.length (aL 286 (bV ay l l.length++[256])) (aL 30 (dl aK l l.length)) (bE (aL 286 (bV ay l l.length++[256])) 15) (bE (aL 30 (dl aK l l.length)) 15) (gO (bE (aL 286 (bV ay l l.length++[256])) 15) 257) (gO (bE (aL 30 (dl aK l l.length)) 15) 1) (ve l) (aL 19 ((ve l).map Rn.s)) (nq l) (iK (nq l) 19) (gO (iK (nq l) 19) 4):=
 ⟨rfl,rfl,⟨rfl⟩,⟨rfl⟩,⟨rfl⟩,⟨rfl⟩,⟨by rw[Lc,rX,rY,ff,ff]⟩,rfl,⟨(Ld l).symm⟩,rfl,⟨rfl⟩⟩
def r7 (a kd:Nat)(raw:Z4)(l:GU)(e:Nat):GR:=lk [()] (if kd=0 then ry e a raw else if kd=1 then Un e l else Uo e l)
def gr (a kd:Nat)(raw:Z4)(l:GU)(e:Nat):r7 a kd raw l e=if kd=0 then ry e a raw else if kd=1 then Un e l else Uo e l:=aM _ _
def dT:dC cd 15=0:=by decide+kernel
def gL:dC dS 15=0:=by decide+kernel
def gw (X:GR):Prop:=∀x∈X,x.v<2^x.n/\x.n<=32
def cO {X Y:GR}(h1:gw X)(h2:gw Y):gw (X++Y):=λ x hx=>(List.mem_append.1 hx).elim (h1 x) (h2 x)
def r8 {α:Type}{g:α->GR}:∀{l:List α},(∀x∈l,gw (g x))->gw (l.flatMap g):=fun{l} h x hx=>by
 obtain⟨y,hy,hx⟩:=List.mem_flatMap.1 hx;exact h y hy x hx
def bZ {x:Nm}{X:GR}(h:x.v<2^x.n/\x.n<=32)(h2:gw X):gw (x::X):=λ y hy=>(List.mem_cons.1 hy).elim (λ e=>by rw[e];exact h) (h2 y)
def iw:gw []:=λ x hx=>absurd hx YW
def CS {X:GR}(h:gw X)(i:Nat):(X.getD i lb).v<2^(X.getD i lb).n/\(X.getD i lb).n<=32:=by
 rw[Wd]
 cases hq:X[i]? with
 |none=>exact⟨by decide,Wm rfl⟩
 |some x=>exact h x (Xy hq)
def lK {C:List (Nat×Nat)}(hC:jU C)(s:Nat){n x:Nat}(hx:x<2^n)(hn:n<=32):gw (iG C s n x):=
 bZ ⟨oi _ _,Ww (hC s).1 (by decide)⟩ (bZ ⟨hx,hn⟩ iw)
def r9 {e k:Nat}(he:e<=1)(hk:k<=3):gw (kX e k):=bZ ⟨show e<2^1 by omega,Wm rfl⟩ (bZ ⟨show k<2^2 by omega,Wm rfl⟩ iw)
def Lf {T:a9}(h:T.all (λ y=>Ao (y.many<=2^y.bits))=Ga)(i:Nat):i<T.length->(T.getD i lb).many<=2^(T.getD i lb).bits:=λ hi=>by
 rw[Wd,Wa hi];exact of_decide_eq_true (List.all_eq_true.1 h _ (Xf hi))
def IW {T:a9}(h:T.all (λ y=>Ao (y.many<=2^y.bits))=Ga){n:Nat}(hi:ai T n<T.length):n-(T.getD (ai T n) lb).least<2^(T.getD (ai T n) lb).bits:=by
 have q:=tQ (T:=T) (n:=n) T.length 0 (by rw[<-fL];omega);rw[<-fL]at q;have p:=Lf h _ hi;omega
def Aq:ay.all (λ y=>Ao (y.many<=2^y.bits))=true:=by decide+kernel
def CT:aK.all (λ y=>Ao (y.many<=2^y.bits))=true:=by decide+kernel
def CU {A B:List (Nat×Nat)}(hA:jU A)(hB:jU B){t:Tn}(h:bY t):gw (t7 ay aK A B t):=by
 unfold t7
 split
 ·exact lK hA _ (by decide) (by decide)
 ·next h0=>
  have te:=bb rfl rfl h h0;have s1:=cH (ai ay t.long);have s2:=di (ai aK t.dist);exact cO (lK hA _ (IW Aq te.1) om) (lK hB _ (IW CT te.2) om)
def yD {A B:List (Nat×Nat)}(hA:jU A)(hB:jU B){H:GR}(hH:gw H){l:GU}(hl:∀t∈l,bY t):gw (ba ay aK A B H l l.length):=by
 rw[gl];exact cO hH (r8 λ t ht=>CU hA hB (hl t (Xs ht)))
def nr {l:GU}(hl:∀i,bY (l.getD i lb)):∀t∈l,bY t:=λ t ht=>by
 obtain⟨i,hi⟩:=Xo ht;have:=hl i
 rwa [Wd,hi]at this
def sd (a:Nat):fM a<=7:=by rw[m7];omega
def CV {e a:Nat}{raw:Z4}(he:e<=1)(hr:raw.length<=65535):gw (ry e a raw):=by
 unfold ry;rw[io];have:=sd a;refine cO (bZ ⟨show e<2^1 by omega,Wm rfl⟩ (bZ ⟨by decide,Wm rfl⟩ (bZ ⟨Yr _,by show fM a<=32;omega⟩ (bZ ⟨show raw.length<2^16 by omega,Wm rfl⟩ (bZ ⟨show 65535-raw.length<2^16 by omega,Wm rfl⟩ iw))))) λ x hx=>?_
 obtain⟨y,hy,rfl⟩:=List.mem_map.1 hx;exact⟨y.toNat_lt,Wm rfl⟩
structure DyG (l:GU):Prop where
 f:DyF (aL 286 (bV ay l l.length++[256])) (aL 30 (dl aK l l.length)) (bE (aL 286 (bV ay l l.length++[256])) 15) (bE (aL 30 (dl aK l l.length)) 15) (gO (bE (aL 286 (bV ay l l.length++[256])) 15) 257) (gO (bE (aL 30 (dl aK l l.length)) 15) 1) (ve l) (aL 19 ((ve l).map Rn.s)) (nq l) (iK (nq l) 19) (gO (iK (nq l) 19) 4)
 lL:(np l).length=gO (bE (aL 286 (bV ay l l.length++[256])) 15) 257
 lB:(rW l).length=gO (bE (aL 30 (dl aK l l.length)) 15) 1
 lO:(yC l).length=gO (iK (nq l) 19) 4
 cL:dC (np l) 15=0
 cB:dC (rW l) 15=0
 oL:jU (aa (np l))
 oB:jU (aa (rW l))
def MQ (l:GU)(hk:l.length<=65535):DyG l:=by
 have F:=(r6 l).f rfl hk;have eL:np l=(bE (aL 286 (bV ay l l.length++[256])) 15).take (gO (bE (aL 286 (bV ay l l.length++[256])) 15) 257):=by rw[rX,ff]
 have eB:rW l=(bE (aL 30 (dl aK l l.length)) 15).take (gO (bE (aL 30 (dl aK l l.length)) 15) 1):=by rw[rY,ff]
 have eO:yC l=(iK (nq l) 19).take (gO (iK (nq l) 19) 4):=by rw[rZ,ff]
 exact⟨F,by rw[eL];exact F.lA2,by rw[eB];exact F.lB2,by rw[eO];exact F.lO2,by rw[eL];exact F.cA,by rw[eB];exact F.cB,by rw[eL];exact F.oA,by rw[eB];exact F.oB⟩
def se {e:Nat}{l:GU}(he:e<=1)(hk:l.length<=65535):gw (Ez e l):=by
 have G:=MQ l hk;have F:=G.f;rw[lJ,gq,gq];have k1:=F.k1;have k2:=F.k2;have k3:=F.k3;refine cO (cO (cO (r9 he (by decide)) (bZ ⟨show(np l).length-257<2^5 by rw[G.lL];omega,Wm rfl⟩ (bZ ⟨show(rW l).length-1<2^5 by rw[G.lB];omega,Wm rfl⟩ (bZ ⟨show(yC l).length-4<2^4 by rw[G.lO];omega,Wm rfl⟩ iw)))) (r8 λ x hx=>bZ ⟨?_,Wm rfl⟩ iw)) (r8 λ r hr=>?_)
 ·obtain⟨i,hi⟩:=Xo (Xs hx)
  have q:=F.bO i;have e1:(iK (nq l) 19).getD i lb=x:=by
   rw[rZ,ff]at hi;have hi2:=(Xa▸hi:(if i<_ then(iK (nq l) 19)[i]? else z9)=Ge x)
   split at hi2
   ·rw[Wd,hi2];rfl
   ·cases hi2
  rw[e1]at q;show x.toNat<2^3;omega
 ·obtain⟨i,hi⟩:=Xo (Xs hr)
  have q:=F.oR i;have e1:(ve l).getD i lb=r:=by rw[Wd,hi];rfl
  rw[e1]at q;exact lK F.oC _ q.2 (Ww (xv _).2 (by decide))
def Lg {a kd:Nat}{raw:Z4}{l:GU}{e:Nat}(he:e<=1)(hr:raw.length<=65535)(hk:l.length<=65535)(hl:∀i,bY (l.getD i lb)):gw (r7 a kd raw l e):=by
 rw[gr]
 split
 ·exact CV he hr
 ·split
  ·rw[i9]
   exact cO (yD (eE dT) (eE gL) (r9 he (by decide)) (nr hl)) (lK (eE dT) _ (by decide) (by decide))
  ·have G:=MQ l hk
   rw[ja];exact cO (yD G.oL G.oB (se he hk) (nr hl)) (lK G.oL _ (by decide) (by decide))
def sf {e:Nat}{l:GU}(hk:l.length<=65535):(Ez e l).length<=1000:=by
 have G:=MQ l hk;have F:=G.f;rw[lJ,iu (c:=2) (λ _=>rfl) _ (Wl _),iu (c:=1) (λ _=>rfl) _ (Wl _),Wc];have:=F.lR;have:=F.k3;have:=G.lO;show 2+3+_+_<=_;omega
def Gc {a kd:Nat}{raw:Z4}{l:GU}{e:Nat}(hr:raw.length<=65535)(hk:l.length<=65535):(r7 a kd raw l e).length<=1000000:=by
 rw[gr]
 split
 ·unfold ry;rw[kA (Wl _)];omega
 ·split
  ·rw[i9,Wc]
   have:=cv (T1:=ay) (T2:=aK) (A:=aa cd) (B:=aa dS) (H:=kX e 1) (l:=l) l.length (Wl _);have e2:(kX e 1).length=2:=rfl;have e3:(iG (aa cd) 256 0 0).length=2:=rfl;omega
  ·rw[ja,Wc]
   have:=cv (T1:=ay) (T2:=aK) (A:=aa (np l)) (B:=aa (rW l)) (H:=Ez e l) (l:=l) l.length (Wl _);have e2:=sf (e:=e) hk;have e3:(iG (aa (np l)) 256 0 0).length=2:=rfl;omega
def Uq (a kd:Nat)(ha:a<=7)(hkd:kd<=2)(raw:Z4)(hr2:raw.length<=65535)(l:GU)(hk2:l.length<=65535)(hl:∀i,bY (l.getD i lb))(last:Bool):S0 65 [nD a,fK kd,.sl Gd raw.length 1 (raw.map dB),.sl Gd l.length 3 (l.flatMap aY),bD last] [] (.ptr 0 0 0) [⟨[.ref 1 1 0 (r7 a kd raw l (if last then 1 else 0)).length 2], 123,Gd⟩,⟨(r7 a kd raw l (if last then 1 else 0)).flatMap aC, 126,Ga⟩]:=by
 rw[gr]
 by_cases h0:kd=0
 ·subst h0
  rw[ZF rfl];have e5:(ry (if last then 1 else 0) a raw).length=5+raw.length:=by unfold ry;exact kA (Wl _)
  rw[e5]
  cases last
  ·exact OF l.length (l.flatMap aY) (dO l) a ha raw _ rfl hr2 _ _ rfl rfl
  ·exact OE l.length (l.flatMap aY) (dO l) a ha raw _ rfl hr2 _ _ rfl rfl
 ·rw[ZE h0]
  by_cases h1:kd=1
  ·subst h1
   rw[ZF rfl,i9];have q1:=eE dT;have q2:=eE gL
   cases last
   ·exact OO l _ rfl hk2 hl _ _ rfl rfl (by decide) (by decide) cH di _ _ rfl rfl (by decide+kernel) (by decide+kernel) dT gL Ss Ss q1 q2 _ rfl rfl a ha raw _ rfl hr2
   ·exact ON l _ rfl hk2 hl _ _ rfl rfl (by decide) (by decide) cH di _ _ rfl rfl (by decide+kernel) (by decide+kernel) dT gL Ss Ss q1 q2 _ rfl rfl a ha raw _ rfl hr2
  ·have h2:kd=2:=by omega
   subst h2;rw[ZE h1,ja];have G:=MQ l hk2;have e1:Ez (if last then 1 else 0) l=cI (cI (kX (if last then 1 else 0) 2++[⟨gO (bE (aL 286 (bV ay l l.length++[256])) 15) 257-257,5⟩,⟨gO (bE (aL 30 (dl aK l l.length)) 15) 1-1,5⟩,⟨gO (iK (nq l) 19) 4-4,4⟩]) gJ ((iK (nq l) 19).take (gO (iK (nq l) 19) 4)) (gO (iK (nq l) 19) 4)) (iv (aa (nq l))) (ve l) (ve l).length:=by
    rw[lJ,G.lL,G.lB,G.lO,rZ,ff]
   have eL:np l=(bE (aL 286 (bV ay l l.length++[256])) 15).take (gO (bE (aL 286 (bV ay l l.length++[256])) 15) 257):=by rw[rX,ff]
   have eB:rW l=(bE (aL 30 (dl aK l l.length)) 15).take (gO (bE (aL 30 (dl aK l l.length)) 15) 1):=by rw[rY,ff]
   rw[eL,eB]
   cases last
   ·exact PL l _ rfl hk2 hl _ _ rfl rfl (by decide) (by decide) cH di _ _ _ _ _ _ _ _ _ _ _ (r6 l) _ _ rfl rfl _ _ _ _ rfl rfl rfl e1.symm a ha raw _ rfl hr2
   ·exact PK l _ rfl hk2 hl _ _ rfl rfl (by decide) (by decide) cH di _ _ _ _ _ _ _ _ _ _ _ (r6 l) _ _ rfl rfl _ _ _ _ rfl rfl rfl e1.symm a ha raw _ rfl hr2
def uL (T:a9)(n:Nat):Nat->Nat
 |0=>0
 |i+1=>if(T.getD i lb).least<=n then i else uL T n i
def Lh {T:a9}{n i:Nat}(h:(T.getD i lb).least<=n):uL T n (i+1)=i:=ZF h
def Li {T:a9}{n i:Nat}(h:¬(T.getD i lb).least<=n):uL T n (i+1)=uL T n i:=ZE h
def CW {T:a9}{n:Nat}(hs:∀i j,i<j->j<T.length->(T.getD i lb).least+(T.getD i lb).many<=(T.getD j lb).least)(hI:ai T n<T.length):∀k,ai T n<k->k<=T.length->uL T n k=ai T n
 |0,h,_=>absurd h (XN _)
 |k+1,h,h2=>by
  have q:=tQ (T:=T) (n:=n) T.length 0 (by rw[<-fL];omega);rw[<-fL]at q
  by_cases e:k=ai T n
  ·rw[e];exact Lh q.1
  ·have s:=hs (ai T n) k om om
   rw[Li om];exact CW hs hI k om om
def Gf:∀i j,i<j->j<ay.length->(ay.getD i lb).least+(ay.getD i lb).many<=(ay.getD j lb).least:=by
 have h:∀j:Fin 29,∀i:Fin 29,i.1<j.1->(ay.getD i.1 lb).least+(ay.getD i.1 lb).many<=(ay.getD j.1 lb).least:=by decide+kernel
 exact λ i j hij hj=>h ⟨j,hj⟩ ⟨i,Nat.lt_trans hij hj⟩ hij
def Lj:∀i j,i<j->j<aK.length->(aK.getD i lb).least+(aK.getD i lb).many<=(aK.getD j lb).least:=by
 have h:∀j:Fin 30,∀i:Fin 30,i.1<j.1->(aK.getD i.1 lb).least+(aK.getD i.1 lb).many<=(aK.getD j.1 lb).least:=by decide+kernel
 exact λ i j hij hj=>h ⟨j,hj⟩ ⟨i,Nat.lt_trans hij hj⟩ hij
def bL:Gw:=[0,0,0,0,0,0,0,0,1,1,1,1,2,2,2,2,3,3,3,3,4,4,4,4,5,5,5,5,0]
def bF:Gw:=[0,0,0,0,1,1,2,2,3,3,4,4,5,5,6,6,7,7,8,8,9,9,10,10,11,11,12,12,13,13]
def lL:Gw:=[3,4,5,6,7,8,9,10,11,13,15,17,19,23,27,31,35,43,51,59,67,83,99,115,131,163,195,227,258]
def lF:Gw:=[1,2,3,4,5,7,9,13,17,25,33,49,65,97,129,193,257,385,513,769,1025,1537,2049,3073,4097,6145,8193,12289,16385,24577]
def yE {T:a9}{f:Sy->Nat}{B:Gw}(h0:B=T.map f){i:Nat}(h:i<T.length):(B.map nD)[0+i*1]? =Ge (nD (f (T.getD i lb))):=by
 subst h0;rw[WE,Wx,WB,WB,Wd,Wa h];rfl
def PM {T:a9}(hT:T=ay){i:Nat}(h:i<29):(lL.map nD)[0+i*1]? =Ge (nD (T.getD i lb).least):=by subst hT;exact yE (T:=ay) (f:=Sy.least) rfl (show i<ay.length from h)
def Ur {T:a9}(hT:T=ay){i:Nat}(h:i<29):(bL.map nD)[0+i*1]? =Ge (nD (T.getD i lb).bits):=by subst hT;exact yE (T:=ay) (f:=Sy.bits) rfl (show i<ay.length from h)
def PN {T:a9}(hT:T=aK){i:Nat}(h:i<30):(lF.map nD)[0+i*1]? =Ge (nD (T.getD i lb).least):=by subst hT;exact yE (T:=aK) (f:=Sy.least) rfl (show i<aK.length from h)
def Us {T:a9}(hT:T=aK){i:Nat}(h:i<30):(bF.map nD)[0+i*1]? =Ge (nD (T.getD i lb).bits):=by subst hT;exact yE (T:=aK) (f:=Sy.bits) rfl (show i<aK.length from h)
def PO (T:a9)(hT:T=ay)(hTl:T.length=29)(hz:bi T)(n:Nat)(hn:3<=n/\n<=258)(I:Nat)(hI:uL T n 29=I)(hIk:I<29)(hIe:(T.getD I lb).least<=n):S0 132 [nD n] [] (.tup [nD (257+I),nD (T.getD I lb).bits,nD (n-(T.getD I lb).least),iD 0]) []:=SpR Tryz.func132 rfl rfl rfl trivial rfl 1000 64 (λ R ok=>.F 9 (Ao ((n:Int)<3)) rC<|.F 4 (Ao (258<(n:Int))) rC<|.s 58<|BY T_ok ae Gd 40 0 (am Tryz.prog 132 0) (λ(x:(i:Nat)×'(hi:i<=29)×'Unit)=>match x with|⟨i,hi,_⟩=>Wr [(0,zN n),(6,WA 0 0 0),(7,WA 8 8 0),(8,nD (uL T n i)),(9,nD i)] [⟨0,0,216,216,.b ⟨[zI 3,zI 4,zI 5,zI 6,zI 7,zI 8,zI 9,zI 10,zI 11,zI 13,zI 15,zI 17,zI 19,zI 23,zI 27,zI 31,zI 35,zI 43,zI 51,zI 59,zI 67,zI 83,zI 99,zI 115,zI 131,zI 163,zI 195,zI 227,zI 258],256,Gd⟩⟩,⟨8,8,224,224,.b ⟨[zI 0,zI 0,zI 0,zI 0,zI 0,zI 0,zI 0,zI 0,zI 1,zI 1,zI 1,zI 1,zI 2,zI 2,zI 2,zI 2,zI 3,zI 3,zI 3,zI 3,zI 4,zI 4,zI 4,zI 4,zI 5,zI 5,zI 5,zI 5,zI 0],256,Gd⟩⟩] 16) (λ(x:(i:Nat)×'(hi:i<=29)×'Unit)=>match x with|⟨i,hi,_⟩=>29-i) [⟨Unit,.exit 0,λ()=>Wr [(0,zN n),(6,WA 0 0 0),(7,WA 8 8 0),(8,nD I),(9,nD 29)] [⟨0,0,216,216,.b ⟨[zI 3,zI 4,zI 5,zI 6,zI 7,zI 8,zI 9,zI 10,zI 11,zI 13,zI 15,zI 17,zI 19,zI 23,zI 27,zI 31,zI 35,zI 43,zI 51,zI 59,zI 67,zI 83,zI 99,zI 115,zI 131,zI 163,zI 195,zI 227,zI 258],256,Gd⟩⟩,⟨8,8,224,224,.b ⟨[zI 0,zI 0,zI 0,zI 0,zI 0,zI 0,zI 0,zI 0,zI 1,zI 1,zI 1,zI 1,zI 2,zI 2,zI 2,zI 2,zI 3,zI 3,zI 3,zI 3,zI 4,zI 4,zI 4,zI 4,zI 5,zI 5,zI 5,zI 5,zI 0],256,Gd⟩⟩] 16⟩] 1000 64 (fun|⟨i,hi,_⟩,Q,ZB,ZD=>.B 3 ((i:Int)<29) (λ p0 Z9=>.K 2 (Ga&&Ao ((i:Int)<(↑29:Int))) aG<|.O 3 ((wo nD lL)[0+i*1]?) (nD (Sy.least (wm T i lb))) (@PM T hT i om)<|.B 3 ((↑(Sy.least (wm T i lb)):Int)<=(n:Int)) (λ p1 Z8=>.W 5 (i+1)<|.V 1 8 (zN i) (zN (uL T n (i+1))) (by(rw[Lh om]))<|.val 9 (zI (i+1)) (zN (i+1)) Ex<|Aw ZB ⟨(i+1),om,⟨⟩⟩ (by show 29-(i+1)<29-i;clear ZB ZD;omega) [(0,0),(8,8)] ro) (λ p1 Z8=>.W 3 (i+1)<|.V 1 8 (zN (uL T n i)) (zN (uL T n (i+1))) (by(rw[Li om]))<|.val 9 (zI (i+1)) (zN (i+1)) Ex<|Aw ZB ⟨(i+1),om,⟨⟩⟩ (by show 29-(i+1)<29-i;clear ZB ZD;omega) [(0,0),(8,8)] ro)) (λ p0 Z9=>.val 8 (zN (uL T n i)) (zN I) (by(rw[show i=29 from by omega,hI]))<|.val 9 (zN i) (zI 29) Ex<|BO ZD 0 (():Unit) rfl [(0,0),(8,8)] ro)) (fun|⟨i,hi,_⟩=>by kernel_rfl) ⟨(0),om,⟨⟩⟩ [(216,216),(224,224)] ro (bB (fun|()=>.W 4 (257+(I:Int))<|.K 2 (Ga&&Ao ((I:Int)<(↑29:Int))) v4<|.O 3 ((wo nD bL)[0+I*1]?) (nD (Sy.bits (wm T I lb))) (@Ur T hT I om)<|.K 3 (Ga&&Ao ((I:Int)<(↑29:Int))) v4<|.O 3 ((wo nD lL)[0+I*1]?) (nD (Sy.least (wm T I lb))) (@PM T hT I om)<|.W 2 (n-(↑(Sy.least (wm T I lb)):Int))<|.U 4 [] [] (Xm [zI (257+(I:Int)),zN (Sy.bits (wm T I lb)),zI (n-(↑(Sy.least (wm T I lb)):Int)),zI 0]) [] R (ok _ _ (by(simp_all<;>omega)) wr)))) kr
def Ut (T:a9)(hT:T=aK)(hTl:T.length=30)(hz:bi T)(n:Nat)(hn:1<=n/\n<=32768)(I:Nat)(hI:uL T n 30=I)(hIk:I<30)(hIe:(T.getD I lb).least<=n):S0 133 [nD n] [] (.tup [nD (I),nD (T.getD I lb).bits,nD (n-(T.getD I lb).least),iD 0]) []:=SpR Tryz.func133 rfl rfl rfl trivial rfl 1000 64 (λ R ok=>.F 9 (Ao ((n:Int)<1)) rC<|.F 4 (Ao (32768<(n:Int))) rC<|.s 58<|BY T_ok ae Gd 39 0 (am Tryz.prog 133 0) (λ(x:(i:Nat)×'(hi:i<=30)×'Unit)=>match x with|⟨i,hi,_⟩=>Wr [(0,zN n),(6,WA 0 0 0),(7,WA 8 8 0),(8,nD (uL T n i)),(9,nD i)] [⟨0,0,216,216,.b ⟨[zI 1,zI 2,zI 3,zI 4,zI 5,zI 7,zI 9,zI 13,zI 17,zI 25,zI 33,zI 49,zI 65,zI 97,zI 129,zI 193,zI 257,zI 385,zI 513,zI 769,zI 1025,zI 1537,zI 2049,zI 3073,zI 4097,zI 6145,zI 8193,zI 12289,zI 16385,zI 24577],177,Gd⟩⟩,⟨8,8,224,224,.b ⟨[zI 0,zI 0,zI 0,zI 0,zI 1,zI 1,zI 2,zI 2,zI 3,zI 3,zI 4,zI 4,zI 5,zI 5,zI 6,zI 6,zI 7,zI 7,zI 8,zI 8,zI 9,zI 9,zI 10,zI 10,zI 11,zI 11,zI 12,zI 12,zI 13,zI 13],177,Gd⟩⟩] 16) (λ(x:(i:Nat)×'(hi:i<=30)×'Unit)=>match x with|⟨i,hi,_⟩=>30-i) [⟨Unit,.exit 0,λ()=>Wr [(0,zN n),(6,WA 0 0 0),(7,WA 8 8 0),(8,nD I),(9,nD 30)] [⟨0,0,216,216,.b ⟨[zI 1,zI 2,zI 3,zI 4,zI 5,zI 7,zI 9,zI 13,zI 17,zI 25,zI 33,zI 49,zI 65,zI 97,zI 129,zI 193,zI 257,zI 385,zI 513,zI 769,zI 1025,zI 1537,zI 2049,zI 3073,zI 4097,zI 6145,zI 8193,zI 12289,zI 16385,zI 24577],177,Gd⟩⟩,⟨8,8,224,224,.b ⟨[zI 0,zI 0,zI 0,zI 0,zI 1,zI 1,zI 2,zI 2,zI 3,zI 3,zI 4,zI 4,zI 5,zI 5,zI 6,zI 6,zI 7,zI 7,zI 8,zI 8,zI 9,zI 9,zI 10,zI 10,zI 11,zI 11,zI 12,zI 12,zI 13,zI 13],177,Gd⟩⟩] 16⟩] 1000 64 (fun|⟨i,hi,_⟩,Q,ZB,ZD=>.B 3 ((i:Int)<30) (λ p0 Z9=>.K 2 (Ga&&Ao ((i:Int)<(↑30:Int))) aG<|.O 3 ((wo nD lF)[0+i*1]?) (nD (Sy.least (wm T i lb))) (@PN T hT i om)<|.B 3 ((↑(Sy.least (wm T i lb)):Int)<=(n:Int)) (λ p1 Z8=>.W 5 (i+1)<|.V 1 8 (zN i) (zN (uL T n (i+1))) (by(rw[Lh om]))<|.val 9 (zI (i+1)) (zN (i+1)) Ex<|Aw ZB ⟨(i+1),om,⟨⟩⟩ (by show 30-(i+1)<30-i;clear ZB ZD;omega) [(0,0),(8,8)] ro) (λ p1 Z8=>.W 3 (i+1)<|.V 1 8 (zN (uL T n i)) (zN (uL T n (i+1))) (by(rw[Li om]))<|.val 9 (zI (i+1)) (zN (i+1)) Ex<|Aw ZB ⟨(i+1),om,⟨⟩⟩ (by show 30-(i+1)<30-i;clear ZB ZD;omega) [(0,0),(8,8)] ro)) (λ p0 Z9=>.val 8 (zN (uL T n i)) (zN I) (by(rw[show i=30 from by omega,hI]))<|.val 9 (zN i) (zI 30) Ex<|BO ZD 0 (():Unit) rfl [(0,0),(8,8)] ro)) (fun|⟨i,hi,_⟩=>by kernel_rfl) ⟨(0),om,⟨⟩⟩ [(216,216),(224,224)] ro (bB (fun|()=>.K 4 (Ga&&Ao ((I:Int)<(↑30:Int))) v4<|.O 3 ((wo nD bF)[0+I*1]?) (nD (Sy.bits (wm T I lb))) (@Us T hT I om)<|.K 3 (Ga&&Ao ((I:Int)<(↑30:Int))) v4<|.O 3 ((wo nD lF)[0+I*1]?) (nD (Sy.least (wm T I lb))) (@PN T hT I om)<|.W 2 (n-(↑(Sy.least (wm T I lb)):Int))<|.U 4 [] [] (Xm [zN I,zN (Sy.bits (wm T I lb)),zI (n-(↑(Sy.least (wm T I lb)):Int)),zI 0]) [] R (ok _ _ (by(simp_all<;>omega)) wr)))) kr
def CX(h:p:=by(have h7:=X7 v (2^i);rw[V3 _ om,Uu rfl])):=h
def CY(h:p:=by show n-(i+1)<n-i;clear ZB ZD;omega):=h
def Gg(h:p:=by(rw[show i=n from by omega])):=h
def Gh(h:p:=by(refine decide_eq_true ?_;have h9:=ag (aU l v i);have h8:=aZ l v i;have h7:=X7 v (2^i);omega)):=h
def Gi(h:p:=by(have h6:=ag (aU l v (i+1));have h5:=aZ l v (i+1);have h9:=ag (aU l v i);have h8:=aZ l v i;refine St ?_ ?_<;>omega)):=h
def Lk(h:p:=by(simp;have h9:=ag (aU l v i);have h8:=aZ l v i;have h7:=X7 v (2^i);omega)):=h
def PP(h:p:=by(have h9:=ag (aU l v i);have h8:=aZ l v i;have h7:=X7 v (2^i);omega)):=h
def PQ {v i x:Nat}(h:x=v/2^i):2*dz v i+x%2=dz v (i+1):=by
 subst h;rw[dz,Yc];have:=Nat.mod_lt (v/2^i) (show 0<2 by decide)
 by_cases q:v/2^i%2=1
 ·rw[q];rfl
 ·rw[show v/2^i%2=0 from by omega];rfl
def Uu {v i x:Nat}(h:x=v/2^i):x/2=v/2^(i+1):=by subst h;rw[Nat.div_div_eq_div_mul,XO]
def IX (v:Nat){i n:Nat}(hi:i<=n)(hn:n<=32):dz v i<4294967296:=WX (oi v i) (Xh (n:=2) (by decide) (show i<=32 by omega))
def Uv (x:Nat):((x:Nat):Int).tmod 2=((x%2:Nat):Int):=rfl
def V3 (x:Nat)(h:x<4294967296):IntKind.u32.wrap (((x:Nat):Int).tdiv 2)=((x/2:Nat):Int):=by
 rw[show((x:Nat):Int).tdiv 2=((x/2:Nat):Int)from rfl];show((x/2:Nat):Int)%4294967296=_;omega
def Gj (v n:Nat)(hn:n<=32)(hv:v<4294967296):S0 165 [uD v,nD n] [] (uD (dz v n)) []:=SpR Tryz.func165 rfl rfl rfl trivial rfl 1000 64 (λ R ok=>.V 3 0 (ah v) (ah (v/1)) Ex<|BY T_ok ae Gd 20 0 (am Tryz.prog 165 0) (λ(x:(i:Nat)×'(hi:i<=n)×'Unit)=>match x with|⟨i,hi,_⟩=>Wr [(0,uD (v/2^i)),(1,zN n),(5,uD (dz v i)),(6,nD i)] [] 0) (λ(x:(i:Nat)×'(hi:i<=n)×'Unit)=>match x with|⟨i,hi,_⟩=>n-i) [⟨Unit,.exit 0,λ()=>Wr [(1,zN n),(5,uD (dz v n)),(6,nD n)] [] 0⟩] 1000 64 (fun|⟨i,hi,_⟩,Q,ZB,ZD=>.B 4 ((i:Int)<n) (λ p0 Z9=>.O 3 (au .u32 (2*(↑(dz v i):Int))) (uI (2*(↑(dz v i):Int))) (ax (by(have h9:=IX v (i:=i+1) (n:=n) om hn;have h8:=PQ (v:=v) (i:=i) (x:=v/2^i) rfl;have h7:=X7 v (2^i);omega)))<|.O 3 (aX WU (XG (↑(v/2^i):Int) 2)) (uI (XG (↑(v/2^i):Int) 2)) (bS _ _)<|.O 2 (au .u32 (2*(↑(dz v i):Int)+XG (↑(v/2^i):Int) 2)) (uI ((2*(↑(dz v i):Int)+XG (↑(v/2^i):Int) 2)%4294967296)) (aD _ _)<|.O 4 (aX WU (Wo WU (XD (↑(v/2^i):Int) 2))) (uI (Wo WU (XD (↑(v/2^i):Int) 2))) (bS _ _)<|.W 4 (i+1)<|.V 1 0 (uI (Wo WU (XD (↑(v/2^i):Int) 2))) (ah (v/2^(i+1))) CX<|.val 5 (uI ((2*(↑(dz v i):Int)+XG (↑(v/2^i):Int) 2)%4294967296)) (ah (dz v (i+1))) (by(have h9:=IX v (i:=i+1) (n:=n) om hn;have h8:=PQ (v:=v) (i:=i) (x:=v/2^i) rfl;rw[Uv];refine congrArg (λ z=>D.v (.int .u32 z)) ?_;omega))<|.val 6 (zI (i+1)) (zN (i+1)) Ex<|Aw ZB ⟨(i+1),om,⟨⟩⟩ CY [] ro) (λ p0 Z9=>.val 5 (ah (dz v i)) (ah (dz v n)) Gg<|.val 6 (zN i) (zN n) Gg<|BO ZD 0 (():Unit) rfl [] ro)) (fun|⟨i,hi,_⟩=>by kernel_rfl) ⟨(0),om,⟨⟩⟩ [] ro (bB (fun|()=>.Y 2 [] [] (ah (dz v n)) [] ok))) kr
def IY (l:GB)(m:Nat)(hm:m=(pk l).length)(hl:l.length<=10000000):S0 31 [vW m l] [] (.agg [.ref 0 0 0 m 1,nD l.length]) [⟨(pk l).map dB, 5,Ga⟩]:=SpR Tryz.func31 rfl rfl rfl ⟨aH _,trivial⟩ rfl 1000 64 (λ R ok=>.K 12 (Ga&&Wf ((0+m)*1) 140737488355328) (by((refine aA ?_ ?_)<;>(repeat' (first|(refine aA ?_ ?_)|(with_reducible rfl)|(refine decide_eq_true ?_)|(refine We ?_)|(refine dg ?_)))<;>(have h9:=ag l;omega)))<|.Y 14 [32] [32] (W6 [Wb 0 0 0 m 1,zN (v0 l)]) [V8 (wo dB (pk l)) 5 Ga] ok) kr
def PR {X:Z4}{d:D}{x:Int}(hk:x=((X.length:Nat):Int)):(X.map dB++[d])[0+x.toNat*1]? =Ge d:=by
 subst hk;rw[Ya,Wx,WE,WJ (by rw[Wj];exact Wl _),Wj,Xz];rfl
def CZ {l:GB}{v i:Nat}(h:(l.length+i)%8=0):pk (aU l v (i+1))=pk (aU l v i)++[Xg (v.testBit i).toNat]:=by
 rw[<-xB,(Bv (by rw[aZ];exact h)).2]
def C2 {l:GB}{v i:Nat}(h:(l.length+i)%8≠0):pk (aU l v (i+1))=(pk (aU l v i)).set ((l.length+i)/8) (Xg (((pk (aU l v i)).getD ((l.length+i)/8) lb).toNat+2^((l.length+i)%8)*(v.testBit i).toNat)):=by
 rw[<-xB,(HX (by rw[aZ];exact h)).2,aZ]
def PS {v i:Nat}(h:(((v/2^i:Nat):Int)).tmod 2=1):v.testBit i=true:=by
 rw[Uv]at h;rw[Yc];exact decide_eq_true om
def PT {v i:Nat}(h:(((v/2^i:Nat):Int)).tmod 2≠1):v.testBit i=false:=by
 rw[Uv]at h;rw[Yc];exact decide_eq_false om
def St {k g n n':Nat}{x:Int}{y:Nat}{t:TypeId}(h2:n=n')(h3:x=((y:Nat):Int)):(⟨[Wb k g 0 n 1,D.v (.int .i64 x)],t,Gd⟩:Blk)=⟨[Wb k g 0 n' 1,D.v (.int .i64 ((y:Nat):Int))],t,Gd⟩:=by subst h2 h3;rfl
def Gk (k:Nat):dD k=2^k:=by
 induction k with
 |zero=>rfl
 |succ k ih=>rw[dD,ih,XO];omega
def Gl {X:Z4}{d:D}{y:UInt8}{k:Nat}{z:Int}(hk:k=X.length)(hz:z=((y.toNat:Nat):Int)):ac (X.map dB++[d]) k [D.v (.int .u8 z)]=(X++[y]).map dB:=by
 subst hk hz;apply Xe;intro i;rw[ck (by simp),W4]
 by_cases h:i=X.length
 ·subst h
  rw[ZF (by simp),WJ (by simp),Wj,Xz];rfl
 ·rw[ZE (by simp only[W7];omega)]
  rcases WR i X.length with q|q
  ·rw[WO (by simpa using q),WO (by simpa using q)]
  ·rw[WL (by simp;omega),WL (by simp;omega)]
def Ll {X:Z4}{y:UInt8}{k j:Nat}{z:Int}(hk:k=j)(hj:j<X.length)(hz:z=((y.toNat:Nat):Int)):ac (X.map dB) k [D.v (.int .u8 z)]=(X.set j y).map dB:=by
 subst hk hz;apply Xe;intro i;rw[ck (by simp;omega),List.map_set,XA,Wj]
 by_cases h:k=i
 ·subst h
  rw[ZF (by simp),ZF rfl,ZF hj,Xz];rfl
 ·rw[ZE (by simp only[W7];omega),ZE h]
def PU {l:GB}{v i k:Nat}{z:Int}{d:D}(h:(l.length+i)%8=0)(hb:v.testBit i=Ga)(hk:k=(l.length+i)/8)(hz:z=1):ac ((pk (aU l v i)).map dB++[d]) k [D.v (.int .u8 z)]=(pk (aU l v (i+1))).map dB:=by
 rw[CZ h,hb];exact Gl (by rw[ag,aZ];omega) (by rw[hz];rfl)
def PV {l:GB}{v i:Nat}(h:(l.length+i)%8=0)(hb:v.testBit i=Gd):(pk (aU l v i)).map dB++[D.v (.int .u8 0)]=(pk (aU l v (i+1))).map dB:=by
 rw[CZ h,hb,W4];rfl
def PW {l:GB}{v i k:Nat}{z:Int}(h:(l.length+i)%8≠0)(hb:v.testBit i=Ga)(hk:k=(l.length+i)/8)(hz:z=((((pk (aU l v i)).getD k lb).toNat:Nat)+((dD ((l.length+i)%8):Nat):Int)%256)%256):ac ((pk (aU l v i)).map dB) k [D.v (.int .u8 z)]=(pk (aU l v (i+1))).map dB:=by
 rw[C2 h,hb];refine Ll hk (by rw[ag,aZ];omega) ?_;rw[hz,hk,Gk];show _=(((Xg (_+2^((l.length+i)%8)*1)).toNat:Nat):Int);rw[UInt8.toNat_ofNat',Wx];show _=(((_+2^((l.length+i)%8))%256:Nat):Int);omega
def PX {l:GB}{v i:Nat}(h:(l.length+i)%8≠0)(hb:v.testBit i=Gd):pk (aU l v i)=pk (aU l v (i+1)):=by
 rw[C2 h,hb];show _=(pk (aU l v i)).set _ (Xg (_+2^_*0));have hl:(l.length+i)/8<(pk (aU l v i)).length:=by rw[ag,aZ];omega
 rw[Nat.mul_zero,X4,UInt8.ofNat_toNat,Wd,Wa hl];exact(List.set_getElem_self hl).symm
def IZ (k:Nat):S0 129 [iD ((k:Int)%8)] [] (.v (.int .u64 ((dD (k%8):Nat):Int))) []:=by
 have h:=Tu (k%8) om
 rwa [show nD (k%8)=iD ((k:Int)%8)from congrArg (λ z=>D.v (.int .i64 z)) om]at h
def PY (l:GB)(m:Nat)(hm:m=(pk l).length)(hl:l.length<=10000000)(v n:Nat)(hn:n<=32)(hv:v<4294967296):S0 98 [vW m l,uD v,nD n] [] (.agg [.ref 0 0 0 (pk (aU l v n)).length 1,nD (l.length+n)]) [⟨(pk (aU l v n)).map dB, 5,Ga⟩]:=SpR Tryz.func98 rfl rfl rfl ⟨aH _,trivial⟩ rfl 1000 64 (λ R ok=>.C 9 31 Gd [] (.fn SI (@IY (l) (m) om om))<|.V 6 1 (ah v) (ah (v/1)) Ex<|.blk 24 24 (V8 (wo dB (pk l)) 5 Ga) (V8 (wo dB (pk (aU l v 0))) 5 Ga) (by(rw[xA]))<|.blk 32 32 (V8 [Wb 24 24 0 m 1,zN (v0 l)] 26 Gd) (V8 [Wb 24 24 0 (v0 (pk (aU l v 0))) 1,zN (v0 l+0)] 26 Gd) (by(refine St ?_ rfl;rw[xA,hm]))<|BY T_ok ae Gd 54 0 (am Tryz.prog 98 0) (λ(x:(i:Nat)×'(hi:i<=n)×'Unit)=>match x with|⟨i,hi,_⟩=>Wr [(1,uD (v/2^i)),(2,zN n),(6,WA 0 0 0),(7,WA 16 16 0),(8,nD i)] [⟨0,0,8,8,.b ⟨[zS,zI 0],26,Gd⟩⟩,⟨8,8,24,24,.b ⟨(pk (aU l v i)).map dB,5,Ga⟩⟩,⟨16,16,32,32,.b ⟨[(Wb 8 8 (0) ((pk (aU l v i)).length) 1),nD (l.length+i)],26,Gd⟩⟩] 24) (λ(x:(i:Nat)×'(hi:i<=n)×'Unit)=>match x with|⟨i,hi,_⟩=>n-i) [⟨Unit,.exit 0,λ()=>Wr [(2,zN n),(6,WA 0 0 0),(7,WA 16 16 0)] [⟨0,0,8,8,.b ⟨[zS,zI 0],26,Gd⟩⟩,⟨8,8,24,24,.b ⟨(pk (aU l v n)).map dB,5,Ga⟩⟩,⟨16,16,32,32,.b ⟨[(Wb 8 8 (0) ((pk (aU l v n)).length) 1),nD (l.length+n)],26,Gd⟩⟩] 24⟩] 1000 64 (fun|⟨i,hi,_⟩,Q,ZB,ZD=>.B 4 ((i:Int)<n) (λ p0 Z9=>.O 8 (aX Wv (XG (↑(v0 l+i):Int) 8)) (zI ((↑(v0 l+i):Int)%8)) (aB (@bT  ((↑(v0 l+i):Int)) (8) om))<|.R 2 ((↑(v0 l+i):Int)%8==0) (λ p1=>have Z8:=eq_of_beq p1;.K 9 (Ga&&V9 (v0 (pk (aU l v i))*1) (v0 (wo dB (pk (aU l v i))))&&Ga&&Ga&&Ga&&Ga&&Wf ((v0 (pk (aU l v i))+1)*1) 140737488355328) Lk<|.O 9 (aX WU (XG (↑(v/2^i):Int) 2)) (uI (XG (↑(v/2^i):Int) 2)) (bS _ _)<|.R 2 (XG (↑(v/2^i):Int) 2==1) (λ p2=>have Z7:=eq_of_beq p2;.O 15 (aX Wv (Wo Wv (XD (↑(v0 l+i):Int) 8))) (zI ((↑(v0 l+i):Int)/8)) (aB (@aT  ((↑(v0 l+i):Int)) (8) om om))<|.O 14 (aX Wv (Wo Wv (XD (↑(v0 l+i):Int) 8))) (zI ((↑(v0 l+i):Int)/8)) (aB (@aT  ((↑(v0 l+i):Int)) (8) om om))<|.K 1 (Ga&&Ao ((↑(v0 l+i):Int)/8<(↑(v0 (pk (aU l v i))+1):Int))) Gh<|.O 2 ((wo dB (pk (aU l v i))++[bI 0])[0+zL ((↑(v0 l+i):Int)/8)*1]?) (bI 0) (@PR (pk (aU l v i)) (bI 0) ((↑(v0 l+i):Int)/8) PP)<|.O 8 (aX Wv (XG (↑(v0 l+i):Int) 8)) (zI ((↑(v0 l+i):Int)%8)) (aB (@bT  ((↑(v0 l+i):Int)) (8) om))<|.C 1 129 Gd [] (.fn NH (@IZ (v0 l+i)))<|.O 1 (au .u8 (↑(dD ((v0 l+i)%8)):Int)) (bI ((↑(dD ((v0 l+i)%8)):Int)%256)) (aD _ _)<|.O 2 (au .u8 (0+(↑(dD ((v0 l+i)%8)):Int)%256)) (bI (0+(↑(dD ((v0 l+i)%8)):Int)%256)) (gF om)<|.K 1 (Ga&&Ao ((↑(v0 l+i):Int)/8<(↑(v0 (pk (aU l v i))+1):Int))) Gh<|.K 1 (Ga&&Wf (0+zL ((↑(v0 l+i):Int)/8)*1+1) (v0 (wo dB (pk (aU l v i))++[bI 0]))) Lk<|.lst (ac (wo dB (pk (aU l v i))++[bI 0]) (0+zL ((↑(v0 l+i):Int)/8)*1) [bI (0+(↑(dD ((v0 l+i)%8)):Int)%256)]) (ac (wo dB (pk (aU l v i))++[bI 0]) (zL ((↑(v0 l+i):Int)/8)) [bI (0+(↑(dD ((v0 l+i)%8)):Int)%256)]) (by(simp;done))<|.O 3 (aX WU (Wo WU (XD (↑(v/2^i):Int) 2))) (uI (Wo WU (XD (↑(v/2^i):Int) 2))) (bS _ _)<|.W 9 ((↑(v0 l+i):Int)+1)<|.W 9 (i+1)<|.V 1 1 (uI (Wo WU (XD (↑(v/2^i):Int) 2))) (ah (v/2^(i+1))) CX<|.val 8 (zI (i+1)) (zN (i+1)) Ex<|.blk 16 16 (V8 [Wb 104 104 0 (v0 (pk (aU l v i))+1) 1,zI ((↑(v0 l+i):Int)+1)] 26 Gd) (V8 [Wb 104 104 0 (v0 (pk (aU l v (i+1)))) 1,zN (v0 l+(i+1))] 26 Gd) Gi<|.blk 104 104 (V8 (ac (wo dB (pk (aU l v i))++[bI 0]) (zL ((↑(v0 l+i):Int)/8)) [bI (0+(↑(dD ((v0 l+i)%8)):Int)%256)]) 5 Ga) (V8 (wo dB (pk (aU l v (i+1)))) 5 Ga) (by((try simp only[show abg 8=8 from rfl]at *);refine aq (PU om (PS aG) om ?_);rw[show(l.length+i)%8=0 from by omega];rfl))<|Aw ZB ⟨(i+1),om,⟨⟩⟩ CY [(0,0),(104,104),(16,16)] ro) (λ p2=>have Z7:=ak p2;.O 3 (aX WU (Wo WU (XD (↑(v/2^i):Int) 2))) (uI (Wo WU (XD (↑(v/2^i):Int) 2))) (bS _ _)<|.W 9 ((↑(v0 l+i):Int)+1)<|.W 9 (i+1)<|.V 1 1 (uI (Wo WU (XD (↑(v/2^i):Int) 2))) (ah (v/2^(i+1))) CX<|.val 8 (zI (i+1)) (zN (i+1)) Ex<|.blk 16 16 (V8 [Wb 104 104 0 (v0 (pk (aU l v i))+1) 1,zI ((↑(v0 l+i):Int)+1)] 26 Gd) (V8 [Wb 104 104 0 (v0 (pk (aU l v (i+1)))) 1,zN (v0 l+(i+1))] 26 Gd) Gi<|.blk 104 104 (V8 (wo dB (pk (aU l v i))++[bI 0]) 5 Ga) (V8 (wo dB (pk (aU l v (i+1)))) 5 Ga) (by((try simp only[show abg 8=8 from rfl]at *);refine aq (PV om (PT aG))))<|Aw ZB ⟨(i+1),om,⟨⟩⟩ CY [(0,0),(104,104),(16,16)] ro)) (λ p1=>have Z8:=ak p1;.O 3 (aX WU (XG (↑(v/2^i):Int) 2)) (uI (XG (↑(v/2^i):Int) 2)) (bS _ _)<|.R 2 (XG (↑(v/2^i):Int) 2==1) (λ p3=>have Z6:=eq_of_beq p3;.O 15 (aX Wv (Wo Wv (XD (↑(v0 l+i):Int) 8))) (zI ((↑(v0 l+i):Int)/8)) (aB (@aT  ((↑(v0 l+i):Int)) (8) om om))<|.O 14 (aX Wv (Wo Wv (XD (↑(v0 l+i):Int) 8))) (zI ((↑(v0 l+i):Int)/8)) (aB (@aT  ((↑(v0 l+i):Int)) (8) om om))<|.K 1 (Ga&&Ao ((↑(v0 l+i):Int)/8<(↑(v0 (pk (aU l v i))):Int))) Gh<|.O 2 ((wo dB (pk (aU l v i)))[0+zL ((↑(v0 l+i):Int)/8)*1]?) (dB (wm (pk (aU l v i)) (0+zL ((↑(v0 l+i):Int)/8)*1) lb)) (aj _ _ PP)<|.O 8 (aX Wv (XG (↑(v0 l+i):Int) 8)) (zI ((↑(v0 l+i):Int)%8)) (aB (@bT  ((↑(v0 l+i):Int)) (8) om))<|.C 1 129 Gd [] (.fn NH (@IZ (v0 l+i)))<|.O 1 (au .u8 (↑(dD ((v0 l+i)%8)):Int)) (bI ((↑(dD ((v0 l+i)%8)):Int)%256)) (aD _ _)<|.O 2 (au .u8 ((↑(V7 (wm (pk (aU l v i)) (0+zL ((↑(v0 l+i):Int)/8)*1) lb)):Int)+(↑(dD ((v0 l+i)%8)):Int)%256)) (bI (((↑(V7 (wm (pk (aU l v i)) (0+zL ((↑(v0 l+i):Int)/8)*1) lb)):Int)+(↑(dD ((v0 l+i)%8)):Int)%256)%256)) (aD _ _)<|.K 1 (Ga&&Ao ((↑(v0 l+i):Int)/8<(↑(v0 (pk (aU l v i))):Int))) Gh<|.K 1 (Ga&&Wf (0+zL ((↑(v0 l+i):Int)/8)*1+1) (v0 (wo dB (pk (aU l v i))))) Lk<|.lst (ac (wo dB (pk (aU l v i))) (0+zL ((↑(v0 l+i):Int)/8)*1) [bI (((↑(V7 (wm (pk (aU l v i)) (0+zL ((↑(v0 l+i):Int)/8)*1) lb)):Int)+(↑(dD ((v0 l+i)%8)):Int)%256)%256)]) (ac (wo dB (pk (aU l v i))) (zL ((↑(v0 l+i):Int)/8)) [bI (((↑(V7 (wm (pk (aU l v i)) (zL ((↑(v0 l+i):Int)/8)) lb)):Int)+(↑(dD ((v0 l+i)%8)):Int)%256)%256)]) (by(simp;done))<|.O 3 (aX WU (Wo WU (XD (↑(v/2^i):Int) 2))) (uI (Wo WU (XD (↑(v/2^i):Int) 2))) (bS _ _)<|.W 9 ((↑(v0 l+i):Int)+1)<|.W 9 (i+1)<|.V 1 1 (uI (Wo WU (XD (↑(v/2^i):Int) 2))) (ah (v/2^(i+1))) CX<|.val 8 (zI (i+1)) (zN (i+1)) Ex<|.blk 16 16 (V8 [Wb 8 8 0 (v0 (pk (aU l v i))) 1,zI ((↑(v0 l+i):Int)+1)] 26 Gd) (V8 [Wb 8 8 0 (v0 (pk (aU l v (i+1)))) 1,zN (v0 l+(i+1))] 26 Gd) Gi<|.blk 8 8 (V8 (ac (wo dB (pk (aU l v i))) (zL ((↑(v0 l+i):Int)/8)) [bI (((↑(V7 (wm (pk (aU l v i)) (zL ((↑(v0 l+i):Int)/8)) lb)):Int)+(↑(dD ((v0 l+i)%8)):Int)%256)%256)]) 5 Ga) (V8 (wo dB (pk (aU l v (i+1)))) 5 Ga) (by((try simp only[show abg 8=8 from rfl]at *);refine aq (PW om (PS aG) om rfl)))<|Aw ZB ⟨(i+1),om,⟨⟩⟩ CY [(0,0),(8,8),(16,16)] ro) (λ p3=>have Z6:=ak p3;.O 3 (aX WU (Wo WU (XD (↑(v/2^i):Int) 2))) (uI (Wo WU (XD (↑(v/2^i):Int) 2))) (bS _ _)<|.W 9 ((↑(v0 l+i):Int)+1)<|.W 9 (i+1)<|.V 1 1 (uI (Wo WU (XD (↑(v/2^i):Int) 2))) (ah (v/2^(i+1))) CX<|.val 8 (zI (i+1)) (zN (i+1)) Ex<|.blk 16 16 (V8 [Wb 8 8 0 (v0 (pk (aU l v i))) 1,zI ((↑(v0 l+i):Int)+1)] 26 Gd) (V8 [Wb 8 8 0 (v0 (pk (aU l v (i+1)))) 1,zN (v0 l+(i+1))] 26 Gd) Gi<|.blk 8 8 (V8 (wo dB (pk (aU l v i))) 5 Ga) (V8 (wo dB (pk (aU l v (i+1)))) 5 Ga) (by((try simp only[show abg 8=8 from rfl]at *);refine aq (congrArg (wo dB) (PX om (PT aG)))))<|Aw ZB ⟨(i+1),om,⟨⟩⟩ CY [(0,0),(8,8),(16,16)] ro))) (λ p0 Z9=>.blk 16 16 (V8 [Wb 8 8 0 (v0 (pk (aU l v i))) 1,zN (v0 l+i)] 26 Gd) (V8 [Wb 8 8 0 (v0 (pk (aU l v n))) 1,zN (v0 l+n)] 26 Gd) Gg<|.blk 8 8 (V8 (wo dB (pk (aU l v i))) 5 Ga) (V8 (wo dB (pk (aU l v n))) 5 Ga) Gg<|BO ZD 0 (():Unit) rfl [(0,0),(8,8),(16,16)] ro)) (fun|⟨i,hi,_⟩=>by kernel_rfl) ⟨(0),om,⟨⟩⟩ [(8,8),(24,24),(32,32)] ro (bB (fun|()=>.Y 10 [8] [8] (W6 [Wb 0 0 0 (v0 (pk (aU l v n))) 1,zN (v0 l+n)]) [V8 (wo dB (pk (aU l v n))) 5 Ga] ok))) kr
def wn(h:p:=by(have h9:=hl i;have h5:=Xb (l.getD i lb).lit;have h6:=hin i om;have h2:=bb hT1 hT2 (hl i);have h8:=gw (l.getD i lb).lit.toNat;have h4:=gw (257+ai T1 (l.getD i lb).long);have h3:=xh (ai T2 (l.getD i lb).dist);have g1:=hz1 (ai T1 (l.getD i lb).long);have g2:=hz2 (ai T2 (l.getD i lb).dist);have g3:=gw 256;have h7:=jb (T1:=T1) (T2:=T2) (A:=aa A) (B:=aa B) (l:=l) i om;unfold bY at h9;omega)):=h
def As(h:p:=by(have h9:=hl i;have h5:=Xb (l.getD i lb).lit;have h6:=hin i om;have h2:=bb hT1 hT2 (hl i);have h8:=gw (l.getD i lb).lit.toNat;have h4:=gw (257+ai T1 (l.getD i lb).long);have h3:=xh (ai T2 (l.getD i lb).dist);have g1:=hz1 (ai T1 (l.getD i lb).long);have g2:=hz2 (ai T2 (l.getD i lb).dist);have g3:=gw 256;have h7:=jb (T1:=T1) (T2:=T2) (A:=aa A) (B:=aa B) (l:=l) i om;unfold bY at h9;simp only[yG,Xk,WM,WV,Wh,Yh,XM];omega)):=h
def Lm(h:p:=by(refine decide_eq_true ?_;have h9:=hl i;have h5:=Xb (l.getD i lb).lit;have h6:=hin i om;have h2:=bb hT1 hT2 (hl i);have h8:=gw (l.getD i lb).lit.toNat;have h4:=gw (257+ai T1 (l.getD i lb).long);have h3:=xh (ai T2 (l.getD i lb).dist);have g1:=hz1 (ai T1 (l.getD i lb).long);have g2:=hz2 (ai T2 (l.getD i lb).dist);have g3:=gw 256;have h7:=jb (T1:=T1) (T2:=T2) (A:=aa A) (B:=aa B) (l:=l) i om;unfold bY at h9;omega)):=h
def Ln(h:p:=by(rw[sg];refine We ?_;have h9:=hl i;have h5:=Xb (l.getD i lb).lit;have h6:=hin i om;have h2:=bb hT1 hT2 (hl i);have h8:=gw (l.getD i lb).lit.toNat;have h4:=gw (257+ai T1 (l.getD i lb).long);have h3:=xh (ai T2 (l.getD i lb).dist);have g1:=hz1 (ai T1 (l.getD i lb).long);have g2:=hz2 (ai T2 (l.getD i lb).dist);have g3:=gw 256;have h7:=jb (T1:=T1) (T2:=T2) (A:=aa A) (B:=aa B) (l:=l) i om;unfold bY at h9;omega)):=h
def yF (T:a9)(hT:T=ay)(hTl:T.length=29)(hz:bi T)(n:Nat)(hn:3<=n/\n<=258):S0 132 [nD n] [] (.tup [nD (257+ai T n),nD (T.getD (ai T n) lb).bits,nD (n-(T.getD (ai T n) lb).least),iD 0]) []:=by
 have h1:=t8 hT hn;have q:=tQ (T:=T) (n:=n) T.length 0 (by rw[<-fL];omega);rw[<-fL]at q;exact PO T hT hTl hz n hn _ (by subst hT;exact CW Gf (by rw[hTl];exact h1) 29 h1 (by rw[hTl];exact Wl _)) h1 q.1
def C3 (T:a9)(hT:T=aK)(hTl:T.length=30)(hz:bi T)(n:Nat)(hn:1<=n/\n<=32768):S0 133 [nD n] [] (.tup [nD (ai T n),nD (T.getD (ai T n) lb).bits,nD (n-(T.getD (ai T n) lb).least),iD 0]) []:=by
 have h1:=xH hT hn;have q:=tQ (T:=T) (n:=n) T.length 0 (by rw[<-fL];omega);rw[<-fL]at q;exact Ut T hT hTl hz n hn _ (by subst hT;exact CW Lj (by rw[hTl];exact h1) 30 h1 (by rw[hTl];exact Wl _)) h1 q.1
def uM (C:List (Nat×Nat))(s:Nat):Nm:=⟨dz (C.getD s lb).1 (C.getD s lb).2,(C.getD s lb).2⟩
def AE (T1 T2:a9)(A B:List (Nat×Nat))(t:Tn):GR:=
 if t.long=0 then[uM A t.lit.toNat]
 else[uM A (257+ai T1 t.long),⟨t.long-(T1.getD (ai T1 t.long) lb).least,(T1.getD (ai T1 t.long) lb).bits⟩,uM B (ai T2 t.dist),⟨t.dist-(T2.getD (ai T2 t.dist) lb).least,(T2.getD (ai T2 t.dist) lb).bits⟩]
def fy (T1 T2:a9)(A B:List (Nat×Nat))(l:GU)(i:Nat):GR:=lk l ((l.take i).flatMap (AE T1 T2 A B))
section
variable {T1 T2:List Sy} {A B:List (Nat×Nat)} {l:List Tn} {i:Nat}
def oX:fy T1 T2 A B l i=(l.take i).flatMap (AE T1 T2 A B):=aM _ _
def C4:fy T1 T2 A B l 0=[]:=by rw[oX];rfl
def C5 (h:i<l.length):fy T1 T2 A B l (i+1)=fy T1 T2 A B l i++AE T1 T2 A B (l.getD i lb):=by
 have e1:l.take (i+1)=l.take i++[l.getD i lb]:=by
  rw[WW h,Wd,Wa h];rfl
 rw[oX,oX,e1,Xj,YI]
def Gm (t:Tn):(AE T1 T2 A B t).length<=4:=by
 unfold AE;split
 ·show 1<=4;decide
 ·show 4<=4;decide
def jb:∀i,i<=l.length->(fy T1 T2 A B l i).length<=4*i
 |0,_=>by rw[C4];exact Wl _
 |i+1,h=>by
  rw[C5 om,Wc];have:=jb i om;have:=Gm (T1:=T1) (T2:=T2) (A:=A) (B:=B) (l.getD i lb);omega
def C6 (h:i<l.length)(h0:(l.getD i lb).long=0):fy T1 T2 A B l (i+1)=fy T1 T2 A B l i++[uM A (l.getD i lb).lit.toNat]:=by
 rw[C5 h,AE,ZF h0]
def C7 (h:i<l.length)(h0:(l.getD i lb).long≠0):fy T1 T2 A B l (i+1)=fy T1 T2 A B l i++[uM A (257+ai T1 (l.getD i lb).long),⟨(l.getD i lb).long-(T1.getD (ai T1 (l.getD i lb).long) lb).least,(T1.getD (ai T1 (l.getD i lb).long) lb).bits⟩,uM B (ai T2 (l.getD i lb).dist),⟨(l.getD i lb).dist-(T2.getD (ai T2 (l.getD i lb).dist) lb).least,(T2.getD (ai T2 (l.getD i lb).dist) lb).bits⟩]:=by
 rw[C5 h,AE,ZE h0]
end
def sg (l:List (Nat×Nat)):(l.flatMap dK).length=l.length*2:=bg (k:=2) (λ _=>rfl) l
def yG (l:GR):(l.flatMap aC).length=l.length*2:=bg (k:=2) (λ _=>rfl) l
def uN (c:Nat×Nat)(h:c.2<=15)(h2:c.1<2^c.2):S0 131 [.agg [cM c.1,fK c.2]] [] (.agg [cM (dz c.1 c.2),nD c.2]) []:=by
 have h9:c.1<4294967296:=WX h2 (Xh (n:=2) (by decide) (show c.2<=32 by omega));refine SpR Tryz.func131 rfl rfl rfl trivial rfl 1000 64 (λ R ok=>.W 18 (↑(Wg c):Int)<|.C 1 165 Gd [] (.fn SX (@Gj (Wz c) (Wg c) om om))<|.W 7 (↑(Wg c):Int)<|.U 8 [] [] (W6 [ah (dz (Wz c) (Wg c)),zN (Wg c)]) [] R (ok _ _ (by exact rfl) wr)) kr
def Uw (l:GU)(k:Nat)(hk:k=l.length)(hk2:k<=65535)(hl:∀i,bY (l.getD i lb))(T1 T2:a9)(hT1:T1=ay)(hT2:T2=aK)(hl1:T1.length=29)(hl2:T2.length=30)(hz1:bi T1)(hz2:bi T2)(A B:Z4)(n1 n2:Nat)(hA:n1=A.length)(hB:n2=B.length)(hn1:n1<=320)(hn2:n2<=320)(hmA:(aa A).length=n1)(hmB:(aa B).length=n2)(gw:jU (aa A))(xh:jU (aa B))(hin:∀i,i<k->((l.getD i lb).long=0->(l.getD i lb).lit.toNat<n1)/\((l.getD i lb).long≠0->257+ai T1 (l.getD i lb).long<n1/\ai T2 (l.getD i lb).dist<n2))(h256:256<n1):S0 99 [.sl Gd k 3 (l.flatMap aY),.sl Gd n1 1 (A.map dB),.sl Gd n2 1 (B.map dB)] [] (.ref 0 0 0 ((fy T1 T2 (aa A) (aa B) l k)++[uM (aa A) 256]).length 2) [⟨((fy T1 T2 (aa A) (aa B) l k)++[uM (aa A) 256]).flatMap aC, 169,Ga⟩]:=SpR Tryz.func99 rfl rfl rfl ⟨cV (λ _=>rfl) _,trivial⟩ rfl 1000 64 (λ R ok=>.C 3 130 Gd [] (.fn NI (@BH (A) (n1) om om))<|.C 3 130 Gd [] (.fn NI (@BH (B) (n2) om om))<|.s 3<|.nils 9 72 2 169<|.val 9 (Wb 72 72 0 0 2) (Wb 72 72 0 (v0 (fy T1 T2 (aa A) (aa B) l 0)) 2) (by(rw[C4];rfl))<|.blk 72 72 (V8 [] 169 Ga) (V8 (v8 aC (fy T1 T2 (aa A) (aa B) l 0)) 169 Ga) (by(rw[C4];rfl))<|BY T_ok ae Gd 97 0 (am Tryz.prog 99 0) (λ(x:(i:Nat)×'(hi:i<=k)×'Unit)=>match x with|⟨i,hi,_⟩=>Wr [(0,Wu Gd k 3 (v8 aY l)),(7,Wb 0 0 0 (v0 (aa A)) 2),(8,Wb 8 8 0 (v0 (aa B)) 2),(9,(Wb 16 16 (0) ((fy T1 T2 (aa A) (aa B) l i).length) 2)),(10,nD i)] [⟨0,0,16,16,.b ⟨v8 dK (aa A),210,Ga⟩⟩,⟨8,8,40,40,.b ⟨v8 dK (aa B),210,Ga⟩⟩,⟨16,16,72,72,.b ⟨(fy T1 T2 (aa A) (aa B) l i).flatMap aC,169,Ga⟩⟩] 24) (λ(x:(i:Nat)×'(hi:i<=k)×'Unit)=>match x with|⟨i,hi,_⟩=>k-i) [⟨Unit,.exit 0,λ()=>Wr [(0,Wu Gd k 3 (v8 aY l)),(7,Wb 0 0 0 (v0 (aa A)) 2),(8,Wb 8 8 0 (v0 (aa B)) 2),(9,(Wb 16 16 (0) ((fy T1 T2 (aa A) (aa B) l k).length) 2))] [⟨0,0,16,16,.b ⟨v8 dK (aa A),210,Ga⟩⟩,⟨8,8,40,40,.b ⟨v8 dK (aa B),210,Ga⟩⟩,⟨16,16,72,72,.b ⟨(fy T1 T2 (aa A) (aa B) l k).flatMap aC,169,Ga⟩⟩] 24⟩] 1000 64 (fun|⟨i,hi,_⟩,Q,ZB,ZD=>.B 5 ((i:Int)<k) (λ p0 Z9=>.K 3 (Ga&&Ao ((i:Int)<k)&&Ga) As<|.O 5 ((v8 aY l)[i*3+2]?) (zN (Tn.long (wm l i lb))) (cR (k:=3) (i:=i) (j:=2) (λ _=>rfl) om om rfl)<|.R 2 ((↑(Tn.long (wm l i lb)):Int)==0) (λ p1=>have Z8:=eq_of_beq p1;.K 5 (Ga&&Ao ((i:Int)<k)&&Ga) As<|.O 5 ((v8 aY l)[i*3+0]?) (cK (V7 (Tn.lit (wm l i lb)))) (cR (k:=3) (i:=i) (j:=0) (λ _=>rfl) om om rfl)<|.K 1 (Ga&&Ao ((↑(V7 (Tn.lit (wm l i lb))):Int)<(↑(v0 (aa A)):Int))) Lm<|.K 2 (Wf (0+V7 (Tn.lit (wm l i lb))*2+2) (v0 (v8 dK (aa A)))) Ln<|.lst (wx 2 (Ag (0+V7 (Tn.lit (wm l i lb))*2) (v8 dK (aa A)))) ([ah (Wz (wm (aa A) (V7 (Tn.lit (wm l i lb))) lb)),cK (Wg (wm (aa A) (V7 (Tn.lit (wm l i lb))) lb))]) (aI (k:=2) (i:=V7 (Tn.lit (wm l i lb))) (λ _=>rfl) wn om)<|.L 1 131 Gd [] (Ga) wr ([W6 [ah (Wz (wm (aa A) (V7 (Tn.lit (wm l i lb))) lb)),cK (Wg (wm (aa A) (V7 (Tn.lit (wm l i lb))) lb))]]) (by exact(qr trivial)) (.fn Q131 (@uN (wm (aa A) (V7 (Tn.lit (wm l i lb))) lb) (by(exact(gw _).1)) (by(exact(gw _).2))))<|.K 3 (Ga&&V9 (v0 (fy T1 T2 (aa A) (aa B) l i)*2) (v0 (v8 aC (fy T1 T2 (aa A) (aa B) l i)))&&Ga&&Ga&&Ga&&Ga&&Wf ((v0 (fy T1 T2 (aa A) (aa B) l i)+1)*16) 140737488355328) As<|.W 4 (i+1)<|.V 1 9 (Wb 192 192 0 (v0 (fy T1 T2 (aa A) (aa B) l i)+1) 2) (Wb 192 192 0 (v0 (fy T1 T2 (aa A) (aa B) l (i+1))) 2) (by(rw[C6 om om,Wc];rfl))<|.val 10 (zI (i+1)) (zN (i+1)) (by(refine aF ?_;(omega)))<|.blk 192 192 (V8 (v8 aC (fy T1 T2 (aa A) (aa B) l i)++[ah (dz (Wz (wm (aa A) (V7 (Tn.lit (wm l i lb))) lb)) (Wg (wm (aa A) (V7 (Tn.lit (wm l i lb))) lb))),zN (Wg (wm (aa A) (V7 (Tn.lit (wm l i lb))) lb))]) 169 Ga) (V8 (v8 aC (fy T1 T2 (aa A) (aa B) l (i+1))) 169 Ga) (by(refine aq ?_;rw[C6 om om,Xj];rfl))<|Aw ZB ⟨(i+1),om,⟨⟩⟩ (by show k-(i+1)<k-i;clear ZB ZD;omega) [(0,0),(8,8),(192,192)] ro) (λ p1=>have Z8:=ak p1;.K 3 (Ga&&Ao ((i:Int)<k)&&Ga) As<|.O 5 ((v8 aY l)[i*3+2]?) (zN (Tn.long (wm l i lb))) (cR (k:=3) (i:=i) (j:=2) (λ _=>rfl) om om rfl)<|.C 1 132 Gd [] (.fn NJ (@yF (T1) aG om om (Tn.long (wm l i lb)) wn))<|.K 16 (Ga&&Ao ((i:Int)<k)&&Ga) As<|.O 5 ((v8 aY l)[i*3+1]?) (zN (Tn.dist (wm l i lb))) (cR (k:=3) (i:=i) (j:=1) (λ _=>rfl) om om rfl)<|.C 1 133 Gd [] (.fn NK (@C3 (T2) aG om om (Tn.dist (wm l i lb)) wn))<|.K 18 (Ga&&Ao ((↑(257+ai T1 (Tn.long (wm l i lb))):Int)<(↑(v0 (aa A)):Int))) Lm<|.K 2 (Wf (0+(257+ai T1 (Tn.long (wm l i lb)))*2+2) (v0 (v8 dK (aa A)))) Ln<|.lst (wx 2 (Ag (0+(257+ai T1 (Tn.long (wm l i lb)))*2) (v8 dK (aa A)))) ([ah (Wz (wm (aa A) (257+ai T1 (Tn.long (wm l i lb))) lb)),cK (Wg (wm (aa A) (257+ai T1 (Tn.long (wm l i lb))) lb))]) (aI (k:=2) (i:=257+ai T1 (Tn.long (wm l i lb))) (λ _=>rfl) wn om)<|.L 1 131 Gd [] (Ga) wr ([W6 [ah (Wz (wm (aa A) (257+ai T1 (Tn.long (wm l i lb))) lb)),cK (Wg (wm (aa A) (257+ai T1 (Tn.long (wm l i lb))) lb))]]) (by exact(qr trivial)) (.fn Q131 (@uN (wm (aa A) (257+ai T1 (Tn.long (wm l i lb))) lb) (by(exact(gw _).1)) (by(exact(gw _).2))))<|.O 2 (au .u32 (↑(Tn.long (wm l i lb)-Sy.least (wm T1 (ai T1 (Tn.long (wm l i lb))) lb)):Int)) (ah (Tn.long (wm l i lb)-Sy.least (wm T1 (ai T1 (Tn.long (wm l i lb))) lb))) (ax wn)<|.K 6 (Ga&&Ao ((↑(ai T2 (Tn.dist (wm l i lb))):Int)<(↑(v0 (aa B)):Int))) Lm<|.K 2 (Wf (0+ai T2 (Tn.dist (wm l i lb))*2+2) (v0 (v8 dK (aa B)))) Ln<|.lst (wx 2 (Ag (0+ai T2 (Tn.dist (wm l i lb))*2) (v8 dK (aa B)))) ([ah (Wz (wm (aa B) (ai T2 (Tn.dist (wm l i lb))) lb)),cK (Wg (wm (aa B) (ai T2 (Tn.dist (wm l i lb))) lb))]) (aI (k:=2) (i:=ai T2 (Tn.dist (wm l i lb))) (λ _=>rfl) wn om)<|.L 1 131 Gd [] (Ga) wr ([W6 [ah (Wz (wm (aa B) (ai T2 (Tn.dist (wm l i lb))) lb)),cK (Wg (wm (aa B) (ai T2 (Tn.dist (wm l i lb))) lb))]]) (by exact(qr trivial)) (.fn Q131 (@uN (wm (aa B) (ai T2 (Tn.dist (wm l i lb))) lb) (by(exact(xh _).1)) (by(exact(xh _).2))))<|.O 2 (au .u32 (↑(Tn.dist (wm l i lb)-Sy.least (wm T2 (ai T2 (Tn.dist (wm l i lb))) lb)):Int)) (ah (Tn.dist (wm l i lb)-Sy.least (wm T2 (ai T2 (Tn.dist (wm l i lb))) lb))) (ax wn)<|.K 6 (Ga&&V9 (v0 (fy T1 T2 (aa A) (aa B) l i)*2) (v0 (v8 aC (fy T1 T2 (aa A) (aa B) l i)))&&Ga&&Ga&&Ga&&Ga&&Wf ((v0 (fy T1 T2 (aa A) (aa B) l i)+4)*16) 140737488355328) As<|.W 4 (i+1)<|.V 1 9 (Wb 504 504 0 (v0 (fy T1 T2 (aa A) (aa B) l i)+4) 2) (Wb 504 504 0 (v0 (fy T1 T2 (aa A) (aa B) l (i+1))) 2) (by(rw[C7 om om,Wc];rfl))<|.val 10 (zI (i+1)) (zN (i+1)) (by(refine aF ?_;(omega)))<|.blk 504 504 (V8 (v8 aC (fy T1 T2 (aa A) (aa B) l i)++[ah (dz (Wz (wm (aa A) (257+ai T1 (Tn.long (wm l i lb))) lb)) (Wg (wm (aa A) (257+ai T1 (Tn.long (wm l i lb))) lb))),zN (Wg (wm (aa A) (257+ai T1 (Tn.long (wm l i lb))) lb)),ah (Tn.long (wm l i lb)-Sy.least (wm T1 (ai T1 (Tn.long (wm l i lb))) lb)),zN (Sy.bits (wm T1 (ai T1 (Tn.long (wm l i lb))) lb)),ah (dz (Wz (wm (aa B) (ai T2 (Tn.dist (wm l i lb))) lb)) (Wg (wm (aa B) (ai T2 (Tn.dist (wm l i lb))) lb))),zN (Wg (wm (aa B) (ai T2 (Tn.dist (wm l i lb))) lb)),ah (Tn.dist (wm l i lb)-Sy.least (wm T2 (ai T2 (Tn.dist (wm l i lb))) lb)),zN (Sy.bits (wm T2 (ai T2 (Tn.dist (wm l i lb))) lb))]) 169 Ga) (V8 (v8 aC (fy T1 T2 (aa A) (aa B) l (i+1))) 169 Ga) (by(refine aq ?_;rw[C7 om om,Xj];rfl))<|Aw ZB ⟨(i+1),om,⟨⟩⟩ (by show k-(i+1)<k-i;clear ZB ZD;omega) [(0,0),(8,8),(504,504)] ro)) (λ p0 Z9=>.val 9 (Wb 16 16 0 (v0 (fy T1 T2 (aa A) (aa B) l i)) 2) (Wb 16 16 0 (v0 (fy T1 T2 (aa A) (aa B) l k)) 2) (by(rw[show i=k from by omega]))<|.blk 16 16 (V8 (v8 aC (fy T1 T2 (aa A) (aa B) l i)) 169 Ga) (V8 (v8 aC (fy T1 T2 (aa A) (aa B) l k)) 169 Ga) (by(rw[show i=k from by omega]))<|BO ZD 0 (():Unit) rfl [(0,0),(8,8),(16,16)] ro)) (fun|⟨i,hi,_⟩=>by kernel_rfl) ⟨(0),om,⟨⟩⟩ [(16,16),(40,40),(72,72)] ro (bB (fun|()=>.K 3 (Ga&&Ao (256<(↑(v0 (aa A)):Int))) (by(refine decide_eq_true ?_;(omega)))<|.K 2 (Wf 514 (v0 (v8 dK (aa A)))) (by(rw[sg,hmA];refine We ?_;omega))<|.lst (wx 2 (Ag 512 (v8 dK (aa A)))) ([ah (Wz (wm (aa A) 256 lb)),cK (Wg (wm (aa A) 256 lb))]) (aI (k:=2) (i:=256) (λ _=>rfl) om om)<|.L 1 131 Gd [] (Ga) wr ([W6 [ah (Wz (wm (aa A) 256 lb)),cK (Wg (wm (aa A) 256 lb))]]) (by exact(qr trivial)) (.fn Q131 (@uN (wm (aa A) 256 lb) (by(exact(gw _).1)) (by(exact(gw _).2))))<|.K 3 (Ga&&V9 (v0 (fy T1 T2 (aa A) (aa B) l k)*2) (v0 (v8 aC (fy T1 T2 (aa A) (aa B) l k)))&&Ga&&Ga&&Ga&&Ga&&Wf ((v0 (fy T1 T2 (aa A) (aa B) l k)+1)*16) 140737488355328) (by(have h7:=jb (T1:=T1) (T2:=T2) (A:=aa A) (B:=aa B) (l:=l) k om;simp only[yG,Xk,WM,WV,Wh,Yh,XM];omega))<|.U 1 [72] [72] (Wb 0 0 0 (v0 (fy T1 T2 (aa A) (aa B) l k)+1) 2) [V8 (v8 aC (fy T1 T2 (aa A) (aa B) l k)++[ah (dz (Wz (wm (aa A) 256 lb)) (Wg (wm (aa A) 256 lb))),zN (Wg (wm (aa A) 256 lb))]) 169 Ga] R (ok _ _ (by(rw[Wc];rfl)) (by(rw[Xj];rfl)))))) kr
end Vp
end Go.Proofs.YtefjnofhgkjpmaaGreat

/- Part 11. -/
import Derived.Test.YtefjnofhgkjpmaaTm6
import Derived.Test.YtefjnofhgkjpmaaTm5
import Derived.Test.YtefjnofhgkjpmaaTm7
import Derived.Test.YtefjnofhgkjpmaaTm10
set_option linter.unusedVariables false
set_option linter.unusedSimpArgs false
set_option maxRecDepth 100000
set_option maxHeartbeats 4000000
open And renaming intro → Ut
open Bool renaming eq_iff_iff → XH, true_and → Ub
open Go.IntKind renaming i64 → Uf, wrap → TM
open Go.Vx.Blk renaming mk → Tq
open Go.Vx.CallOk renaming fn → TW
open Go.Vx.CutS renaming mk → TJ
open Go.Vx.D renaming agg → UA, ptr → TF, ref → Tu, sl → TL, tup → Uw
open Inhabited renaming default → mb
open Int renaming eq_ofNat_of_zero_le → UI, tdiv → Xl, toNat → zK, toNat_natCast → Vf
open List renaming drop → UQ, drop_zero → U4, ext_getElem? → Uu, getD → X5, getD_eq_getElem?_getD → To, getElem?_append_left → TQ, getElem?_append_right → TO, getElem?_eq_getElem → Ts, getElem?_eq_none → TY, getElem?_map → TN, getElem?_set → U3, length_append → Tt, length_map → TH, length_replicate → T4, length_set → VG, length_singleton → Ud, mem_of_getElem? → UB, replicate → TK, take → UP, take_of_length_le → T9
open Nat renaming beq → Tx, ble → Tz, ble_eq_true_of_le → Tv, le_add_right → V4, le_of_eq → XD, le_refl → TD, le_trans → T6, lt_or_ge → T5, lt_succ_of_lt → Yk, lt_succ_self → WR, lt_trichotomy → VR, mod_eq_of_lt → UZ, mul_one → TZ, pow_le_pow_right → TX, sub_self → UJ, two_pow_pos → UY, zero_add → T0, zero_le → T7
open Prod renaming fst → Ty, snd → Tm
open UInt8 renaming ofNat → Um, toNat → Tp, toNat_ofNat' → U6
namespace Go.Proofs.Ytefjnofhgkjpmaa
open Go.RowKit Go.Bw Go.Vx
open List (length getD map take drop flatMap replicate)
namespace Vp
structure Rs where
 p:Nat
 e:Nat
def fl (s:Rs)(c:Bool)(x:Nat):Rs:=if s.e=0∧c=false then⟨s.p,x⟩else s
def bp (b:List UInt8)(m:Nat)(s:Rs):Rs:=lk b (if s.e=0 then⟨s.p+m,kJ b s.p m⟩else s)
def aV (b:List UInt8)(m:Nat)(s:Rs):Nat:=lk b (if s.e=0 then gA b s.p m else 0)
def aR (b l:List UInt8)(s:Rs):Rs:=lk b (if s.e=0 then⟨(ee b l s.p).2.1,(ee b l s.p).2.2⟩else s)
def aH (b l:List UInt8)(s:Rs):Nat:=lk b (if s.e=0 then(ee b l s.p).1 else 0)
theorem IP {s:Rs}{c:Bool}{x:Nat}(h:s.e≠0):fl s c x=s:=if_neg fun q=>h q.1
theorem gF {s:Rs}{x:Nat}:fl s true x=s:=if_neg fun q=>by cases q.2
theorem IQ {s:Rs}{x:Nat}(h:s.e=0):fl s false x=⟨s.p,x⟩:=if_pos ⟨h,rfl⟩
theorem vI (s:Rs)(c:Bool)(x:Nat):(fl s c x).p=s.p:=by unfold fl;split<;>rfl
theorem vJ {s:Rs}{c:Bool}{x:Nat}(hx:x≠0)(h:(fl s c x).e=0):s.e=0∧c=true∧fl s c x=s:=by
 unfold fl at *
 split at h
 ·exact absurd h hx
 ·next q=>
  refine⟨h,?_,if_neg q⟩
  cases c
  ·exact absurd ⟨h,rfl⟩ q
  ·rfl
theorem pQ {b:List UInt8}{m:Nat}{s:Rs}(h:s.e≠0):bp b m s=s:=(aw _ _).trans (if_neg h)
theorem n6 {b:List UInt8}{m:Nat}{s:Rs}(h:s.e=0):bp b m s=⟨s.p+m,kJ b s.p m⟩:=(aw _ _).trans (if_pos h)
theorem Gc {b:List UInt8}{m:Nat}{s:Rs}(h:s.e≠0):aV b m s=0:=(aw _ _).trans (if_neg h)
theorem AK {b:List UInt8}{m:Nat}{s:Rs}(h:s.e=0):aV b m s=gA b s.p m:=(aw _ _).trans (if_pos h)
theorem mN {b l:List UInt8}{s:Rs}(h:s.e≠0):aR b l s=s:=(aw _ _).trans (if_neg h)
theorem mO {b l:List UInt8}{s:Rs}(h:s.e=0):aR b l s=⟨(ee b l s.p).2.1,(ee b l s.p).2.2⟩:=(aw _ _).trans (if_pos h)
theorem tM {b l:List UInt8}{s:Rs}(h:s.e≠0):aH b l s=0:=(aw _ _).trans (if_neg h)
theorem pR {b l:List UInt8}{s:Rs}(h:s.e=0):aH b l s=(ee b l s.p).1:=(aw _ _).trans (if_pos h)
theorem bH (b:List UInt8)(m:Nat)(s:Rs):aV b m s<2^m:=by
 by_cases h:s.e=0
 ·rw[AK h];exact wz _ _ _
 ·rw[Gc h];exact UY m
def ba (n:Nat)(s:Rs):Prop:=s.e=0→s.p≤8*n
theorem ba.fl {n:Nat}{s:Rs}(h:ba n s)(c:Bool)(x:Nat):ba n (fl s c x):=fun q=>by
 rw[vI];refine h ?_
 unfold Vp.fl at q;split at q
 ·next y=>exact y.1
 ·exact q
theorem AL {b:List UInt8}{p m:Nat}(h:kJ b p m=0):p+m≤8*b.length:=by
 rcases T5 (8*b.length) (p+m)with q|q
 ·rw[Hu q]at h;cases h
 ·exact q
theorem ba.tk {b:List UInt8}{s:Rs}(h:ba b.length s)(m:Nat):ba b.length (bp b m s):=fun q=>by
 by_cases h0:s.e=0
 ·rw[n6 h0]at q ⊢;exact AL q
 ·rw[pQ h0]at q;exact absurd q h0
theorem AM {b l:List UInt8}:∀(k a d p:Nat),(mr b l k a d p).2.2=0→p<(mr b l k a d p).2.1∧(mr b l k a d p).2.1≤8*b.length
 |0,_,_,_,h=>by cases h
 |k+1,a,d,p,h=>by
  rw[mr]at h ⊢
  split
  ·next q=>rw[if_pos q]at h;cases h
  ·next q=>
   rw[if_neg q]at h
   split
   ·next q2=>rw[if_pos q2]at h;cases h
   ·next q2=>
    rw[if_neg q2]at h
    have hp:=AL (b:=b) (p:=p) (m:=1) (by omega)
    split
    ·exact⟨by show p<p+1;omega,by show p+1≤_;omega⟩
    ·next q3=>
     rw[if_neg q3]at h
     have:=AM k _ _ _ h
     omega
theorem vK {b l:List UInt8}{p:Nat}(h:(ee b l p).2.2=0):p<(ee b l p).2.1∧(ee b l p).2.1≤8*b.length:=by
 rw[mv]at *;exact AM _ _ _ _ h
theorem ba.sy {b:List UInt8}{s:Rs}(h:ba b.length s)(l:List UInt8):ba b.length (aR b l s):=fun q=>by
 by_cases h0:s.e=0
 ·rw[mO h0]at q ⊢;exact(vK q).2
 ·rw[mN h0]at q;exact absurd q h0
theorem AN {b l:List UInt8}:∀(k a d p:Nat),(mr b l k a d p).1<l.length∨(mr b l k a d p).1=0
 |0,_,_,_=>.inr rfl
 |k+1,a,d,p=>by
  rw[mr]
  split
  ·exact .inr rfl
  ·split
   ·exact .inr rfl
   ·split
    ·show X5 _ _ _<_∨X5 _ _ _=0
     rw[To]
     cases h:(ab l)[(aI l a).length+aa l a+(2*(d-aa l a)+gA b p 1)]? with
     |none=>exact .inr rfl
     |some x=>exact .inl (CA x (UB h))
    ·exact AN k _ _ _
theorem AO (b l:List UInt8)(s:Rs):aH b l s<l.length∨aH b l s=0:=by
 by_cases h:s.e=0
 ·rw[pR h,mv];exact AN _ _ _ _
 ·rw[tM h];exact .inr rfl
theorem QC {b:List UInt8}{p m:Nat}(h:m≤32):D.v (.int .i64 (IntKind.i64.wrap ((gA b p m:Nat):Int)))=nD (gA b p m):=by
 have h1:=wz b p m
 have h2:2^m≤2^32:=TX (by decide) h
 rw[Om (by omega)]
theorem DT {s:Rs}{e:Nat}(h:s.e=0):(fl s (((e:Nat):Int)==0) e).e=e∧(fl s (((e:Nat):Int)==0) e).p=s.p:=by
 refine⟨?_,vI _ _ _⟩
 by_cases h0:e=0
 ·subst h0;show(fl s true 0).e=0;rw[gF];exact h
 ·rw[show((((e:Nat):Int)==0))=false from by simp;omega,IQ h]
theorem QD {b:List UInt8}{n:Nat}{s:Rs}{k:Nat}{t:TypeId}(hN:n≤1000000)(ho:s.e=0→s.p≤8*n)(h:s.e=0)(hk:k≤32):[(⟨[TL false n 1 (b.map dB),D.v (.int .i64 (IntKind.i64.wrap (((fl s (((kJ b s.p k:Nat):Int)==0) (kJ b s.p k)).p:Nat)+(k:Int)))),D.v (.int .i64 (((fl s (((kJ b s.p k:Nat):Int)==0) (kJ b s.p k)).e:Nat):Int))],t,false⟩:Blk)]=[⟨[TL false n 1 (b.map dB),nD (Rs.mk (s.p+k) (kJ b s.p k)).p,nD (Rs.mk (s.p+k) (kJ b s.p k)).e],t,false⟩]:=by
 have:=ho h
 rw[(DT h).1,(DT h).2,Om (by omega)];rfl
theorem QE {b l:List UInt8}{n:Nat}{s:Rs}{t:TypeId}(h:s.e=0):[(⟨[TL false n 1 (b.map dB),D.v (.int .i64 (((ee b l s.p).2.1:Nat):Int)),D.v (.int .i64 (((fl s ((((ee b l s.p).2.2:Nat):Int)==0) (ee b l s.p).2.2).e:Nat):Int))],t,false⟩:Blk)]=[⟨[TL false n 1 (b.map dB),nD (Rs.mk (ee b l s.p).2.1 (ee b l s.p).2.2).p,nD (Rs.mk (ee b l s.p).2.1 (ee b l s.p).2.2).e],t,false⟩]:=by
 rw[(DT h).1]
theorem bV (b:List UInt8)(n:Nat)(hn:n=b.length)(hN:n≤1000000)(s:Rs)(c:Bool)(x:Int)(hx:0≤x):S1 54 [.ptr 0 0 0,bD c,iD x] [⟨[.sl false n 1 (b.map dB),nD (s).p,nD (s).e], 88,false⟩] (.tup []) [⟨[.sl false n 1 (b.map dB),nD (fl s c x.toNat).p,nD (fl s c x.toNat).e], 88,false⟩]:=by
 obtain⟨k,rfl⟩:=UI hx
 simp only[Vf]
 refine SpecH.run T_ok ai Try.func54 rfl rfl rfl ⟨rfl,trivial⟩ rfl 1000 64 (fun R ok=>(.s 12 (.br ((↑(Rs.e s):Int)==0) (fun p0=>have p0f:=eq_of_beq p0;(.s 3 (.br (!c) (fun p1=>have p1f:=(eZ p1);(.s 9 (.out [0] [0] (Uw []) [Tq [TL false n 1 (map dB b),zN (Rs.p s),zN k] 88 false] R (ok _ _ wr (by(unfold fl;simp_all<;>omega)))))) (fun p1=>have p1f:=(e9 p1);(.out [0] [0] (Uw []) [Tq [TL false n 1 (map dB b),zN (Rs.p s),zN (Rs.e s)] 88 false] R (ok _ _ wr (by(unfold fl;simp_all<;>omega)))))))) (fun p0=>have p0f:=am p0;(.s 4 (.out [0] [0] (Uw []) [Tq [TL false n 1 (map dB b),zN (Rs.p s),zN (Rs.e s)] 88 false] R (ok _ _ wr (by(cases c<;>first|rw[gF]|rw[IP om]|rw[IQ om]))))))))) kr
theorem eD (b:List UInt8)(n:Nat)(hn:n=b.length)(hN:n≤1000000)(s:Rs)(hs:ba n s)(m:Int)(hm:0≤m∧m≤32):S1 53 [.ptr 0 0 0,iD m] [⟨[.sl false n 1 (b.map dB),nD (s).p,nD (s).e], 88,false⟩] (nD (aV b m.toNat s)) [⟨[.sl false n 1 (b.map dB),nD (bp b m.toNat s).p,nD (bp b m.toNat s).e], 88,false⟩]:=by
 obtain⟨k,rfl⟩:=UI hm.1
 simp only[Vf]
 have ho:s.e=0→s.p≤8*n:=hs
 refine SpecH.run T_ok ai Try.func53 rfl rfl rfl ⟨rfl,trivial⟩ rfl 1000 64 (fun R ok=>(.s 11 (.br ((↑(Rs.e s):Int) !=0) (fun p0=>have p0f:=bE p0;(.s 1 (.out [0] [0] (zI 0) [Tq [TL false n 1 (map dB b),zN (Rs.p s),zN (Rs.e s)] 88 false] R (ok _ _ (by(rw[Gc om];rfl)) (by(rw[pQ om])))))) (fun p0=>have p0f:=bF p0;(.s 19 (.cl 84 false [] (.fn SS (@Cp (b) (n) om om ((↑(Rs.p s):Int)) ((k:Int)) om om)) (.s 13 (.cl 54 true [0] (.fn i5 (@bV (b) (n) om om (s) ((↑(kJ b (Rs.p s) k):Int)==0) ((↑(kJ b (Rs.p s) k):Int)) om)) (.s 11 (.opt (ar .i64 ((↑(Rs.p (fl s ((↑(kJ b (Rs.p s) k):Int)==0) (kJ b (Rs.p s) k))):Int)+(k:Int))) (zI (TM Uf ((↑(Rs.p (fl s ((↑(kJ b (Rs.p s) k):Int)==0) (kJ b (Rs.p s) k))):Int)+(k:Int)))) (aL _ _) (.s 9 (.opt (ar .i64 (↑(gA b (Rs.p s) k):Int)) (zI (TM Uf (↑(gA b (Rs.p s) k):Int))) (aL _ _) (.s 1 (.out [0] [0] (zI (TM Uf (↑(gA b (Rs.p s) k):Int))) [Tq [TL false n 1 (map dB b),zI (TM Uf ((↑(Rs.p (fl s ((↑(kJ b (Rs.p s) k):Int)==0) (kJ b (Rs.p s) k))):Int)+(k:Int))),zN (Rs.e (fl s ((↑(kJ b (Rs.p s) k):Int)==0) (kJ b (Rs.p s) k)))] 88 false] R (ok _ _ (by(rw[AK om];exact QC om)) (by(rw[n6 om];exact QD hN ho om om))))))))))))))))) kr
theorem Gd (b:List UInt8)(n:Nat)(hn:n=b.length)(hN:n≤1000000)(s:Rs)(hs:ba n s)(l:List UInt8)(hT:aC l 15=0)(q:Nat)(hq:q=(ab l).length):S1 59 [.ptr 0 0 0,oY q l] [⟨[.sl false n 1 (b.map dB),nD (s).p,nD (s).e], 88,false⟩] (nD (aH b l s)) [⟨[.sl false n 1 (b.map dB),nD (aR b l s).p,nD (aR b l s).e], 88,false⟩]:=by
 have ho:s.e=0→s.p≤8*n:=hs
 refine SpecH.run T_ok ai Try.func59 rfl rfl rfl ⟨rfl,trivial⟩ rfl 1000 64 (fun R ok=>(.s 13 (.br ((↑(Rs.e s):Int) !=0) (fun p0=>have p0f:=bE p0;(.s 1 (.out [0] [0] (zI 0) [Tq [TL false n 1 (map dB b),zN (Rs.p s),zN (Rs.e s)] 88 false] R (ok _ _ (by(rw[tM om];rfl)) (by(rw[mN om])))))) (fun p0=>have p0f:=bF p0;(.s 22 (.call 88 false [] (true) wr ([UA [zN (aa l 0),zN (aa l 1),zN (aa l 2),zN (aa l 3),zN (aa l 4),zN (aa l 5),zN (aa l 6),zN (aa l 7),zN (aa l 8),zN (aa l 9),zN (aa l 10),zN (aa l 11),zN (aa l 12),zN (aa l 13),zN (aa l 14),zN (aa l 15),TL false q 1 (map nD (ab l))],TL false n 1 (map dB b),zN (Rs.p s)]) _ (by exact(qr (qr (qr trivial)))) (true) wr _ _ _ (TW (az.of Try.func88 rfl rfl) (@CE (l) (15) om aD (q) om (b) (n) om om (Rs.p s) om)) (.s 16 (.cl 54 true [0] (.fn i5 (@bV (b) (n) om om (s) ((↑(Tm (Tm (ee b l (Rs.p s)))):Int)==0) ((↑(Tm (Tm (ee b l (Rs.p s)))):Int)) om)) (.s 11 (.out [0] [0] (zN (Ty (ee b l (Rs.p s)))) [Tq [TL false n 1 (map dB b),zN (Ty (Tm (ee b l (Rs.p s)))),zN (Rs.e (fl s ((↑(Tm (Tm (ee b l (Rs.p s)))):Int)==0) (Tm (Tm (ee b l (Rs.p s))))))] 88 false] R (ok _ _ (by(rw[pR om])) (by(rw[mO om];exact QE om))))))))))))) kr
def eu (j:Nat)(d d':D):Prop:=∀(E:Env) (w:World) (u:Value),E.nm j→E.φ j=none→RD E w d u→RD E w d' u
def dR (j:Nat):List D→List D→Prop
 |[],[]=>True
 |a::r,b::q=>eu j a b∧dR j r q
 |_,_=>False
theorem eu.refl (j:Nat)(d:D):eu j d d:=fun _ _ _ _ _ h=>h
theorem eu.nil (j sz:Nat):eu j dT (.ref j j 0 0 sz):=fun E w u h1 h2 h=>by cases h;exact .refn j j sz h1 h2
theorem dR.refl (j:Nat):∀l:List D,dR j l l
 |[]=>trivial
 |d::r=>⟨eu.refl j d,dR.refl j r⟩
theorem dR.app {j:Nat}{c d:List D}:∀{a b:List D},dR j a b→dR j c d→dR j (a++c) (b++d)
 |[],[],_,h=>h
 |_::_,_::_,h1,h2=>⟨h1.1,dR.app h1.2 h2⟩
 |[],_::_,h1,_=>h1.elim
 |_::_,[],h1,_=>h1.elim
theorem dR.get {j:Nat}:∀{l l':List D},dR j l l'→l.length=l'.length∧∀(i:Nat) d',l'[i]? =some d'→∃d,l[i]? =some d∧eu j d d'
 |[],[],_=>⟨rfl,fun i d' h=>by simp at h⟩
 |a::r,b::q,h=>by
  obtain⟨h1,h2⟩:=dR.get h.2
  refine⟨by simp[h1],fun i d' hi=>?_⟩
  cases i with
  |zero=>cases hi;exact⟨a,rfl,h.1⟩
  |succ i=>exact h2 i d' (by simpa using hi)
 |[],_::_,h=>h.elim
 |_::_,[],h=>h.elim
theorem eu.agg {j:Nat}{l l':List D}(h:dR j l l'):eu j (.agg l) (.agg l'):=fun E w u a b hr=>by
 obtain⟨e,g⟩:=h.get
 cases hr with
 |agg _ us hl hd h1=>exact .agg _ us (by rw[hl,e]) (fun i d' v hd' hv=>by
   obtain⟨d,q1,q2⟩:=g i d' hd'
   exact q2 E w v a b (hd i d v q1 hv)) h1
theorem eu.tup {j:Nat}{l l':List D}(h:dR j l l'):eu j (.tup l) (.tup l'):=fun E w u a b hr=>by
 obtain⟨e,g⟩:=h.get
 cases hr with
 |tup _ us hl hd=>exact .tup _ us (by rw[hl,e]) (fun i d' v hd' hv=>by
   obtain⟨d,q1,q2⟩:=g i d' hd'
   exact q2 E w v a b (hd i d v q1 hv))
theorem SpecH.nilA {al:Bool}{P:Program}{f:FuncId}{ds:List D}{hin:List Blk}{r r':D}{bs:List Blk}(h:SpecH al P f ds hin r bs)(t:TypeId)(hr:eu bs.length r r'):SpecH al P f ds hin r' (bs++[⟨[],t,true⟩]):=by
 refine⟨by rw[Tt];exact T6 h.1 (V4 _ _),fun O φ w args hO hh hi hl ha=>(h.2 O φ w args hO hh hi hl ha).mono ?_⟩
 rintro e w' ⟨u,rfl,hf,ψ,g1,g2,g3,g4,g5⟩
 refine⟨u,rfl,hf,fun k=>if k=bs.length then none else ψ k,fun k hk=>?_,?_,fun k b hb=>?_,fun i k x h1 h2 hne e1=>?_,fun k x h1 h2 e1=>?_⟩
 ·have:=h.1
  show(if k=bs.length then none else ψ k)=_
  rw[if_neg (by omega)];exact g1 k hk
 all_goals try(rw[Tt,Ud]at *)
 ·have hst:Stp (eW (jh al O w) ψ bs.length) (eW (jh al O w) (fun k=>if k=bs.length then none else ψ k) (bs.length+1)) w' w':=by
   refine⟨fun g hg=>Yk hg,fun g hg=>?_,TD _,fun b _ hb=>⟨fun hq=>hb ?_,rfl⟩,fun _ _=>rfl⟩
   ·have hg:g<bs.length:=hg
    show(if g=bs.length then none else ψ g)=ψ g
    rw[if_neg (by omega)]
   ·rcases hq with hq|⟨k,hk,hq⟩
    ·exact .inl hq
    ·have hq:(if k=bs.length then none else ψ k)=some b:=hq
     split at hq
     ·cases hq
     ·next z=>exact .inr ⟨k,by omega,hq⟩
  exact hr _ _ _ (WR _) (if_pos rfl) (g2.step hst)
 ·have hst:Stp (eW (jh al O w) ψ bs.length) (eW (jh al O w) (fun k=>if k=bs.length then none else ψ k) (bs.length+1)) w' w':=by
   refine⟨fun g hg=>Yk hg,fun g hg=>?_,TD _,fun b _ hb=>⟨fun hq=>hb ?_,rfl⟩,fun _ _=>rfl⟩
   ·have hg:g<bs.length:=hg
    show(if g=bs.length then none else ψ g)=ψ g
    rw[if_neg (by omega)]
   ·rcases hq with hq|⟨k,hk,hq⟩
    ·exact .inl hq
    ·have hq:(if k=bs.length then none else ψ k)=some b:=hq
     split at hq
     ·cases hq
     ·next z=>exact .inr ⟨k,by omega,hq⟩
  rcases VR k bs.length with q|q|q
  ·rw[TQ q]at hb
   obtain⟨y1,y2⟩:=g3 k b hb
   refine⟨?_,y2⟩
   exact OB.step (o:=.b b) y1 hst fun x hx=>⟨.inr ⟨k,by omega,by show(if k=bs.length then none else ψ k)=some x;rw[if_neg (by omega)];exact hx⟩,rfl⟩
  ·rw[q,TO (TD _),UJ]at hb
   cases hb
   refine⟨⟨by show k<bs.length+1;omega,?_⟩,fun _=>rfl⟩
   show(match(if k=bs.length then none else ψ k)with|none=>_|some b=>_)
   rw[if_pos q]
   exact⟨rfl,rfl⟩
  ·rw[TY (by rw[Tt,Ud];omega)]at hb;cases hb
 ·have e1:(if i=bs.length then none else ψ i)=some x:=e1
  show(if k=bs.length then none else ψ k)≠some x
  split at e1
  ·cases e1
  ·next z=>
   split
   ·exact fun q=>by cases q
   ·next z2=>exact g4 i k x (by omega) (by omega) hne e1
 ·have e1:(if k=bs.length then none else ψ k)=some x:=e1
  split at e1
  ·cases e1
  ·next z=>exact g5 k x h1 (by omega) e1
def gP (far:Bool)(sy:Nat):Nat:=match far with
 |false=>Am au 257 sy
 |true=>Am aA 0 sy
def cS (far:Bool)(sy:Nat):Nat:=match far with
 |false=>ta au 257 sy
 |true=>ta aA 0 sy
def Ge (far:Bool)(sy x:Nat):Nat:=match far with
 |false=>An au 257 sy x
 |true=>An aA 0 sy x
def pB (far:Bool)(sy x:Nat):Nat:=match far with
 |false=>vw au 257 sy x
 |true=>vw aA 0 sy x
theorem vL (far:Bool)(sy:Nat):gP far sy≤13:=by
 cases far
 ·show Am _ _ _≤13;unfold Am;split;exact(cb _).1;exact T7 _
 ·show Am _ _ _≤13;unfold Am;split;exact(cv _).1;exact T7 _
theorem AP {T:List Sy}(h:bW T)(f:Int)(s x:Nat)(hx:x≤100000):An T f s x≤200000:=by
 unfold An;split
 ·have:=(h ((s:Int)-f).toNat).2.1;omega
 ·exact T7 _
theorem IR (far:Bool)(sy x:Nat)(hx:x≤100000):Ge far sy x≤200000:=by
 cases far
 ·exact AP cb _ _ _ hx
 ·exact AP cv _ _ _ hx
def IS (far:Bool)(sy:Nat)(s:Rs):Rs:=fl s (((cS far sy:Nat):Int)==0) (cS far sy)
def xa (b:List UInt8)(far:Bool)(sy:Nat)(s:Rs):Nat:=aV b (gP far sy) (IS far sy s)
def vM (b:List UInt8)(far:Bool)(sy:Nat)(s:Rs):Rs:=bp b (gP far sy) (IS far sy s)
def gQ (b:List UInt8)(far:Bool)(sy:Nat)(s:Rs):Rs:=lk b (if s.e≠0 then s else if(vM b far sy s).e≠0 then vM b far sy s else fl (vM b far sy s) (((pB far sy (xa b far sy s):Nat):Int)==0) (pB far sy (xa b far sy s)))
def tN (b:List UInt8)(far:Bool)(sy:Nat)(s:Rs):Nat:=lk b (if s.e≠0 then 0 else if(vM b far sy s).e≠0 then 0 else Ge far sy (xa b far sy s))
theorem n7 {b:List UInt8}{far:Bool}{sy:Nat}{s:Rs}(h:s.e≠0):gQ b far sy s=s∧tN b far sy s=0:=⟨(aw _ _).trans (if_pos h),(aw _ _).trans (if_pos h)⟩
theorem n8 {b:List UInt8}{far:Bool}{sy:Nat}{s:Rs}(h:s.e=0)(h2:(vM b far sy s).e≠0):gQ b far sy s=vM b far sy s∧tN b far sy s=0:=⟨(aw _ _).trans ((if_neg (by omega)).trans (if_pos h2)),(aw _ _).trans ((if_neg (by omega)).trans (if_pos h2))⟩
theorem kQ {b:List UInt8}{far:Bool}{sy:Nat}{s:Rs}(h:s.e=0)(h2:(vM b far sy s).e=0):gQ b far sy s=fl (vM b far sy s) (((pB far sy (xa b far sy s):Nat):Int)==0) (pB far sy (xa b far sy s))∧tN b far sy s=Ge far sy (xa b far sy s):=⟨(aw _ _).trans ((if_neg (by omega)).trans (if_neg (by omega))),(aw _ _).trans ((if_neg (by omega)).trans (if_neg (by omega)))⟩
theorem vN (b:List UInt8)(far:Bool)(sy:Nat)(s:Rs):xa b far sy s≤100000:=by
 have h1:=bH b (gP far sy) (IS far sy s)
 have h2:2^gP far sy≤2^13:=TX (by decide) (vL far sy)
 unfold xa;omega
theorem AQ (b:List UInt8)(far:Bool)(sy:Nat)(s:Rs):tN b far sy s≤200000:=by
 unfold tN;rw[aw];split
 ·exact T7 _
 ·split
  ·exact T7 _
  ·exact IR _ _ _ (vN _ _ _ _)
theorem ba.nb {b:List UInt8}{s:Rs}(h:ba b.length s)(far:Bool)(sy:Nat):ba b.length (gQ b far sy s):=by
 by_cases h0:s.e=0
 ·by_cases h1:(vM b far sy s).e=0
  ·rw[(kQ h0 h1).1];exact((h.fl _ _).tk _).fl _ _
  ·rw[(n8 h0 h1).1];exact(h.fl _ _).tk _
 ·rw[(n7 h0).1];exact h
theorem vO (s:Nat)(hs:s≤1000000):S0 61 [nD s] [] (.tup [nD (gP false s),nD (cS false s)]) []:=wE au rfl rfl cb s hs
theorem AR (s:Nat)(hs:s≤1000000)(x:Nat)(hx:x≤1000000):S0 62 [nD s,nD x] [] (.tup [nD (Ge false s x),nD (pB false s x)]) []:=Cl au rfl rfl cb s hs x hx
theorem tO (b:List UInt8)(n:Nat)(hn:n=b.length)(hN:n≤1000000)(s:Rs)(hs:ba n s)(y:Nat)(hy:y≤1000000):S1 60 [.ptr 0 0 0,nD y,.fn (.func 61) [] [],.fn (.func 62) [] []] [⟨[.sl false n 1 (b.map dB),nD (s).p,nD (s).e], 88,false⟩] (nD (tN b false y s)) [⟨[.sl false n 1 (b.map dB),nD (gQ b false y s).p,nD (gQ b false y s).e], 88,false⟩]:=by
 have ho:s.e=0→s.p≤8*n:=hs
 have hb:=vL false y
 have hx:=vN b false y s
 have hA:IS false y s=fl s (((cS false y:Nat):Int)==0) (cS false y):=rfl
 have hX:aV b (gP false y) (fl s (((cS false y:Nat):Int)==0) (cS false y))=xa b false y s:=rfl
 have hT:bp b (gP false y) (fl s (((cS false y:Nat):Int)==0) (cS false y))=vM b false y s:=rfl
 refine SpecH.run T_ok ai Try.func60 rfl rfl rfl ⟨rfl,trivial⟩ rfl 1000 64 (fun R ok=>(.s 11 (.br ((↑(Rs.e s):Int) !=0) (fun p0=>have p0f:=bE p0;(.s 1 (.out [0] [0] (zI 0) [Tq [TL false n 1 (map dB b),zN (Rs.p s),zN (Rs.e s)] 88 false] R (ok _ _ (by(rw[(n7 om).2];rfl)) (by(rw[(n7 om).1])))))) (fun p0=>have p0f:=bF p0;(.s 3 (.cl 61 false [] (.fn Te (@vO (y) om)) (.s 13 (.cl 54 true [0] (.fn i5 (@bV (b) (n) om om (s) ((↑(cS false y):Int)==0) ((↑(cS false y):Int)) om)) (.s 3 (.cl 53 true [0] (.fn mh (@eD (b) (n) om om (fl s ((↑(cS false y):Int)==0) (cS false y)) (by(exact ba.fl hs _ _)) ((↑(gP false y):Int)) om)) (.s 11 (.br ((↑(Rs.e (bp b (gP false y) (fl s ((↑(cS false y):Int)==0) (cS false y)))):Int) !=0) (fun p1=>have p1f:=bE p1;(.s 1 (.out [0] [0] (zI 0) [Tq [TL false n 1 (map dB b),zN (Rs.p (bp b (gP false y) (fl s ((↑(cS false y):Int)==0) (cS false y)))),zN (Rs.e (bp b (gP false y) (fl s ((↑(cS false y):Int)==0) (cS false y))))] 88 false] R (ok _ _ (by(rw[(n8 (b:=b) (far:=false) (sy:=y) (s:=s) om (by first|assumption|(rw[←hT];omega))).2];rfl)) (by(rw[(n8 (b:=b) (far:=false) (sy:=y) (s:=s) om (by first|assumption|(rw[←hT];omega))).1];rfl)))))) (fun p1=>have p1f:=bF p1;(.s 4 (.cl 62 false [] (.fn Tf (@AR (y) om (aV b (gP false y) (fl s ((↑(cS false y):Int)==0) (cS false y))) om)) (.s 13 (.cl 54 true [0] (.fn i5 (@bV (b) (n) om om (bp b (gP false y) (fl s ((↑(cS false y):Int)==0) (cS false y))) ((↑(pB false y (aV b (gP false y) (fl s ((↑(cS false y):Int)==0) (cS false y)))):Int)==0) ((↑(pB false y (aV b (gP false y) (fl s ((↑(cS false y):Int)==0) (cS false y)))):Int)) om)) (.s 2 (.out [0] [0] (zN (Ge false y (aV b (gP false y) (fl s ((↑(cS false y):Int)==0) (cS false y))))) [Tq [TL false n 1 (map dB b),zN (Rs.p (fl (bp b (gP false y) (fl s ((↑(cS false y):Int)==0) (cS false y))) ((↑(pB false y (aV b (gP false y) (fl s ((↑(cS false y):Int)==0) (cS false y)))):Int)==0) (pB false y (aV b (gP false y) (fl s ((↑(cS false y):Int)==0) (cS false y)))))),zN (Rs.e (fl (bp b (gP false y) (fl s ((↑(cS false y):Int)==0) (cS false y))) ((↑(pB false y (aV b (gP false y) (fl s ((↑(cS false y):Int)==0) (cS false y)))):Int)==0) (pB false y (aV b (gP false y) (fl s ((↑(cS false y):Int)==0) (cS false y))))))] 88 false] R (ok _ _ (by(rw[(kQ (b:=b) (far:=false) (sy:=y) (s:=s) om (by first|assumption|(rw[←hT];omega))).2];rfl)) (by(rw[(kQ (b:=b) (far:=false) (sy:=y) (s:=s) om (by first|assumption|(rw[←hT];omega))).1];rfl)))))))))))))))))))))) kr
theorem zh (s:Nat)(hs:s≤1000000):S0 63 [nD s] [] (.tup [nD (gP true s),nD (cS true s)]) []:=zY aA rfl rfl cv s hs
theorem DU (s:Nat)(hs:s≤1000000)(x:Nat)(hx:x≤1000000):S0 64 [nD s,nD x] [] (.tup [nD (Ge true s x),nD (pB true s x)]) []:=Fc aA rfl rfl cv s hs x hx
theorem xb (b:List UInt8)(n:Nat)(hn:n=b.length)(hN:n≤1000000)(s:Rs)(hs:ba n s)(y:Nat)(hy:y≤1000000):S1 60 [.ptr 0 0 0,nD y,.fn (.func 63) [] [],.fn (.func 64) [] []] [⟨[.sl false n 1 (b.map dB),nD (s).p,nD (s).e], 88,false⟩] (nD (tN b true y s)) [⟨[.sl false n 1 (b.map dB),nD (gQ b true y s).p,nD (gQ b true y s).e], 88,false⟩]:=by
 have ho:s.e=0→s.p≤8*n:=hs
 have hb:=vL true y
 have hx:=vN b true y s
 have hA:IS true y s=fl s (((cS true y:Nat):Int)==0) (cS true y):=rfl
 have hX:aV b (gP true y) (fl s (((cS true y:Nat):Int)==0) (cS true y))=xa b true y s:=rfl
 have hT:bp b (gP true y) (fl s (((cS true y:Nat):Int)==0) (cS true y))=vM b true y s:=rfl
 refine SpecH.run T_ok ai Try.func60 rfl rfl rfl ⟨rfl,trivial⟩ rfl 1000 64 (fun R ok=>(.s 11 (.br ((↑(Rs.e s):Int) !=0) (fun p0=>have p0f:=bE p0;(.s 1 (.out [0] [0] (zI 0) [Tq [TL false n 1 (map dB b),zN (Rs.p s),zN (Rs.e s)] 88 false] R (ok _ _ (by(rw[(n7 om).2];rfl)) (by(rw[(n7 om).1])))))) (fun p0=>have p0f:=bF p0;(.s 3 (.cl 63 false [] (.fn Tg (@zh (y) om)) (.s 13 (.cl 54 true [0] (.fn i5 (@bV (b) (n) om om (s) ((↑(cS true y):Int)==0) ((↑(cS true y):Int)) om)) (.s 3 (.cl 53 true [0] (.fn mh (@eD (b) (n) om om (fl s ((↑(cS true y):Int)==0) (cS true y)) (by(exact ba.fl hs _ _)) ((↑(gP true y):Int)) om)) (.s 11 (.br ((↑(Rs.e (bp b (gP true y) (fl s ((↑(cS true y):Int)==0) (cS true y)))):Int) !=0) (fun p1=>have p1f:=bE p1;(.s 1 (.out [0] [0] (zI 0) [Tq [TL false n 1 (map dB b),zN (Rs.p (bp b (gP true y) (fl s ((↑(cS true y):Int)==0) (cS true y)))),zN (Rs.e (bp b (gP true y) (fl s ((↑(cS true y):Int)==0) (cS true y))))] 88 false] R (ok _ _ (by(rw[(n8 (b:=b) (far:=true) (sy:=y) (s:=s) om (by first|assumption|(rw[←hT];omega))).2];rfl)) (by(rw[(n8 (b:=b) (far:=true) (sy:=y) (s:=s) om (by first|assumption|(rw[←hT];omega))).1];rfl)))))) (fun p1=>have p1f:=bF p1;(.s 4 (.cl 64 false [] (.fn Th (@DU (y) om (aV b (gP true y) (fl s ((↑(cS true y):Int)==0) (cS true y))) om)) (.s 13 (.cl 54 true [0] (.fn i5 (@bV (b) (n) om om (bp b (gP true y) (fl s ((↑(cS true y):Int)==0) (cS true y))) ((↑(pB true y (aV b (gP true y) (fl s ((↑(cS true y):Int)==0) (cS true y)))):Int)==0) ((↑(pB true y (aV b (gP true y) (fl s ((↑(cS true y):Int)==0) (cS true y)))):Int)) om)) (.s 2 (.out [0] [0] (zN (Ge true y (aV b (gP true y) (fl s ((↑(cS true y):Int)==0) (cS true y))))) [Tq [TL false n 1 (map dB b),zN (Rs.p (fl (bp b (gP true y) (fl s ((↑(cS true y):Int)==0) (cS true y))) ((↑(pB true y (aV b (gP true y) (fl s ((↑(cS true y):Int)==0) (cS true y)))):Int)==0) (pB true y (aV b (gP true y) (fl s ((↑(cS true y):Int)==0) (cS true y)))))),zN (Rs.e (fl (bp b (gP true y) (fl s ((↑(cS true y):Int)==0) (cS true y))) ((↑(pB true y (aV b (gP true y) (fl s ((↑(cS true y):Int)==0) (cS true y)))):Int)==0) (pB true y (aV b (gP true y) (fl s ((↑(cS true y):Int)==0) (cS true y))))))] 88 false] R (ok _ _ (by(rw[(kQ (b:=b) (far:=true) (sy:=y) (s:=s) om (by first|assumption|(rw[←hT];omega))).2];rfl)) (by(rw[(kQ (b:=b) (far:=true) (sy:=y) (s:=s) om (by first|assumption|(rw[←hT];omega))).1];rfl)))))))))))))))))))))) kr
end Vp
end Go.Proofs.Ytefjnofhgkjpmaa
namespace Go.Proofs.Ytefjnofhgkjpmaa
open Go.RowKit Go.Bw Go.Vx
namespace Vp
theorem zi (l:List UInt8)(n:Nat)(hn:n=l.length)(hN:n≤1000000)(m:Int)(hm:1≤m∧m≤15)(h:aC l m.toNat=0):S0 58 [.sl false n 1 (l.map dB),iD m] [] (.tup [.agg (cZ (aa l)++[.ref 0 0 0 (ab l).length 1]),iD 0]) [⟨(ab l).map nD, 3,true⟩]:=by
 obtain⟨k,rfl⟩:=UI (by omega:0≤m)
 exact sk l n hn hN k (by omega) h
theorem vP (l:List UInt8)(n:Nat)(hn:n=l.length)(hN:n≤1000000)(m:Int)(hm:1≤m∧m≤15)(h:aC l m.toNat≠0):S0 58 [.sl false n 1 (l.map dB),iD m] [] (.tup [Cf,nD (aC l m.toNat)]) []:=by
 obtain⟨k,rfl⟩:=UI (by omega:0≤m)
 exact uQ l n hn hN k (by omega) h
theorem IT (l:List UInt8)(n:Nat)(hn:n=l.length)(hN:n≤1000000)(m:Int)(hm:1≤m∧m≤15):S0 86 [.sl false n 1 (l.map dB),iD m] [] (nD (aC l m.toNat)) []:=by
 obtain⟨k,rfl⟩:=UI (by omega:0≤m)
 exact sj l n hn hN k (by omega)
def fF (l:List UInt8)(m:Nat):List UInt8:=lk l (if aC l m=0 then l else[])
theorem kR {l:List UInt8}{m:Nat}(h:aC l m=0):fF l m=l:=(aw _ _).trans (if_pos h)
theorem xd {l:List UInt8}{m:Nat}(h:aC l m≠0):fF l m=[]:=(aw _ _).trans (if_neg h)
theorem ri (l:List UInt8){m:Nat}(hm:m≤15):aC (fF l m) 15=0:=by
 by_cases h:aC l m=0
 ·rw[kR h];exact(iL hm h).1
 ·rw[xd h];rfl
theorem LO (j:Nat):eu j (.agg eT) (.agg (cZ (aa [])++[.ref j j 0 0 1])):=eu.agg (dR.app (a:=[iD 0,iD 0,iD 0,iD 0,iD 0,iD 0,iD 0,iD 0,iD 0,iD 0,iD 0,iD 0,iD 0,iD 0,iD 0,iD 0]) (dR.refl j _) ⟨eu.nil j 1,trivial⟩)
theorem tP (n:Nat):∀(l:List Rn) (o:List UInt8),(ck n l o).2≠0→(ck n l o).1=[]
 |[],o,h=>by
  rw[ck]at *;split
  ·next q=>rw[if_pos q]at h;exact absurd rfl h
  ·rfl
 |r::q,o,h=>by
  rw[ck]at *
  split
  ·rfl
  ·next h1=>
   split
   ·rfl
   ·next h2=>
    split
    ·rfl
    ·next h3=>rw[if_neg h1,if_neg h2,if_neg h3]at h;exact tP n q _ h
theorem LP (l:List Rn)(k:Nat)(hk:k=l.length)(hK:k≤1000)(n:Nat)(hn:n≤320)(hB:∀i,(l.getD i mb).x≤1000000∧(l.getD i mb).s≤1000000):S0 108 [.sl false k 2 (l.flatMap b8),nD n] [] (.tup [.ref 0 0 0 (cq n l).1.length 1,nD (cq n l).2]) [⟨(cq n l).1.map dB, 5,true⟩]:=by
 by_cases h:(cq n l).2=0
 ·have h1:=Ke l k hk hK n hn hB h
  rw[h];exact h1
 ·have h1:=E9 l k hk hK n hn hB h
  have e:(cq n l).1=[]:=by rw[iJ]at *;exact tP _ _ _ h
  rw[e]
  exact SpecH.nilA h1 _ (eu.tup ⟨eu.nil 0 1,eu.refl 0 _,trivial⟩)
end Vp
end Go.Proofs.Ytefjnofhgkjpmaa
namespace Go.Proofs.Ytefjnofhgkjpmaa
open Go.RowKit Go.Bw Go.Vx
open List (length getD map take drop flatMap replicate)
namespace Vp
theorem IU {p:Prop}(h:p:=by(have h9:=bH b 8 s;have h8:=@rj b l1 s hT1;have h7:=@rj b l2 (gQ b false (aH b l1 s) (aR b l1 s)) hT2;omega)):p:=h
theorem LQ {p:Prop}(h:p:=by(have q:=@LW b kd le l1 l2 s om om;rw[q];first|done|rfl|(unfold kp;refine fG ?_;omega))):p:=h
theorem LS {p:Prop}(h:p:=by(have q:=@IV b kd le l1 l2 s om om om;rw[q];first|done|rfl|(unfold kp;refine fG ?_;omega))):p:=h
theorem LU {p:Prop}(h:p:=by(have q:=@IW b kd le l1 l2 s om om om;rw[q];first|done|rfl|(unfold kp;refine fG ?_;omega))):p:=h
theorem LV {p:Prop}(h:p:=by(have q:=@IX b kd le l1 l2 s om om om;rw[q];first|done|rfl|(unfold kp;refine fG ?_;omega))):p:=h
abbrev Al (b l1:List UInt8)(s:Rs):Rs:=gQ b false (aH b l1 s) (aR b l1 s)
def ax (b:List UInt8)(kd le:Nat)(l1 l2:List UInt8)(s:Rs):Rs×Nat×Nat×Nat×Bool:=lk b (
 if kd=0 then(if 0<le then(bp b 8 s,aV b 8 s,0,0,false)else(s,0,0,0,true))
 else if(aR b l1 s).e≠0 then(aR b l1 s,0,0,0,false)else if aH b l1 s<256 then(aR b l1 s,aH b l1 s,0,0,false)else if aH b l1 s=256 then(aR b l1 s,0,0,0,true)
 else(gQ b true (aH b l2 (Al b l1 s)) (aR b l2 (Al b l1 s)),0,tN b true (aH b l2 (Al b l1 s)) (aR b l2 (Al b l1 s)),tN b false (aH b l1 s) (aR b l1 s),false))
section
variable {b:List UInt8} {kd le:Nat} {l1 l2:List UInt8} {s:Rs}
theorem AT (h:kd=0)(h2:0<le):ax b kd le l1 l2 s=(bp b 8 s,aV b 8 s,0,0,false):=by unfold ax;rw[aw,if_pos h,if_pos h2]
theorem AU (h:kd=0)(h2:¬0<le):ax b kd le l1 l2 s=(s,0,0,0,true):=by unfold ax;rw[aw,if_pos h,if_neg h2]
theorem LW (h:kd≠0)(h2:(aR b l1 s).e≠0):ax b kd le l1 l2 s=(aR b l1 s,0,0,0,false):=by unfold ax;rw[aw,if_neg h,if_pos h2]
theorem IV (h:kd≠0)(h2:(aR b l1 s).e=0)(h3:aH b l1 s<256):ax b kd le l1 l2 s=(aR b l1 s,aH b l1 s,0,0,false):=by unfold ax;rw[aw,if_neg h,if_neg (by omega),if_pos h3]
theorem IW (h:kd≠0)(h2:(aR b l1 s).e=0)(h3:aH b l1 s=256):ax b kd le l1 l2 s=(aR b l1 s,0,0,0,true):=by unfold ax;rw[aw,if_neg h,if_neg (by omega),if_neg (by omega),if_pos h3]
theorem IX (h:kd≠0)(h2:(aR b l1 s).e=0)(h3:256<aH b l1 s):ax b kd le l1 l2 s=(gQ b true (aH b l2 (Al b l1 s)) (aR b l2 (Al b l1 s)),0,tN b true (aH b l2 (Al b l1 s)) (aR b l2 (Al b l1 s)),tN b false (aH b l1 s) (aR b l1 s),false):=by unfold ax;rw[aw,if_neg h,if_neg (by omega),if_neg (by omega),if_neg (by omega)]
theorem ba.st (h:ba b.length s):ba b.length (ax b kd le l1 l2 s).1:=by
 unfold ax;rw[aw]
 split
 ·split
  ·exact h.tk _
  ·exact h
 ·split
  ·exact h.sy _
  ·split
   ·exact h.sy _
   ·split
    ·exact h.sy _
    ·exact(((h.sy _).nb _ _).sy _).nb _ _
theorem ja:(ax b kd le l1 l2 s).2.1<256∧(ax b kd le l1 l2 s).2.2.1≤200000∧(ax b kd le l1 l2 s).2.2.2.1≤200000:=by
 unfold ax;rw[aw]
 split
 ·split
  ·exact⟨bH b 8 s,T7 _,T7 _⟩
  ·exact⟨by show 0<256;decide,T7 _,T7 _⟩
 ·split
  ·exact⟨by show 0<256;decide,T7 _,T7 _⟩
  ·split
   ·next q=>exact⟨q,T7 _,T7 _⟩
   ·split
    ·exact⟨by show 0<256;decide,T7 _,T7 _⟩
    ·exact⟨by show 0<256;decide,AQ _ _ _ _,AQ _ _ _ _⟩
theorem rj (h:aC l1 15=0):aH b l1 s≤1000000:=by
 have:=AO b l1 s
 have:=(dw h).1
 omega
end
def kp (r:Rs×Nat×Nat×Nat×Bool):D:=.tup [.agg [dG r.2.1,nD r.2.2.1,nD r.2.2.2.1],bD r.2.2.2.2]
theorem fG {x y:Nat}{d e f:D}(h:x<256):Uw [.agg [.v (.int .u8 ((x:Int)%256)),d,e],f]=Uw [.agg [dG x,d,e],f]:=by
 rw[show(x:Int)%256=x from by omega]
theorem IY (b:List UInt8)(n:Nat)(hn:n=b.length)(hN:n≤1000000)(s:Rs)(hs:ba n s)(kd le:Nat)(la:Bool)(hkd:kd≤2)(hle:le≤1000000)(l1 l2:List UInt8)(hT1:aC l1 15=0)(hT2:aC l2 15=0)(q1 q2:Nat)(hq1:q1=(ab l1).length)(hq2:q2=(ab l2).length):S1 37 [.ptr 0 0 0,.agg ([dG kd,bD la,nD le]++fA q1 l1++fA q2 l2)] [⟨[.sl false n 1 (b.map dB),nD (s).p,nD (s).e], 88,false⟩] (kp (ax b kd le l1 l2 s)) [⟨[.sl false n 1 (b.map dB),nD ((ax b kd le l1 l2 s).1).p,nD ((ax b kd le l1 l2 s).1).e], 88,false⟩]:=by
 have ho:s.e=0→s.p≤8*n:=hs
 have hr1:ba n (aR b l1 s):=by subst hn;exact hs.sy _
 have hr2:ba n (gQ b false (aH b l1 s) (aR b l1 s)):=by subst hn;exact(hs.sy _).nb _ _
 have hr3:ba n (aR b l2 (gQ b false (aH b l1 s) (aR b l1 s))):=by subst hn;exact((hs.sy _).nb _ _).sy _
 refine SpecH.run T_ok ai Try.func37 rfl rfl rfl ⟨rfl,trivial⟩ rfl 1000 64 (fun R ok=>(.s 13 (.br ((kd:Int)==0) (fun p0=>have p0f:=eq_of_beq p0;(.s 8 (.bd (0<(le:Int)) (fun p1 p1f=>(.s 2 (.cl 53 true [0] (.fn mh (@eD (b) (n) om om (s) om (8) om)) (.s 1 (.opt (ar .u8 (↑(aV b 8 s):Int)) (aQ (aV b 8 s)) (bB IU) (.s 26 (.out [0] [0] (Uw [UA [aQ (aV b 8 s),zI 0,zI 0],D.v (.bool ((le:Int)==0))]) [Tq [TL false n 1 (map dB b),zN (Rs.p (bp b 8 s)),zN (Rs.e (bp b 8 s))] 88 false] R (ok _ _ (by(rw[AT om om,show(((le:Nat):Int)==0)=false from by simp;omega];rfl)) (by(have q:=@AT b kd le l1 l2 s om om;rw[q];first|done|rfl|(unfold kp;refine fG ?_;omega))))))))))) (fun p1 p1f=>(.s 20 (.out [0] [0] (Uw [UA [bI 0,zI 0,zI 0],D.v (.bool ((le:Int)==0))]) [Tq [TL false n 1 (map dB b),zN (Rs.p s),zN (Rs.e s)] 88 false] R (ok _ _ (by(rw[AU om om,show(((le:Nat):Int)==0)=true from by simp;omega];rfl)) (by(have q:=@AU b kd le l1 l2 s om om;rw[q];first|done|rfl|(unfold kp;refine fG ?_;omega)))))))))) (fun p0=>have p0f:=am p0;(.s 9 (.call 59 true [0] (true) wr ([TF 0 0 0,UA [zN (aa l1 0),zN (aa l1 1),zN (aa l1 2),zN (aa l1 3),zN (aa l1 4),zN (aa l1 5),zN (aa l1 6),zN (aa l1 7),zN (aa l1 8),zN (aa l1 9),zN (aa l1 10),zN (aa l1 11),zN (aa l1 12),zN (aa l1 13),zN (aa l1 14),zN (aa l1 15),TL false q1 1 (map nD (ab l1))]]) _ (by exact(qr (qr trivial))) (true) wr _ _ _ (TW (az.of Try.func59 rfl rfl) (@Gd (b) (n) om om (s) om (l1) om (q1) om)) (.s 12 (.br ((↑(Rs.e (aR b l1 s)):Int) !=0) (fun p2=>have p2f:=bE p2;(.s 12 (.out [0] [0] (Uw [UA [bI 0,zI 0,zI 0],D.v (.bool false)]) [Tq [TL false n 1 (map dB b),zN (Rs.p (aR b l1 s)),zN (Rs.e (aR b l1 s))] 88 false] R (ok _ _ LQ LQ)))) (fun p2=>have p2f:=bF p2;(.s 4 (.bd ((↑(aH b l1 s):Int)<256) (fun p3 p3f=>(.s 2 (.opt (ar .u8 (↑(aH b l1 s):Int)) (aQ (aH b l1 s)) (bB om) (.s 18 (.out [0] [0] (Uw [UA [aQ (aH b l1 s),zI 0,zI 0],D.v (.bool false)]) [Tq [TL false n 1 (map dB b),zN (Rs.p (aR b l1 s)),zN (Rs.e (aR b l1 s))] 88 false] R (ok _ _ LS LS)))))) (fun p3 p3f=>(.s 4 (.br ((↑(aH b l1 s):Int)==256) (fun p4=>have p4f:=eq_of_beq p4;(.s 13 (.out [0] [0] (Uw [UA [bI 0,zI 0,zI 0],D.v (.bool true)]) [Tq [TL false n 1 (map dB b),zN (Rs.p (aR b l1 s)),zN (Rs.e (aR b l1 s))] 88 false] R (ok _ _ LU LU)))) (fun p4=>have p4f:=am p4;(.s 3 (.cl 60 true [0] (.fn Qf (@tO (b) (n) om om (aR b l1 s) om (aH b l1 s) IU)) (.s 16 (.call 59 true [0] (true) wr ([TF 0 0 0,UA [zN (aa l2 0),zN (aa l2 1),zN (aa l2 2),zN (aa l2 3),zN (aa l2 4),zN (aa l2 5),zN (aa l2 6),zN (aa l2 7),zN (aa l2 8),zN (aa l2 9),zN (aa l2 10),zN (aa l2 11),zN (aa l2 12),zN (aa l2 13),zN (aa l2 14),zN (aa l2 15),TL false q2 1 (map nD (ab l2))]]) _ (by exact(qr (qr trivial))) (true) wr _ _ _ (TW (az.of Try.func59 rfl rfl) (@Gd (b) (n) om om (gQ b false (aH b l1 s) (aR b l1 s)) om (l2) om (q2) om)) (.s 1 (.cl 60 true [0] (.fn Qf (@xb (b) (n) om om (aR b l2 (gQ b false (aH b l1 s) (aR b l1 s))) om (aH b l2 (gQ b false (aH b l1 s) (aR b l1 s))) IU)) (.s 18 (.out [0] [0] (Uw [UA [bI 0,zN (tN b true (aH b l2 (gQ b false (aH b l1 s) (aR b l1 s))) (aR b l2 (gQ b false (aH b l1 s) (aR b l1 s)))),zN (tN b false (aH b l1 s) (aR b l1 s))],D.v (.bool false)]) [Tq [TL false n 1 (map dB b),zN (Rs.p (gQ b true (aH b l2 (gQ b false (aH b l1 s) (aR b l1 s))) (aR b l2 (gQ b false (aH b l1 s) (aR b l1 s))))),zN (Rs.e (gQ b true (aH b l2 (gQ b false (aH b l1 s) (aR b l1 s))) (aR b l2 (gQ b false (aH b l1 s) (aR b l1 s)))))] 88 false] R (ok _ _ LV LV)))))))))))))))))))))))) kr
end Vp
end Go.Proofs.Ytefjnofhgkjpmaa
namespace Go.Proofs.Ytefjnofhgkjpmaa
open Go.RowKit Go.Bw Go.Vx
namespace Vp
def gj (b l:List UInt8)(c:Rs):Rn:=⟨aH b l c,aV b (rb (aH b l c)) (aR b l c)⟩
def AV (N many k:Nat)(x:Rn):Bool:=decide (many+bf x≤N)&&(decide (x.s≠16)||decide (1<k+1))
def m6 (b l:List UInt8)(N:Nat)(c:Rs)(many k:Nat):Rs:=fl (bp b (rb (aH b l c)) (aR b l c)) (AV N many k (gj b l c)) 132
def lnZF (b l:List UInt8)(N:Nat):Nat→Rs→Nat→List Rn→Rs×List Rn
 |0,c,_,r=>(c,r)
 |k+1,c,many,r=>if N≤many∨c.e≠0 then(c,r)else lnZF b l N k (m6 b l N c many r.length) (many+bf (gj b l c)) (r++[gj b l c])
def ff (b l:List UInt8)(N:Nat)(s:Rs):Rs×List Rn:=lk b (lnZF b l N N s 0 [])
theorem rl (x:Rn):1≤bf x:=by have:=eo x;omega
theorem nz {b l:List UInt8}{N k:Nat}{c:Rs}{many:Nat}{r:List Rn}(h:N≤many∨c.e≠0):lnZF b l N k c many r=(c,r):=by
 cases k with
 |zero=>rfl
 |succ k=>rw[lnZF,if_pos h]
theorem tQ (b l:List UInt8)(N:Nat):∀(k m:Nat) (c:Rs) (many:Nat) (r:List Rn),N-many≤k→N-many≤m→lnZF b l N k c many r=lnZF b l N m c many r
 |0,m,c,many,r,h,_=>by rw[nz (k:=m) (.inl (by omega))];rfl
 |k+1,0,c,many,r,_,h=>by rw[nz (k:=k+1) (.inl (by omega))];rfl
 |k+1,m+1,c,many,r,h1,h2=>by
  rw[lnZF,lnZF]
  split
  ·rfl
  ·have:=rl (gj b l c)
   exact tQ b l N k m _ _ _ (by omega) (by omega)
theorem AW {b l:List UInt8}{N:Nat}{c:Rs}{many:Nat}{r:List Rn}{R:Rs×List Rn}(h:¬N≤many)(h2:c.e=0)(hR:lnZF b l N (N-many) c many r=R):lnZF b l N (N-(many+bf (gj b l c))) (m6 b l N c many r.length) (many+bf (gj b l c)) (r++[gj b l c])=R:=by
 have:=rl (gj b l c)
 rw[←hR,show N-many=(N-many-1)+1 from by omega,lnZF,if_neg (by omega)]
 exact tQ b l N _ _ _ _ _ (by omega) (by omega)
theorem DV {b l:List UInt8}{N k:Nat}{c:Rs}{many:Nat}{r:List Rn}{R:Rs×List Rn}(hR:lnZF b l N k c many r=R)(h:N≤many∨c.e≠0):R=(c,r):=by rw[←hR,nz h]
theorem n9 (b l:List UInt8)(N:Nat)(s:Rs):ff b l N s=lnZF b l N N s 0 []:=aw _ _
def DW (b l:List UInt8)(N:Nat)(s:Rs):List UInt8:=(cq N (ff b l N s).2).1
def vQ (b l:List UInt8)(N:Nat)(s:Rs):Rs:=fl (ff b l N s).1 ((((cq N (ff b l N s).2).2:Nat):Int)==0) 132
theorem f6 {b l:List UInt8}{c:Rs}(hl:l.length≤19):(gj b l c).s≤18∧(gj b l c).x≤128∧bf (gj b l c)≤139:=by
 have h1:=AO b l c
 have h2:=bH b (rb (aH b l c)) (aR b l c)
 have h3:=di (aH b l c)
 have h4:2^rb (aH b l c)≤2^7:=TX (by decide) h3.2
 have h5:=eo (gj b l c)
 have e1:(gj b l c).s=aH b l c:=rfl
 have e2:(gj b l c).x=aV b (rb (aH b l c)) (aR b l c):=rfl
 omega
theorem lY (s x:Nat):(s=16∧bf ⟨s,x⟩=x+3)∨(s=17∧bf ⟨s,x⟩=x+3)∨(s=18∧bf ⟨s,x⟩=x+11)∨(s≠16∧s≠17∧s≠18∧bf ⟨s,x⟩=1):=eo ⟨s,x⟩
theorem ba.ln {b l:List UInt8}{N:Nat}{c:Rs}{many k:Nat}(h:ba b.length c):ba b.length (m6 b l N c many k):=((h.sy _).tk _).fl _ _
theorem IZ {r:List Rn}{x:Rn}(h:∀i,(r.getD i mb).x≤1000000∧(r.getD i mb).s≤1000000)(hx:x.s≤18∧x.x≤128∧bf x≤139):∀i,((r++[x]).getD i mb).x≤1000000∧((r++[x]).getD i mb).s≤1000000:=fun i=>by
 rw[To]
 rcases VR i r.length with q|q|q
 ·rw[TQ q,←To];exact h i
 ·rw[q,TO (TD _),UJ]
  show x.x≤_∧x.s≤_;omega
 ·rw[TY (by simp;omega)];exact⟨T7 _,T7 _⟩
theorem I0:∀i,(([]:List Rn).getD i mb).x≤1000000∧(([]:List Rn).getD i mb).s≤1000000:=fun i=>by
 rw[To];exact⟨T7 _,T7 _⟩
theorem DX {b l:List UInt8}{N many k:Nat}{c:Rs}{a:D}{d:Bool}{t:TypeId}{r:Bool}(h:d=AV N many k (gj b l c)):(⟨[a,nD (fl (bp b (rb (aH b l c)) (aR b l c)) d 132).p,nD (fl (bp b (rb (aH b l c)) (aR b l c)) d 132).e],t,r⟩:Blk)=⟨[a,nD (m6 b l N c many k).p,nD (m6 b l N c many k).e],t,r⟩:=by rw[h];rfl
end Vp
end Go.Proofs.Ytefjnofhgkjpmaa
namespace Go.Proofs.Ytefjnofhgkjpmaa
open Go.RowKit Go.Bw Go.Vx
open List (length getD map take drop flatMap replicate)
namespace Vp
theorem m7 {p:Prop}(h:p:=by(have h9:aH b l c≤18∧aV b (rb (aH b l c)) (aR b l c)≤128∧bf ⟨aH b l c,aV b (rb (aH b l c)) (aR b l c)⟩≤139:=@f6 b l c hl;have h8:=lY (aH b l c) (aV b (rb (aH b l c)) (aR b l c));have h7:=di (aH b l c);have h6:=@f6 b l c hl;have h5:=eo (gj b l c);have e1:(gj b l c).s=aH b l c:=rfl;have e2:(gj b l c).x=aV b (rb (aH b l c)) (aR b l c):=rfl;have e3:bf ⟨aH b l c,aV b (rb (aH b l c)) (aR b l c)⟩=bf (gj b l c):=rfl;omega)):p:=h
theorem m8 {p:Prop}(h:p:=by(rw[Tt,Ud];have h9:aH b l c≤18∧aV b (rb (aH b l c)) (aR b l c)≤128∧bf ⟨aH b l c,aV b (rb (aH b l c)) (aR b l c)⟩≤139:=@f6 b l c hl;have h8:=lY (aH b l c) (aV b (rb (aH b l c)) (aR b l c));have h7:=di (aH b l c);have h6:=@f6 b l c hl;have h5:=eo (gj b l c);have e1:(gj b l c).s=aH b l c:=rfl;have e2:(gj b l c).x=aV b (rb (aH b l c)) (aR b l c):=rfl;have e3:bf ⟨aH b l c,aV b (rb (aH b l c)) (aR b l c)⟩=bf (gj b l c):=rfl;omega)):p:=h
theorem m9 {p:Prop}(h:p:=by(have q:=DV hR om;rw[q];first|done|assumption|omega)):p:=h
theorem zj {p:Prop}(h:p:=by(rw[Tt];rfl)):p:=h
theorem zk {p:Prop}(h:p:=by(have h9:aH b l c≤18∧aV b (rb (aH b l c)) (aR b l c)≤128∧bf ⟨aH b l c,aV b (rb (aH b l c)) (aR b l c)⟩≤139:=@f6 b l c hl;have h8:=lY (aH b l c) (aV b (rb (aH b l c)) (aR b l c));have h7:=di (aH b l c);refine aT ?_;omega)):p:=h
theorem zm {p:Prop}(h:p:=by(have h9:aH b l c≤18∧aV b (rb (aH b l c)) (aR b l c)≤128∧bf ⟨aH b l c,aV b (rb (aH b l c)) (aR b l c)⟩≤139:=@f6 b l c hl;have h8:=lY (aH b l c) (aV b (rb (aH b l c)) (aR b l c));have h7:=di (aH b l c);have h6:=@f6 b l c hl;have h5:=eo (gj b l c);have e1:(gj b l c).s=aH b l c:=rfl;have e2:(gj b l c).x=aV b (rb (aH b l c)) (aR b l c):=rfl;have e3:bf ⟨aH b l c,aV b (rb (aH b l c)) (aR b l c)⟩=bf (gj b l c):=rfl;refine DX ?_;unfold AV;rw[XH];simp;omega)):p:=h
theorem zn {p:Prop}(h:p:=by(subst hn;exact ba.ln hc)):p:=h
theorem zo {p:Prop}(h:p:=by(exact IZ hB (f6 hl))):p:=h
theorem zp {p:Prop}(h:p:=by(exact AW om om hR)):p:=h
theorem zq {p:Prop}(h:p:=by show N-(many+bf (gj b l c))<N-many;clear next1 last1;(have h9:aH b l c≤18∧aV b (rb (aH b l c)) (aR b l c)≤128∧bf ⟨aH b l c,aV b (rb (aH b l c)) (aR b l c)⟩≤139:=@f6 b l c hl;have h8:=lY (aH b l c) (aV b (rb (aH b l c)) (aR b l c));have h7:=di (aH b l c);have h6:=@f6 b l c hl;have h5:=eo (gj b l c);have e1:(gj b l c).s=aH b l c:=rfl;have e2:(gj b l c).x=aV b (rb (aH b l c)) (aR b l c):=rfl;have e3:bf ⟨aH b l c,aV b (rb (aH b l c)) (aR b l c)⟩=bf (gj b l c):=rfl;omega)):p:=h
theorem Gf {p:Prop}(h:p:=by exact(Ut (D.sim.slw rfl ((cO (o) (off) (k*1)).trans (by(simp;done)))) (qr trivial))):p:=h
theorem Gg {p:Prop}(h:p:=by(simp;have h9:aH b l c≤18∧aV b (rb (aH b l c)) (aR b l c)≤128∧bf ⟨aH b l c,aV b (rb (aH b l c)) (aR b l c)⟩≤139:=@f6 b l c hl;have h8:=lY (aH b l c) (aV b (rb (aH b l c)) (aR b l c));have h7:=di (aH b l c);omega)):p:=h
theorem LX {b l:List UInt8}{n:Nat}{s:Rs}{t:TypeId}{q:List Blk}(h:s.e=0):((⟨[TL false n 1 (b.map dB),D.v (.int .i64 (((ee b l s.p).2.1:Nat):Int)),D.v (.int .i64 (((fl s ((((ee b l s.p).2.2:Nat):Int)==0) (ee b l s.p).2.2).e:Nat):Int))],t,false⟩:Blk)::q)=⟨[TL false n 1 (b.map dB),nD (Rs.mk (ee b l s.p).2.1 (ee b l s.p).2.2).p,nD (Rs.mk (ee b l s.p).2.1 (ee b l s.p).2.2).e],t,false⟩::q:=by
 rw[(DT h).1]
theorem AY (b:List UInt8)(n:Nat)(hn:n=b.length)(hN:n≤1000000)(s:Rs)(hs:ba n s)(l:List UInt8)(hT:aC l 15=0):S1 59 [.ptr 0 0 0,.agg (cZ (aa l)++[.ref 1 1 0 (ab l).length 1])] [⟨[.sl false n 1 (b.map dB),nD (s).p,nD (s).e], 88,false⟩,⟨(ab l).map nD, 3,true⟩] (nD (aH b l s)) [⟨[.sl false n 1 (b.map dB),nD (aR b l s).p,nD (aR b l s).e], 88,false⟩,⟨(ab l).map nD, 3,true⟩]:=by
 have ho:s.e=0→s.p≤8*n:=hs
 refine SpecH.run T_ok ai Try.func59 rfl rfl rfl ⟨rfl,fa _,trivial⟩ rfl 1000 64 (fun R ok=>(.s 13 (.br ((↑(Rs.e s):Int) !=0) (fun p0=>have p0f:=bE p0;(.s 1 (.out [0,1] [0,1] (zI 0) [Tq [TL false n 1 (map dB b),zN (Rs.p s),zN (Rs.e s)] 88 false,Tq (map nD (ab l)) 3 true] R (ok _ _ (by(rw[tM om];rfl)) (by(rw[mN om])))))) (fun p0=>have p0f:=bF p0;(.s 22 (.call 88 false [] (true&&(true&&(true&&(true&&(true&&(true&&(true&&(true&&(true&&(true&&(true&&(true&&(true&&(true&&(true&&(true&&(true&&(true&&Tz (0+length (ab l)*1) (length (map nD (ab l)))&&true&&af (bif true&&Tx (length (ab l)*1) (length (map nD (ab l)))then map nD (ab l)else take (length (ab l)*1) (drop 0 (map nD (ab l)))))&&true))))))))))))))))&&true) (by(simp[lc,jT];done)) ([UA [zN (aa l 0),zN (aa l 1),zN (aa l 2),zN (aa l 3),zN (aa l 4),zN (aa l 5),zN (aa l 6),zN (aa l 7),zN (aa l 8),zN (aa l 9),zN (aa l 10),zN (aa l 11),zN (aa l 12),zN (aa l 13),zN (aa l 14),zN (aa l 15),TL (Tz 1 (length (ab l))) (length (ab l)) 1 (bif true&&Tx (length (ab l)*1) (length (map nD (ab l)))then map nD (ab l)else take (length (ab l)*1) (drop 0 (map nD (ab l))))],TL false n 1 (map dB b),zN (Rs.p s)]) _ (by exact(Ut (D.sim.agg (qr (qr (qr (qr (qr (qr (qr (qr (qr (qr (qr (qr (qr (qr (qr (qr (Ut (D.sim.slw rfl (cn (by(simp[lc,jT];done))|>.trans rfl)) trivial)))))))))))))))))) (qr (qr trivial)))) (true) wr _ _ _ (TW (az.of Try.func88 rfl rfl) (@CE (l) (15) om aD (length (ab l)) om (b) (n) om om (Rs.p s) om)) (.s 16 (.cl 54 true [0] (.fn i5 (@bV (b) (n) om om (s) ((↑(Tm (Tm (ee b l (Rs.p s)))):Int)==0) ((↑(Tm (Tm (ee b l (Rs.p s)))):Int)) om)) (.s 11 (.out [0,1] [0,1] (zN (Ty (ee b l (Rs.p s)))) [Tq [TL false n 1 (map dB b),zN (Ty (Tm (ee b l (Rs.p s)))),zN (Rs.e (fl s ((↑(Tm (Tm (ee b l (Rs.p s)))):Int)==0) (Tm (Tm (ee b l (Rs.p s))))))] 88 false,Tq (map nD (ab l)) 3 true] R (ok _ _ (by(rw[pR om])) (by(rw[mO om];exact LX om))))))))))))) kr
theorem DY (b:List UInt8)(n:Nat)(hn:n=b.length)(hN:n≤1000000)(s:Rs)(hs:ba n s)(o:List UInt8)(off k:Nat)(hk:off+k≤o.length)(hK:o.length≤1000000)(l:List UInt8)(hl:l=(o.drop off).take k)(m:Int)(hm:1≤m∧m≤15)(h:aC l m.toNat=0):S1 55 [.ptr 0 0 0,.ref 1 1 off k 1,iD m] [⟨[.sl false n 1 (b.map dB),nD (s).p,nD (s).e], 88,false⟩,⟨(o).map dB, 5,true⟩] (.agg (cZ (aa l)++[.ref 2 2 0 (ab l).length 1])) [⟨[.sl false n 1 (b.map dB),nD (s).p,nD (s).e], 88,false⟩,⟨(o).map dB, 5,true⟩,⟨(ab l).map nD, 3,true⟩]:=by
 subst hl
 refine SpecH.run T_ok ai Try.func55 rfl rfl rfl ⟨rfl,du _,fa _,trivial⟩ rfl 1000 64 (fun R ok=>(.s 5 (.call 58 false [] (true&&(true&&Tz (off+k*1) (length (map dB o))&&true&&af (bif Tx off 0&&Tx (k*1) (length (map dB o))then map dB o else take (k*1) (drop off (map dB o))))&&true) (by(simp only[cO];simp <;>(omega))) ([TL (Tz 1 k) k 1 (bif Tx off 0&&Tx (k*1) (length (map dB o))then map dB o else take (k*1) (drop off (map dB o))),zI m]) _ Gf (true) wr _ _ _ (TW (az.of Try.func58 rfl rfl) (@zi (take k (drop off o)) (k) (by(simp <;>(omega))) om (m) om om)) (.s 16 (.cl 54 true [0] (.fn i5 (@bV (b) (n) om om (s) (true) (132) om)) (.s 10 (.out [0,1,26] [0,1,26] (UA [zN (aa (take k (drop off o)) 0),zN (aa (take k (drop off o)) 1),zN (aa (take k (drop off o)) 2),zN (aa (take k (drop off o)) 3),zN (aa (take k (drop off o)) 4),zN (aa (take k (drop off o)) 5),zN (aa (take k (drop off o)) 6),zN (aa (take k (drop off o)) 7),zN (aa (take k (drop off o)) 8),zN (aa (take k (drop off o)) 9),zN (aa (take k (drop off o)) 10),zN (aa (take k (drop off o)) 11),zN (aa (take k (drop off o)) 12),zN (aa (take k (drop off o)) 13),zN (aa (take k (drop off o)) 14),zN (aa (take k (drop off o)) 15),Tu 2 2 0 (length (ab (take k (drop off o)))) 1]) [Tq [TL false n 1 (map dB b),zN (Rs.p (fl s true 132)),zN (Rs.e (fl s true 132))] 88 false,Tq (map dB o) 5 true,Tq (map nD (ab (take k (drop off o)))) 3 true] R (ok _ _ (by exact rfl) (by(rw[show fl s true 132=s from gF])))))))))) kr
theorem DZ (b:List UInt8)(n:Nat)(hn:n=b.length)(hN:n≤1000000)(s:Rs)(hs:ba n s)(o:List UInt8)(off k:Nat)(hk:off+k≤o.length)(hK:o.length≤1000000)(l:List UInt8)(hl:l=(o.drop off).take k)(m:Int)(hm:1≤m∧m≤15)(h:aC l m.toNat≠0):S1 55 [.ptr 0 0 0,.ref 1 1 off k 1,iD m] [⟨[.sl false n 1 (b.map dB),nD (s).p,nD (s).e], 88,false⟩,⟨(o).map dB, 5,true⟩] (.agg eT) [⟨[.sl false n 1 (b.map dB),nD (fl s false 132).p,nD (fl s false 132).e], 88,false⟩,⟨(o).map dB, 5,true⟩]:=by
 subst hl
 refine SpecH.run T_ok ai Try.func55 rfl rfl rfl ⟨rfl,du _,trivial⟩ rfl 1000 64 (fun R ok=>(.s 5 (.call 58 false [] (true&&(true&&Tz (off+k*1) (length (map dB o))&&true&&af (bif Tx off 0&&Tx (k*1) (length (map dB o))then map dB o else take (k*1) (drop off (map dB o))))&&true) (by(simp only[cO];simp <;>(omega))) ([TL (Tz 1 k) k 1 (bif Tx off 0&&Tx (k*1) (length (map dB o))then map dB o else take (k*1) (drop off (map dB o))),zI m]) _ Gf (true) wr _ _ _ (TW (az.of Try.func58 rfl rfl) (@vP (take k (drop off o)) (k) (by(simp <;>(omega))) om (m) om om)) (.s 16 (.cl 54 true [0] (.fn i5 (@bV (b) (n) om om (s) ((↑(aC (take k (drop off o)) (zK m)):Int)==0) (132) om)) (.s 10 (.out [0,1] [0,1] (UA [zI 0,zI 0,zI 0,zI 0,zI 0,zI 0,zI 0,zI 0,zI 0,zI 0,zI 0,zI 0,zI 0,zI 0,zI 0,zI 0,zS]) [Tq [TL false n 1 (map dB b),zN (Rs.p (fl s ((↑(aC (take k (drop off o)) (zK m)):Int)==0) 132)),zN (Rs.e (fl s ((↑(aC (take k (drop off o)) (zK m)):Int)==0) 132))] 88 false,Tq (map dB o) 5 true] R (ok _ _ (by exact rfl) (by(rw[show(((aC ((o.drop off).take k) m.toNat:Nat):Int)==0)=false from by simp;omega])))))))))) kr
theorem AZ (b:List UInt8)(n:Nat)(hn:n=b.length)(hN:n≤1000000)(s:Rs)(hs:ba n s)(o:List UInt8)(off k:Nat)(hk:off+k≤o.length)(hK:o.length≤1000000)(l:List UInt8)(hl:l=(o.drop off).take k)(m:Int)(hm:1≤m∧m≤15):S1 55 [.ptr 0 0 0,.ref 1 1 off k 1,iD m] [⟨[.sl false n 1 (b.map dB),nD (s).p,nD (s).e], 88,false⟩,⟨(o).map dB, 5,true⟩] (.agg (cZ (aa (fF l m.toNat))++[.ref 2 2 0 (ab (fF l m.toNat)).length 1])) [⟨[.sl false n 1 (b.map dB),nD (fl s (((aC l m.toNat:Nat):Int)==0) 132).p,nD (fl s (((aC l m.toNat:Nat):Int)==0) 132).e], 88,false⟩,⟨(o).map dB, 5,true⟩,⟨(ab (fF l m.toNat)).map nD, 3,true⟩]:=by
 by_cases h:aC l m.toNat=0
 ·have h1:=DY b n hn hN s hs o off k hk hK l hl m hm h
  rw[kR h,h,show fl s ((((0:Nat):Nat):Int)==0) 132=s from gF]
  exact h1
 ·have h1:=DZ b n hn hN s hs o off k hk hK l hl m hm h
  rw[xd h,show(((aC l m.toNat:Nat):Int)==0)=false from by simp;omega]
  exact SpecH.nilA h1 _ (LO 2)
theorem LY (b:List UInt8)(n:Nat)(hn:n=b.length)(hN:n≤1000000)(s:Rs)(hs:ba n s)(l:List UInt8)(hT:aC l 15=0)(hl:l.length≤19)(N:Nat)(hNN:N≤320):S1 85 [.ptr 0 0 0,.agg (cZ (aa l)++[.ref 1 1 0 (ab l).length 1]),nD N] [⟨[.sl false n 1 (b.map dB),nD (s).p,nD (s).e], 88,false⟩,⟨(ab l).map nD, 3,true⟩] (.ref 2 2 0 (DW b l N s).length 1) [⟨[.sl false n 1 (b.map dB),nD (vQ b l N s).p,nD (vQ b l N s).e], 88,false⟩,⟨(ab l).map nD, 3,true⟩,⟨(DW b l N s).map dB, 5,true⟩]:=by
 refine SpecH.run T_ok ai Try.func85 rfl rfl rfl ⟨rfl,fa _,du _,trivial⟩ rfl 1000 64 (fun R ok=>(.s 5 (.nils 7 34 2 150 (Hn.inl T_ok ai false 85 2 (ap Try.prog 85 0) (fun(x:(c:Rs)×'(hc:ba n c)×'(many:Nat)×'(hm:many≤N+139)×'(r:List Rn)×'(hr:r.length≤many)×'(hr2:r.length≤N)×'(hB:∀i,(r.getD i mb).x≤1000000∧(r.getD i mb).s≤1000000)×'(hR:lnZF b l N (N-many) c many r=ff b l N s)×'Unit)=>match x with|⟨c,hc,many,hm,r,hr,hr2,hB,hR,_⟩=>TJ [(0,TF 0 0 0),(2,zN N),(4,TF 24 24 0),(7,(Tu 32 32 0 (r.length) 2)),(8,nD many)] [⟨0,0,0,0,.b ⟨[.sl false n 1 (b.map dB),nD (c).p,nD (c).e],88,false⟩⟩,⟨1,1,1,1,.b ⟨map nD (ab l),3,true⟩⟩,⟨24,24,2,2,.b ⟨[zN (aa l 0),zN (aa l 1),zN (aa l 2),zN (aa l 3),zN (aa l 4),zN (aa l 5),zN (aa l 6),zN (aa l 7),zN (aa l 8),zN (aa l 9),zN (aa l 10),zN (aa l 11),zN (aa l 12),zN (aa l 13),zN (aa l 14),zN (aa l 15),Tu 1 1 0 (length (ab l)) 1],43,false⟩⟩,⟨32,32,34,34,.b ⟨r.flatMap b8,150,true⟩⟩] 40) (fun(x:(c:Rs)×'(hc:ba n c)×'(many:Nat)×'(hm:many≤N+139)×'(r:List Rn)×'(hr:r.length≤many)×'(hr2:r.length≤N)×'(hB:∀i,(r.getD i mb).x≤1000000∧(r.getD i mb).s≤1000000)×'(hR:lnZF b l N (N-many) c many r=ff b l N s)×'Unit)=>match x with|⟨c,hc,many,hm,r,hr,hr2,hB,hR,_⟩=>N-many) [⟨(hc2:ba n (ff b l N s).1)×'(hr3:(ff b l N s).2.length≤N)×'(hB2:∀i,((ff b l N s).2.getD i mb).x≤1000000∧((ff b l N s).2.getD i mb).s≤1000000)×'Unit,.exit 0,fun x=>match x with|⟨hc2,hr3,hB2,_⟩=>TJ [(0,TF 0 0 0),(2,zN N),(4,TF 24 24 0),(7,(Tu 32 32 0 ((ff b l N s).2.length) 2))] [⟨0,0,0,0,.b ⟨[.sl false n 1 (b.map dB),nD ((ff b l N s).1).p,nD ((ff b l N s).1).e],88,false⟩⟩,⟨1,1,1,1,.b ⟨map nD (ab l),3,true⟩⟩,⟨24,24,2,2,.b ⟨[zN (aa l 0),zN (aa l 1),zN (aa l 2),zN (aa l 3),zN (aa l 4),zN (aa l 5),zN (aa l 6),zN (aa l 7),zN (aa l 8),zN (aa l 9),zN (aa l 10),zN (aa l 11),zN (aa l 12),zN (aa l 13),zN (aa l 14),zN (aa l 15),Tu 1 1 0 (length (ab l)) 1],43,false⟩⟩,⟨32,32,34,34,.b ⟨(ff b l N s).2.flatMap b8,150,true⟩⟩] 40⟩] 1000 64 (fun|⟨c,hc,many,hm,r,hr,hr2,hB,hR,_⟩,Q,next1,last1=>(.s 6 (.bd ((many:Int)<N) (fun p0 p0f=>(.s 14 (.br ((↑(Rs.e c):Int)==0) (fun p1=>have p1f:=eq_of_beq p1;(.s 6 (.call 59 true [0,1] (true) wr ([TF 0 0 0,UA [zN (aa l 0),zN (aa l 1),zN (aa l 2),zN (aa l 3),zN (aa l 4),zN (aa l 5),zN (aa l 6),zN (aa l 7),zN (aa l 8),zN (aa l 9),zN (aa l 10),zN (aa l 11),zN (aa l 12),zN (aa l 13),zN (aa l 14),zN (aa l 15),Tu 1 1 0 (length (ab l)) 1]]) _ (by exact(qr (qr trivial))) (true&&(af (map nD (ab l))&&true)) (by(simp;done)) _ _ _ (TW (az.of Try.func59 rfl rfl) (@AY (b) (n) om om (c) om (l) om)) (.s 3 (.cl 81 false [] (.fn NV (@yj (aH b l c) m7)) (.s 11 (.cl 53 true [0] (.fn mh (@eD (b) (n) om om (aR b l c) (by(subst hn;exact hc.sy _)) ((↑(rb (aH b l c)):Int)) m7)) (.s 15 (.chk (true&&Tx (length r*2) (length (flatMap b8 r))&&true&&true&&true&&true&&Tz ((length r+1)*16) 140737488355328) (by(rw[a9 (k:=2) (fun _=>rfl)];simp;omega)) (.s 5 (.br ((↑(aH b l c):Int)==18) (fun p2=>have p2f:=eq_of_beq p2;(.s 9 (.op (11+(↑(aV b (rb (aH b l c)) (aR b l c)):Int)) m7 (.s 2 (.op ((many:Int)+(11+(↑(aV b (rb (aH b l c)) (aR b l c)):Int))) m7 (.s 8 (.bd ((many:Int)+(11+(↑(aV b (rb (aH b l c)) (aR b l c)):Int))≤(N:Int)) (fun p3 p3f=>(.s 6 (.t ((↑(aH b l c):Int) !=16) Gg (.s 8 (.cl 54 true [0] (.fn i5 (@bV (b) (n) om om (bp b (rb (aH b l c)) (aR b l c)) (true) (132) om)) (.val 7 (Tu 288 288 0 (length r+1) 2) (Tu 288 288 0 (length (r++[Rn.mk (aH b l c) (aV b (rb (aH b l c)) (aR b l c))])) 2) zj (.val 8 (zI ((many:Int)+(11+(↑(aV b (rb (aH b l c)) (aR b l c)):Int)))) (zN (many+bf (Rn.mk (aH b l c) (aV b (rb (aH b l c)) (aR b l c))))) zk (.blk 0 0 (Tq [TL false n 1 (map dB b),zN (Rs.p (fl (bp b (rb (aH b l c)) (aR b l c)) true 132)),zN (Rs.e (fl (bp b (rb (aH b l c)) (aR b l c)) true 132))] 88 false) (Tq [TL false n 1 (map dB b),zN (Rs.p (m6 b l N c many (length r))),zN (Rs.e (m6 b l N c many (length r)))] 88 false) zm (.blk 288 288 (Tq (flatMap b8 r++[zN (aH b l c),zN (aV b (rb (aH b l c)) (aR b l c))]) 150 true) (Tq (flatMap b8 (r++[Rn.mk (aH b l c) (aV b (rb (aH b l c)) (aR b l c))])) 150 true) (by(simp;done)) (Hn.next next1 ⟨(m6 b l N c many r.length),zn,(many+bf (gj b l c)),m7,(r++[gj b l c]),m8,m8,zo,zp,⟨⟩⟩ zq [(0,0),(1,1),(24,24),(288,288)] ro)))))))))) (fun p3 p3f=>(.s 11 (.cl 54 true [0] (.fn i5 (@bV (b) (n) om om (bp b (rb (aH b l c)) (aR b l c)) (false) (132) om)) (.val 7 (Tu 288 288 0 (length r+1) 2) (Tu 288 288 0 (length (r++[Rn.mk (aH b l c) (aV b (rb (aH b l c)) (aR b l c))])) 2) zj (.val 8 (zI ((many:Int)+(11+(↑(aV b (rb (aH b l c)) (aR b l c)):Int)))) (zN (many+bf (Rn.mk (aH b l c) (aV b (rb (aH b l c)) (aR b l c))))) zk (.blk 0 0 (Tq [TL false n 1 (map dB b),zN (Rs.p (fl (bp b (rb (aH b l c)) (aR b l c)) false 132)),zN (Rs.e (fl (bp b (rb (aH b l c)) (aR b l c)) false 132))] 88 false) (Tq [TL false n 1 (map dB b),zN (Rs.p (m6 b l N c many (length r))),zN (Rs.e (m6 b l N c many (length r)))] 88 false) zm (.blk 288 288 (Tq (flatMap b8 r++[zN (aH b l c),zN (aV b (rb (aH b l c)) (aR b l c))]) 150 true) (Tq (flatMap b8 (r++[Rn.mk (aH b l c) (aV b (rb (aH b l c)) (aR b l c))])) 150 true) (by(simp;done)) (Hn.next next1 ⟨(m6 b l N c many r.length),zn,(many+bf (gj b l c)),m7,(r++[gj b l c]),m8,m8,zo,zp,⟨⟩⟩ zq [(0,0),(1,1),(24,24),(288,288)] ro))))))))))))))) (fun p2=>have p2f:=am p2;(.s 4 (.bd (16≤(↑(aH b l c):Int)) (fun p4 p4f=>(.s 9 (.op (3+(↑(aV b (rb (aH b l c)) (aR b l c)):Int)) m7 (.s 2 (.op ((many:Int)+(3+(↑(aV b (rb (aH b l c)) (aR b l c)):Int))) m7 (.s 8 (.bd ((many:Int)+(3+(↑(aV b (rb (aH b l c)) (aR b l c)):Int))≤(N:Int)) (fun p5 p5f=>(.s 6 (.br ((↑(aH b l c):Int) !=16) (fun p6=>have p6f:=bE p6;(.s 8 (.cl 54 true [0] (.fn i5 (@bV (b) (n) om om (bp b (rb (aH b l c)) (aR b l c)) (true) (132) om)) (.val 7 (Tu 288 288 0 (length r+1) 2) (Tu 288 288 0 (length (r++[Rn.mk (aH b l c) (aV b (rb (aH b l c)) (aR b l c))])) 2) zj (.val 8 (zI ((many:Int)+(3+(↑(aV b (rb (aH b l c)) (aR b l c)):Int)))) (zN (many+bf (Rn.mk (aH b l c) (aV b (rb (aH b l c)) (aR b l c))))) zk (.blk 0 0 (Tq [TL false n 1 (map dB b),zN (Rs.p (fl (bp b (rb (aH b l c)) (aR b l c)) true 132)),zN (Rs.e (fl (bp b (rb (aH b l c)) (aR b l c)) true 132))] 88 false) (Tq [TL false n 1 (map dB b),zN (Rs.p (m6 b l N c many (length r))),zN (Rs.e (m6 b l N c many (length r)))] 88 false) zm (.blk 288 288 (Tq (flatMap b8 r++[zN (aH b l c),zN (aV b (rb (aH b l c)) (aR b l c))]) 150 true) (Tq (flatMap b8 (r++[Rn.mk (aH b l c) (aV b (rb (aH b l c)) (aR b l c))])) 150 true) (by(simp;done)) (Hn.next next1 ⟨(m6 b l N c many r.length),zn,(many+bf (gj b l c)),m7,(r++[gj b l c]),m8,m8,zo,zp,⟨⟩⟩ zq [(0,0),(1,1),(24,24),(288,288)] ro)))))))) (fun p6=>have p6f:=bF p6;(.s 9 (.cl 54 true [0] (.fn i5 (@bV (b) (n) om om (bp b (rb (aH b l c)) (aR b l c)) (decide (1<(↑(length r+1):Int))) (132) om)) (.val 7 (Tu 288 288 0 (length r+1) 2) (Tu 288 288 0 (length (r++[Rn.mk (aH b l c) (aV b (rb (aH b l c)) (aR b l c))])) 2) zj (.val 8 (zI ((many:Int)+(3+(↑(aV b (rb (aH b l c)) (aR b l c)):Int)))) (zN (many+bf (Rn.mk (aH b l c) (aV b (rb (aH b l c)) (aR b l c))))) zk (.blk 0 0 (Tq [TL false n 1 (map dB b),zN (Rs.p (fl (bp b (rb (aH b l c)) (aR b l c)) (decide (1<(↑(length r+1):Int))) 132)),zN (Rs.e (fl (bp b (rb (aH b l c)) (aR b l c)) (decide (1<(↑(length r+1):Int))) 132))] 88 false) (Tq [TL false n 1 (map dB b),zN (Rs.p (m6 b l N c many (length r))),zN (Rs.e (m6 b l N c many (length r)))] 88 false) zm (.blk 288 288 (Tq (flatMap b8 r++[zN (aH b l c),zN (aV b (rb (aH b l c)) (aR b l c))]) 150 true) (Tq (flatMap b8 (r++[Rn.mk (aH b l c) (aV b (rb (aH b l c)) (aR b l c))])) 150 true) (by(simp;done)) (Hn.next next1 ⟨(m6 b l N c many r.length),zn,(many+bf (gj b l c)),m7,(r++[gj b l c]),m8,m8,zo,zp,⟨⟩⟩ zq [(0,0),(1,1),(24,24),(288,288)] ro))))))))))) (fun p5 p5f=>(.s 11 (.cl 54 true [0] (.fn i5 (@bV (b) (n) om om (bp b (rb (aH b l c)) (aR b l c)) (false) (132) om)) (.val 7 (Tu 288 288 0 (length r+1) 2) (Tu 288 288 0 (length (r++[Rn.mk (aH b l c) (aV b (rb (aH b l c)) (aR b l c))])) 2) zj (.val 8 (zI ((many:Int)+(3+(↑(aV b (rb (aH b l c)) (aR b l c)):Int)))) (zN (many+bf (Rn.mk (aH b l c) (aV b (rb (aH b l c)) (aR b l c))))) zk (.blk 0 0 (Tq [TL false n 1 (map dB b),zN (Rs.p (fl (bp b (rb (aH b l c)) (aR b l c)) false 132)),zN (Rs.e (fl (bp b (rb (aH b l c)) (aR b l c)) false 132))] 88 false) (Tq [TL false n 1 (map dB b),zN (Rs.p (m6 b l N c many (length r))),zN (Rs.e (m6 b l N c many (length r)))] 88 false) zm (.blk 288 288 (Tq (flatMap b8 r++[zN (aH b l c),zN (aV b (rb (aH b l c)) (aR b l c))]) 150 true) (Tq (flatMap b8 (r++[Rn.mk (aH b l c) (aV b (rb (aH b l c)) (aR b l c))])) 150 true) (by(simp;done)) (Hn.next next1 ⟨(m6 b l N c many r.length),zn,(many+bf (gj b l c)),m7,(r++[gj b l c]),m8,m8,zo,zp,⟨⟩⟩ zq [(0,0),(1,1),(24,24),(288,288)] ro))))))))))))))) (fun p4 p4f=>(.s 3 (.ow ((many:Int)+1) (.s 8 (.t (decide ((many:Int)+1≤N)) aD (.s 6 (.t ((↑(aH b l c):Int) !=16) Gg (.s 8 (.cl 54 true [0] (.fn i5 (@bV (b) (n) om om (bp b (rb (aH b l c)) (aR b l c)) (true) (132) om)) (.val 7 (Tu 288 288 0 (length r+1) 2) (Tu 288 288 0 (length (r++[Rn.mk (aH b l c) (aV b (rb (aH b l c)) (aR b l c))])) 2) zj (.val 8 (zI ((many:Int)+1)) (zN (many+bf (Rn.mk (aH b l c) (aV b (rb (aH b l c)) (aR b l c))))) zk (.blk 0 0 (Tq [TL false n 1 (map dB b),zN (Rs.p (fl (bp b (rb (aH b l c)) (aR b l c)) true 132)),zN (Rs.e (fl (bp b (rb (aH b l c)) (aR b l c)) true 132))] 88 false) (Tq [TL false n 1 (map dB b),zN (Rs.p (m6 b l N c many (length r))),zN (Rs.e (m6 b l N c many (length r)))] 88 false) zm (.blk 288 288 (Tq (flatMap b8 r++[zN (aH b l c),zN (aV b (rb (aH b l c)) (aR b l c))]) 150 true) (Tq (flatMap b8 (r++[Rn.mk (aH b l c) (aV b (rb (aH b l c)) (aR b l c))])) 150 true) (by(simp;done)) (Hn.next next1 ⟨(m6 b l N c many r.length),zn,(many+bf (gj b l c)),m7,(r++[gj b l c]),m8,m8,zo,zp,⟨⟩⟩ zq [(0,0),(1,1),(24,24),(288,288)] ro)))))))))))))))))))))))))))) (fun p1=>have p1f:=am p1;(.val 7 (Tu 32 32 0 (length r) 2) (Tu 32 32 0 (length (Tm (ff b l N s))) 2) m9 (.blk 0 0 (Tq [TL false n 1 (map dB b),zN (Rs.p c),zN (Rs.e c)] 88 false) (Tq [TL false n 1 (map dB b),zN (Rs.p (Ty (ff b l N s))),zN (Rs.e (Ty (ff b l N s)))] 88 false) m9 (.blk 32 32 (Tq (flatMap b8 r) 150 true) (Tq (flatMap b8 (Tm (ff b l N s))) 150 true) m9 (Hn.last last1 0 (⟨m9,m9,m9,⟨⟩⟩:(hc2:ba n (ff b l N s).1)×'(hr3:(ff b l N s).2.length≤N)×'(hB2:∀i,((ff b l N s).2.getD i mb).x≤1000000∧((ff b l N s).2.getD i mb).s≤1000000)×'Unit) rfl [(0,0),(1,1),(24,24),(32,32)] ro)))))))) (fun p0 p0f=>(.s 10 (.val 7 (Tu 32 32 0 (length r) 2) (Tu 32 32 0 (length (Tm (ff b l N s))) 2) m9 (.blk 0 0 (Tq [TL false n 1 (map dB b),zN (Rs.p c),zN (Rs.e c)] 88 false) (Tq [TL false n 1 (map dB b),zN (Rs.p (Ty (ff b l N s))),zN (Rs.e (Ty (ff b l N s)))] 88 false) m9 (.blk 32 32 (Tq (flatMap b8 r) 150 true) (Tq (flatMap b8 (Tm (ff b l N s))) 150 true) m9 (Hn.last last1 0 (⟨m9,m9,m9,⟨⟩⟩:(hc2:ba n (ff b l N s).1)×'(hr3:(ff b l N s).2.length≤N)×'(hB2:∀i,((ff b l N s).2.getD i mb).x≤1000000∧((ff b l N s).2.getD i mb).s≤1000000)×'Unit) rfl [(0,0),(1,1),(24,24),(32,32)] ro))))))))) (fun|⟨c,hc,many,hm,r,hr,hr2,hB,hR,_⟩=>by kernel_rfl) ⟨(s),om,(0),om,([]),(by(simp;done)),(by(simp;done)),(by(exact I0)),(by(exact(n9 b l N s).symm)),⟨⟩⟩ [(0,0),(1,1),(2,2),(34,34)] ro (bY (fun|⟨hc2,hr3,hB2,_⟩=>(.s 3 (.call 108 false [] (true&&(true&&Tz (0+length (Tm (ff b l N s))*2) (length (flatMap b8 (Tm (ff b l N s))))&&true&&af (bif true&&Tx (length (Tm (ff b l N s))*2) (length (flatMap b8 (Tm (ff b l N s))))then flatMap b8 (Tm (ff b l N s))else take (length (Tm (ff b l N s))*2) (drop 0 (flatMap b8 (Tm (ff b l N s))))))&&true) (by(rw[a9 (k:=2) (fun _=>rfl)];simp;done)) ([TL (Tz 1 (length (Tm (ff b l N s)))) (length (Tm (ff b l N s))) 2 (bif true&&Tx (length (Tm (ff b l N s))*2) (length (flatMap b8 (Tm (ff b l N s))))then flatMap b8 (Tm (ff b l N s))else take (length (Tm (ff b l N s))*2) (drop 0 (flatMap b8 (Tm (ff b l N s))))),zN N]) _ (by exact(Ut (D.sim.slw rfl (cn (by(rw[a9 (k:=2) (fun _=>rfl)];simp;done))|>.trans rfl)) (qr trivial))) (true) wr _ _ _ (TW (az.of Try.func108 rfl rfl) (@LP (Tm (ff b l N s)) (length (Tm (ff b l N s))) om om (N) om om)) (.s 12 (.cl 54 true [0] (.fn i5 (@bV (b) (n) om om (Ty (ff b l N s)) ((↑(Tm (cq N (Tm (ff b l N s)))):Int)==0) (132) om)) (.s 2 (.out [0,1,56] [0,1,56] (Tu 2 2 0 (length (Ty (cq N (Tm (ff b l N s))))) 1) [Tq [TL false n 1 (map dB b),zN (Rs.p (fl (Ty (ff b l N s)) ((↑(Tm (cq N (Tm (ff b l N s)))):Int)==0) 132)),zN (Rs.e (fl (Ty (ff b l N s)) ((↑(Tm (cq N (Tm (ff b l N s)))):Int)==0) 132))] 88 false,Tq (map nD (ab l)) 3 true,Tq (map dB (Ty (cq N (Tm (ff b l N s))))) 5 true] R (ok _ _ (by exact rfl) (by exact rfl)))))))))))))) kr
end Vp
end Go.Proofs.Ytefjnofhgkjpmaa
namespace Go.Proofs.Ytefjnofhgkjpmaa
open Go.RowKit Go.Bw Go.Vx
open List (length getD map take drop flatMap replicate)
namespace Vp
theorem D0 {p:Prop}(h:p:=by(refine A0 z4 ?_;rw[XH];simp;omega)):p:=h
theorem D1 {p:Prop}(h:p:=by(have h9:=rm i;have h8:=eE b s4 i;have h7:=bH b 3 (cK b s4 i);omega)):p:=h
theorem D2 {p:Prop}(h:p:=by(refine decide_eq_true ?_;have h9:=rm i;have h8:=eE b s4 i;have h7:=bH b 3 (cK b s4 i);omega)):p:=h
theorem D3 {p:Prop}(h:p:=by(simp only[Ub,TH,eE];refine Tv ?_;have h9:=rm i;omega)):p:=h
theorem D4 {p:Prop}(h:p:=by(refine aT ?_;(omega))):p:=h
theorem D5 {p:Prop}(h:p:=by(refine ay (Eb (by simp only[TZ,T0]) ?_);first|exact Ed _ _|exact Ee _ _)):p:=h
theorem D6 {p:Prop}(h:p:=by show h+4-(i+1)<h+4-i;clear next1 last1;omega):p:=h
theorem D7 {p:Prop}(h:p:=by(rw[show i=h+4 from by(omega),z5])):p:=h
theorem D8 {p:Prop}(h:p:=by(rw[show i=h+4 from by(omega),x5])):p:=h
theorem D9 {p:Prop}(h:p:=by exact(qr (qr (qr trivial)))):p:=h
theorem Gh {p:Prop}(h:p:=by exact(Ut (D.sim.slw rfl ((cO (o) (0) (zK ((g:Int)+257)*1)).trans (by(simp;done)))) (qr trivial))):p:=h
theorem kS (b:List UInt8)(n:Nat)(hn:n=b.length)(hN:n≤1000000)(s:Rs)(hs:ba n s)(x:Nat)(z:Rs)(hx:aV b 1 s=x)(hz:bp b 1 s=z):S1 53 [.ptr 0 0 0,iD 1] [⟨[.sl false n 1 (b.map dB),nD (s).p,nD (s).e], 88,false⟩] (nD x) [⟨[.sl false n 1 (b.map dB),nD (z).p,nD (z).e], 88,false⟩]:=by
 subst hx hz;exact eD b n hn hN s hs 1 (by decide)
theorem kT (b:List UInt8)(n:Nat)(hn:n=b.length)(hN:n≤1000000)(s:Rs)(hs:ba n s)(x:Nat)(z:Rs)(hx:aV b 2 s=x)(hz:bp b 2 s=z):S1 53 [.ptr 0 0 0,iD 2] [⟨[.sl false n 1 (b.map dB),nD (s).p,nD (s).e], 88,false⟩] (nD x) [⟨[.sl false n 1 (b.map dB),nD (z).p,nD (z).e], 88,false⟩]:=by
 subst hx hz;exact eD b n hn hN s hs 2 (by decide)
theorem xe (b:List UInt8)(n:Nat)(hn:n=b.length)(hN:n≤1000000)(s:Rs)(hs:ba n s)(x:Nat)(z:Rs)(hx:aV b 4 s=x)(hz:bp b 4 s=z):S1 53 [.ptr 0 0 0,iD 4] [⟨[.sl false n 1 (b.map dB),nD (s).p,nD (s).e], 88,false⟩] (nD x) [⟨[.sl false n 1 (b.map dB),nD (z).p,nD (z).e], 88,false⟩]:=by
 subst hx hz;exact eD b n hn hN s hs 4 (by decide)
theorem nA (b:List UInt8)(n:Nat)(hn:n=b.length)(hN:n≤1000000)(s:Rs)(hs:ba n s)(x:Nat)(z:Rs)(hx:aV b 5 s=x)(hz:bp b 5 s=z):S1 53 [.ptr 0 0 0,iD 5] [⟨[.sl false n 1 (b.map dB),nD (s).p,nD (s).e], 88,false⟩] (nD x) [⟨[.sl false n 1 (b.map dB),nD (z).p,nD (z).e], 88,false⟩]:=by
 subst hx hz;exact eD b n hn hN s hs 5 (by decide)
theorem tR (b:List UInt8)(n:Nat)(hn:n=b.length)(hN:n≤1000000)(s:Rs)(hs:ba n s)(x:Nat)(z:Rs)(hx:aV b 16 s=x)(hz:bp b 16 s=z):S1 53 [.ptr 0 0 0,iD 16] [⟨[.sl false n 1 (b.map dB),nD (s).p,nD (s).e], 88,false⟩] (nD x) [⟨[.sl false n 1 (b.map dB),nD (z).p,nD (z).e], 88,false⟩]:=by
 subst hx hz;exact eD b n hn hN s hs 16 (by decide)
structure FlE (s:Rs)(c:Bool)(x:Nat)(z:Rs):Prop where
 h:fl s c x=z
theorem gU (b:List UInt8)(n:Nat)(hn:n=b.length)(hN:n≤1000000)(s:Rs)(c:Bool)(z:Rs)(hz:FlE s c 130 z):S1 54 [.ptr 0 0 0,bD c,iD 130] [⟨[.sl false n 1 (b.map dB),nD (s).p,nD (s).e], 88,false⟩] (.tup []) [⟨[.sl false n 1 (b.map dB),nD (z).p,nD (z).e], 88,false⟩]:=by
 have hz:=hz.h;subst hz;exact bV b n hn hN s c 130 (by decide)
theorem zr (b:List UInt8)(n:Nat)(hn:n=b.length)(hN:n≤1000000)(s:Rs)(c:Bool)(z:Rs)(hz:FlE s c 131 z):S1 54 [.ptr 0 0 0,bD c,iD 131] [⟨[.sl false n 1 (b.map dB),nD (s).p,nD (s).e], 88,false⟩] (.tup []) [⟨[.sl false n 1 (b.map dB),nD (z).p,nD (z).e], 88,false⟩]:=by
 have hz:=hz.h;subst hz;exact bV b n hn hN s c 131 (by decide)
theorem eg (b:List UInt8)(n:Nat)(hn:n=b.length)(hN:n≤1000000)(s:Rs)(c:Bool)(z:Rs)(hz:FlE s c 132 z):S1 54 [.ptr 0 0 0,bD c,iD 132] [⟨[.sl false n 1 (b.map dB),nD (s).p,nD (s).e], 88,false⟩] (.tup []) [⟨[.sl false n 1 (b.map dB),nD (z).p,nD (z).e], 88,false⟩]:=by
 have hz:=hz.h;subst hz;exact bV b n hn hN s c 132 (by decide)
theorem nB (b:List UInt8)(n:Nat)(hn:n=b.length)(hN:n≤1000000)(s:Rs)(hs:ba n s)(o:List UInt8)(off k:Nat)(hk:off+k≤o.length)(hK:o.length≤1000000)(l:List UInt8)(hl:l=(o.drop off).take k)(t:List UInt8)(z:Rs)(ht:fF l 7=t)(hz:fl s (((aC l 7:Nat):Int)==0) 132=z):S1 55 [.ptr 0 0 0,.ref 1 1 off k 1,iD 7] [⟨[.sl false n 1 (b.map dB),nD (s).p,nD (s).e], 88,false⟩,⟨(o).map dB, 5,true⟩] (.agg (cZ (aa t)++[.ref 2 2 0 (ab t).length 1])) [⟨[.sl false n 1 (b.map dB),nD (z).p,nD (z).e], 88,false⟩,⟨(o).map dB, 5,true⟩,⟨(ab t).map nD, 3,true⟩]:=by
 subst ht hz;exact AZ b n hn hN s hs o off k hk hK l hl 7 (by decide)
theorem gV (b:List UInt8)(n:Nat)(hn:n=b.length)(hN:n≤1000000)(s:Rs)(hs:ba n s)(o:List UInt8)(off k:Nat)(hk:off+k≤o.length)(hK:o.length≤1000000)(l:List UInt8)(hl:l=(o.drop off).take k)(t:List UInt8)(z:Rs)(ht:fF l 15=t)(hz:fl s (((aC l 15:Nat):Int)==0) 132=z):S1 55 [.ptr 0 0 0,.ref 1 1 off k 1,iD 15] [⟨[.sl false n 1 (b.map dB),nD (s).p,nD (s).e], 88,false⟩,⟨(o).map dB, 5,true⟩] (.agg (cZ (aa t)++[.ref 2 2 0 (ab t).length 1])) [⟨[.sl false n 1 (b.map dB),nD (z).p,nD (z).e], 88,false⟩,⟨(o).map dB, 5,true⟩,⟨(ab t).map nD, 3,true⟩]:=by
 subst ht hz;exact AZ b n hn hN s hs o off k hk hK l hl 15 (by decide)
theorem Ea (b:List UInt8)(n:Nat)(hn:n=b.length)(hN:n≤1000000)(s:Rs)(hs:ba n s)(l:List UInt8)(hT:aC l 15=0)(hl:l.length≤19)(N:Nat)(Ni:Int)(o:List UInt8)(z:Rs)(ho:DW b l N s=o)(hz:vQ b l N s=z)(hNi:Ni=N)(hNN:N≤320):S1 85 [.ptr 0 0 0,.agg (cZ (aa l)++[.ref 1 1 0 (ab l).length 1]),iD Ni] [⟨[.sl false n 1 (b.map dB),nD (s).p,nD (s).e], 88,false⟩,⟨(ab l).map nD, 3,true⟩] (.ref 2 2 0 o.length 1) [⟨[.sl false n 1 (b.map dB),nD (z).p,nD (z).e], 88,false⟩,⟨(ab l).map nD, 3,true⟩,⟨(o).map dB, 5,true⟩]:=by
 subst hz ho hNi;exact LY b n hn hN s hs l hT hl N hNN
theorem Gi (l:List UInt8)(n:Nat)(hn:n=l.length)(hN:n≤1000000)(L:List UInt8)(hl:l=L):S0 86 [.sl false n 1 (l.map dB),iD 15] [] (nD (aC L 15)) []:=by
 subst hl;exact IT l n hn hN 15 (by decide)
def tS:List Nat:=[16,17,18,0,8,7,9,6,10,5,11,4,12,3,13,2,14,1,15]
def cz (i:Nat):Nat:=tS.getD i 0
def cK (b:List UInt8)(s:Rs):Nat→Rs
 |0=>s
 |i+1=>bp b 3 (cK b s i)
def gW (b:List UInt8)(s:Rs):Nat→List UInt8
 |0=>TK 19 0
 |i+1=>(gW b s i).set (cz i) (Um (aV b 3 (cK b s i)))
theorem eE (b:List UInt8)(s:Rs):∀i,(gW b s i).length=19
 |0=>rfl
 |i+1=>by rw[gW,VG];exact eE b s i
theorem ba.rw {b:List UInt8}{s:Rs}(h:ba b.length s):∀i,ba b.length (cK b s i)
 |0=>h
 |i+1=>(ba.rw h i).tk 3
theorem rm (i:Nat):cz i<19:=by
 unfold cz
 rcases T5 i 19 with h|h
 ·have:∀j:Fin 19,tS.getD j.1 0<19:=by decide
  exact this ⟨i,h⟩
 ·rw[To,TY (by exact h)];decide
theorem I1 (i:Nat)(h:i<19):(tS.map nD)[i]? =some (nD (cz i)):=by
 unfold cz
 rw[TN,To,Ts (by exact h)];rfl
theorem xf (i:Nat)(h:i<19):(tS.map nD)[0+i*1]? =some (nD (cz i)):=by rw[TZ,T0];exact I1 i h
theorem Eb {b:List UInt8}{s:Rs}{i o:Nat}{d:D}(ho:o=cz i)(hd:d=dB (Um (aV b 3 (cK b s i)))):aj ((gW b s i).map dB) o [d]=(gW b s (i+1)).map dB:=by
 have h1:=rm i
 have h2:=eE b s i
 subst ho hd
 apply Uu
 intro j
 rw[ci (by simp only[TH,Ud];omega),Ud,gW,TN,TN,U3]
 by_cases h:j=cz i
 ·subst h
  rw[if_pos ⟨TD _,by omega⟩,if_pos rfl,if_pos (by omega),UJ];rfl
 ·rw[if_neg (by omega),if_neg (fun q=>h q.symm)]
structure DyA (b:List UInt8)(s:Rs)(g f h:Nat)(s1 s2 s3 s4 s5 s6 s7 s8:Rs)(W t:List UInt8)(N:Nat)(o:List UInt8):Prop where
 x1:aV b 5 s=g
 z1:bp b 5 s=s1
 x2:aV b 5 s1=f
 z2:bp b 5 s1=s2
 x3:aV b 4 s2=h
 z3:bp b 4 s2=s3
 z4:fl s3 (decide (g+257≤286)&&decide (f+1≤30)) 132=s4
 z5:cK b s4 (h+4)=s5
 x5:gW b s4 (h+4)=W
 x6:fF W 7=t
 z6:fl s5 (((aC W 7:Nat):Int)==0) 132=s6
 z7:FlE s6 (decide ((1:Int)<(((ab t).length:Nat):Int))) 132 s7
 eN:N=g+257+(f+1)
 x8:DW b t N s7=o
 z8:vQ b t N s7=s8
theorem tT (n:Nat):∀(l:List Rn) (o:List UInt8),(ck n l o).2=0→(ck n l o).1.length=n
 |[],o,h=>by
  rw[ck]at *;split
  ·next q=>exact q
  ·next q=>rw[if_neg q]at h;cases h
 |r::q,o,h=>by
  rw[ck]at *
  split
  ·next q=>rw[if_pos q]at h;cases h
  ·next h1=>
   rw[if_neg h1]at h
   split
   ·next q=>rw[if_pos q]at h;cases h
   ·next h2=>
    rw[if_neg h2]at h
    split
    ·next q=>rw[if_pos q]at h;cases h
    ·next h3=>rw[if_neg h3]at h;exact tT n q _ h
theorem Ec {b t:List UInt8}{N:Nat}{s:Rs}(h:(vQ b t N s).e=0):(DW b t N s).length=N:=by
 unfold vQ at h
 have h1:=vJ (by decide) h
 have h2:(cq N (ff b t N s).2).2=0:=by have:=h1.2.1;simpa using this
 unfold DW;rw[iJ]at *;exact tT _ _ _ h2
theorem Ed (b:List UInt8)(s:Rs):D.v (.int .u8 (((aV b 3 s:Nat):Int)%256))=dB (Um (aV b 3 s)):=by
 unfold dB;rw[U6];rfl
theorem Ee (b:List UInt8)(s:Rs):D.v (.int .u8 ((aV b 3 s:Nat):Int))=dB (Um (aV b 3 s)):=by
 have h:=bH b 3 s
 unfold dB;rw[U6,UZ (by omega)]
theorem A0 {a:D}{S Z:Rs}{c d:Bool}{t:TypeId}{r:Bool}(h:fl S d 132=Z)(hc:c=d):(⟨[a,nD (fl S c 132).p,nD (fl S c 132).e],t,r⟩:Blk)=⟨[a,nD Z.p,nD Z.e],t,r⟩:=by rw[hc,h]
theorem LZ (b:List UInt8)(n:Nat)(hn:n=b.length)(hN:n≤1000000)(s:Rs)(hs:ba n s)(kd le:Nat)(la:Bool)(g f h:Nat)(s1 s2 s3 s4 s5 s6 s7 s8:Rs)(W t:List UInt8)(N:Nat)(o:List UInt8)(D:DyA b s g f h s1 s2 s3 s4 s5 s6 s7 s8 W t N o)(he:s8.e≠0):S1 56 [.ptr 0 0 0,.ptr 1 1 0] [⟨[.sl false n 1 (b.map dB),nD (s).p,nD (s).e], 88,false⟩,⟨[dG kd,bD la,nD le]++eT++eT, 45,false⟩] (.tup []) [⟨[.sl false n 1 (b.map dB),nD (s8).p,nD (s8).e], 88,false⟩,⟨[dG kd,bD la,nD le]++eT++eT, 45,false⟩]:=by
 obtain⟨x1,z1,x2,z2,x3,z3,z4,z5,x5,x6,z6,z7,eN,x8,z8⟩:=D
 have hg:g<32:=by rw[←x1];exact bH b 5 s
 have hf:f<32:=by rw[←x2];exact bH b 5 s1
 have hh:h<16:=by rw[←x3];exact bH b 4 s2
 have r1:ba n s1:=by rw[←z1];subst hn;exact hs.tk _
 have r2:ba n s2:=by rw[←z2];subst hn;exact r1.tk _
 have r3:ba n s3:=by rw[←z3];subst hn;exact r2.tk _
 have r4:ba n s4:=by rw[←z4];exact r3.fl _ _
 have r5:ba n s5:=by rw[←z5];subst hn;exact r4.rw _
 have r6:ba n s6:=by rw[←z6];exact r5.fl _ _
 have r7:ba n s7:=by rw[←z7.h];exact r6.fl _ _
 have hW:W.length=19:=by rw[←x5];exact eE _ _ _
 have hT:aC t 15=0:=by rw[←x6];exact ri W (by decide)
 have hl:t.length≤19:=by
  rw[←x6]
  by_cases q:aC W 7=0
  ·rw[kR q];omega
  ·rw[xd q];exact T7 _
 have hWl:W=(W.drop 0).take 19:=by rw[U4,T9 (by omega)]
 have r4i:∀i,ba n (cK b s4 i):=fun i=>by subst hn;exact r4.rw i
 refine SpecH.run T_ok ai Try.func56 rfl rfl rfl ⟨rfl,rfl,trivial⟩ rfl 1000 64 (fun R ok=>(.s 2 (.cl 53 true [0] (.fn mh (@nA (b) (n) om om (s) om (g) (s1) aD aD)) (.s 2 (.ow ((g:Int)+257) (.s 2 (.cl 53 true [0] (.fn mh (@nA (b) (n) om om (s1) om (f) (s2) aD aD)) (.s 2 (.ow ((f:Int)+1) (.s 2 (.cl 53 true [0] (.fn mh (@xe (b) (n) om om (s2) om (h) (s3) aD aD)) (.s 2 (.ow ((h:Int)+4) (.s 9 (.bd ((g:Int)+257≤286) (fun p0 p0f=>(.s 5 (.cl 54 true [0] (.fn i5 (@bV (b) (n) om om (s3) (decide ((f:Int)+1≤30)) (132) om)) (.s 4 (.cl 79 false [] (.fn NU (@lr)) (.s 7 (.chk (aZ none (some ((h:Int)+4)) none 19&&true&&true&&true) (by(simp <;>(omega))) (.s 2 (.blk 0 0 (Tq [TL false n 1 (map dB b),zN (Rs.p (fl s3 (decide ((f:Int)+1≤30)) 132)),zN (Rs.e (fl s3 (decide ((f:Int)+1≤30)) 132))] 88 false) (Tq [TL false n 1 (map dB b),zN (Rs.p (cK b s4 0)),zN (Rs.e (cK b s4 0))] 88 false) D0 (Hn.inl T_ok ai false 95 2 (ap Try.prog 56 0) (fun(x:(i:Nat)×'(hi:i≤h+4)×'Unit)=>match x with|⟨i,hi,_⟩=>TJ [(0,TF 0 0 0),(1,TF 1 1 0),(4,zI ((g:Int)+257)),(5,zI ((f:Int)+1)),(7,Tu 24 24 0 19 1),(33,Tu 32 32 0 (zK ((h:Int)+4)) 1),(34,zN (zK ((h:Int)+4))),(35,nD i)] [⟨0,0,0,0,.b ⟨[.sl false n 1 (b.map dB),nD (cK b s4 i).p,nD (cK b s4 i).e],88,false⟩⟩,⟨1,1,1,1,.b ⟨[aQ kd,D.v (.bool la),zN le,zI 0,zI 0,zI 0,zI 0,zI 0,zI 0,zI 0,zI 0,zI 0,zI 0,zI 0,zI 0,zI 0,zI 0,zI 0,zI 0,zS,zI 0,zI 0,zI 0,zI 0,zI 0,zI 0,zI 0,zI 0,zI 0,zI 0,zI 0,zI 0,zI 0,zI 0,zI 0,zI 0,zS],45,false⟩⟩,⟨24,24,162,162,.b ⟨(gW b s4 i).map dB,5,true⟩⟩,⟨32,32,186,186,.b ⟨[zI 16,zI 17,zI 18,zI 0,zI 8,zI 7,zI 9,zI 6,zI 10,zI 5,zI 11,zI 4,zI 12,zI 3,zI 13,zI 2,zI 14,zI 1,zI 15],148,false⟩⟩] 40) (fun(x:(i:Nat)×'(hi:i≤h+4)×'Unit)=>match x with|⟨i,hi,_⟩=>h+4-i) [⟨Unit,.exit 0,fun x=>match x with|()=>TJ [(0,TF 0 0 0),(1,TF 1 1 0),(4,zI ((g:Int)+257)),(5,zI ((f:Int)+1)),(7,Tu 24 24 0 19 1),(33,Tu 32 32 0 (zK ((h:Int)+4)) 1),(34,zN (zK ((h:Int)+4)))] [⟨0,0,0,0,.b ⟨[.sl false n 1 (b.map dB),nD (s5).p,nD (s5).e],88,false⟩⟩,⟨1,1,1,1,.b ⟨[aQ kd,D.v (.bool la),zN le,zI 0,zI 0,zI 0,zI 0,zI 0,zI 0,zI 0,zI 0,zI 0,zI 0,zI 0,zI 0,zI 0,zI 0,zI 0,zI 0,zS,zI 0,zI 0,zI 0,zI 0,zI 0,zI 0,zI 0,zI 0,zI 0,zI 0,zI 0,zI 0,zI 0,zI 0,zI 0,zI 0,zS],45,false⟩⟩,⟨24,24,162,162,.b ⟨W.map dB,5,true⟩⟩,⟨32,32,186,186,.b ⟨[zI 16,zI 17,zI 18,zI 0,zI 8,zI 7,zI 9,zI 6,zI 10,zI 5,zI 11,zI 4,zI 12,zI 3,zI 13,zI 2,zI 14,zI 1,zI 15],148,false⟩⟩] 40⟩] 1000 64 (fun|⟨i,hi,_⟩,Q,next1,last1=>(.s 2 (.bd ((i:Int)<(↑(zK ((h:Int)+4)):Int)) (fun p1 p1f=>(.s 1 (.chk (true&&decide ((i:Int)<(↑(zK ((h:Int)+4)):Int))) aD (.s 2 (.opt ((map nD tS)[0+i*1]?) (nD (cz i)) (@xf i om) (.s 5 (.cl 53 true [0] (.fn mh (@eD (b) (n) om om (cK b s4 i) (by(exact r4i _)) (3) om)) (.s 1 (.opt (ar .u8 (↑(aV b 3 (cK b s4 i)):Int)) (aQ (aV b 3 (cK b s4 i))) (bB D1) (.s 1 (.chk (true&&decide ((↑(cz i):Int)<(↑19:Int))) D2 (.s 1 (.chk (true&&Tz (0+cz i*1+1) (length (map dB (gW b s4 i)))) D3 (.lst (aj (map dB (gW b s4 i)) (0+cz i*1) [aQ (aV b 3 (cK b s4 i))]) (aj (map dB (gW b s4 i)) (cz i) [aQ (aV b 3 (cK b s4 i))]) (by(simp;done)) (.s 2 (.ow ((i:Int)+1) (.s 1 (.val 35 (zI ((i:Int)+1)) (zN (i+1)) D4 (.blk 0 0 (Tq [TL false n 1 (map dB b),zN (Rs.p (bp b 3 (cK b s4 i))),zN (Rs.e (bp b 3 (cK b s4 i)))] 88 false) (Tq [TL false n 1 (map dB b),zN (Rs.p (cK b s4 (i+1))),zN (Rs.e (cK b s4 (i+1)))] 88 false) (by exact rfl) (.blk 24 24 (Tq (aj (map dB (gW b s4 i)) (cz i) [aQ (aV b 3 (cK b s4 i))]) 5 true) (Tq (map dB (gW b s4 (i+1))) 5 true) D5 (Hn.next next1 ⟨(i+1),om,⟨⟩⟩ D6 [(0,0),(1,1),(24,24),(32,32)] ro))))))))))))))))))))) (fun p1 p1f=>(.blk 0 0 (Tq [TL false n 1 (map dB b),zN (Rs.p (cK b s4 i)),zN (Rs.e (cK b s4 i))] 88 false) (Tq [TL false n 1 (map dB b),zN (Rs.p s5),zN (Rs.e s5)] 88 false) D7 (.blk 24 24 (Tq (map dB (gW b s4 i)) 5 true) (Tq (map dB W) 5 true) D8 (Hn.last last1 0 (():Unit) rfl [(0,0),(1,1),(24,24),(32,32)] ro))))))) (fun|⟨i,hi,_⟩=>by kernel_rfl) ⟨(0),om,⟨⟩⟩ [(0,0),(1,1),(162,162),(186,186)] ro (bY (fun|()=>(.s 3 (.call 55 true [0,24] (true) wr ([TF 0 0 0,Tu 1 1 0 19 1,zI 7]) _ (cj.refl _) (true&&(af (map dB W)&&true)) (by(simp;done)) _ _ _ (TW (az.of Try.func55 rfl rfl) (@nB (b) (n) om om (s5) om (W) (0) (19) om om (W) aD (t) (s6) aD aD)) (.s 16 (.cl 54 true [0] (.fn i5 (@eg (b) (n) om om (s6) (decide (1<(↑(length (ab t)):Int))) (s7) aD)) (.s 9 (.ow ((g:Int)+257+(f+1)) (.s 1 (.call 85 true [0,56] (true) wr ([TF 0 0 0,UA [zN (aa t 0),zN (aa t 1),zN (aa t 2),zN (aa t 3),zN (aa t 4),zN (aa t 5),zN (aa t 6),zN (aa t 7),zN (aa t 8),zN (aa t 9),zN (aa t 10),zN (aa t 11),zN (aa t 12),zN (aa t 13),zN (aa t 14),zN (aa t 15),Tu 1 1 0 (length (ab t)) 1],zI ((g:Int)+257+(f+1))]) _ D9 (true&&(af (map nD (ab t))&&true)) (by(simp;done)) _ _ _ (TW (az.of Try.func85 rfl rfl) (@Ea (b) (n) om om (s7) om (t) om om (N) ((g:Int)+257+(f+1)) (o) (s8) aD aD om om)) (.s 11 (.t ((↑(Rs.e s8):Int) !=0) (by(simp <;>(omega))) (.out [0,1] [0,1] (Uw []) [Tq [TL false n 1 (map dB b),zN (Rs.p s8),zN (Rs.e s8)] 88 false,Tq [aQ kd,D.v (.bool la),zN le,zI 0,zI 0,zI 0,zI 0,zI 0,zI 0,zI 0,zI 0,zI 0,zI 0,zI 0,zI 0,zI 0,zI 0,zI 0,zI 0,zS,zI 0,zI 0,zI 0,zI 0,zI 0,zI 0,zI 0,zI 0,zI 0,zI 0,zI 0,zI 0,zI 0,zI 0,zI 0,zI 0,zS] 45 false] R (ok _ _ wr (by exact rfl))))))))))))))))))))))))) (fun p0 p0f=>(.s 4 (.cl 54 true [0] (.fn i5 (@bV (b) (n) om om (s3) (false) (132) om)) (.s 4 (.cl 79 false [] (.fn NU (@lr)) (.s 7 (.chk (aZ none (some ((h:Int)+4)) none 19&&true&&true&&true) (by(simp <;>(omega))) (.s 2 (.blk 0 0 (Tq [TL false n 1 (map dB b),zN (Rs.p (fl s3 false 132)),zN (Rs.e (fl s3 false 132))] 88 false) (Tq [TL false n 1 (map dB b),zN (Rs.p (cK b s4 0)),zN (Rs.e (cK b s4 0))] 88 false) D0 (Hn.inl T_ok ai false 95 2 (ap Try.prog 56 0) (fun(x:(i:Nat)×'(hi:i≤h+4)×'Unit)=>match x with|⟨i,hi,_⟩=>TJ [(0,TF 0 0 0),(1,TF 1 1 0),(4,zI ((g:Int)+257)),(5,zI ((f:Int)+1)),(7,Tu 24 24 0 19 1),(33,Tu 32 32 0 (zK ((h:Int)+4)) 1),(34,zN (zK ((h:Int)+4))),(35,nD i)] [⟨0,0,0,0,.b ⟨[.sl false n 1 (b.map dB),nD (cK b s4 i).p,nD (cK b s4 i).e],88,false⟩⟩,⟨1,1,1,1,.b ⟨[aQ kd,D.v (.bool la),zN le,zI 0,zI 0,zI 0,zI 0,zI 0,zI 0,zI 0,zI 0,zI 0,zI 0,zI 0,zI 0,zI 0,zI 0,zI 0,zI 0,zS,zI 0,zI 0,zI 0,zI 0,zI 0,zI 0,zI 0,zI 0,zI 0,zI 0,zI 0,zI 0,zI 0,zI 0,zI 0,zI 0,zS],45,false⟩⟩,⟨24,24,162,162,.b ⟨(gW b s4 i).map dB,5,true⟩⟩,⟨32,32,186,186,.b ⟨[zI 16,zI 17,zI 18,zI 0,zI 8,zI 7,zI 9,zI 6,zI 10,zI 5,zI 11,zI 4,zI 12,zI 3,zI 13,zI 2,zI 14,zI 1,zI 15],148,false⟩⟩] 40) (fun(x:(i:Nat)×'(hi:i≤h+4)×'Unit)=>match x with|⟨i,hi,_⟩=>h+4-i) [⟨Unit,.exit 0,fun x=>match x with|()=>TJ [(0,TF 0 0 0),(1,TF 1 1 0),(4,zI ((g:Int)+257)),(5,zI ((f:Int)+1)),(7,Tu 24 24 0 19 1),(33,Tu 32 32 0 (zK ((h:Int)+4)) 1),(34,zN (zK ((h:Int)+4)))] [⟨0,0,0,0,.b ⟨[.sl false n 1 (b.map dB),nD (s5).p,nD (s5).e],88,false⟩⟩,⟨1,1,1,1,.b ⟨[aQ kd,D.v (.bool la),zN le,zI 0,zI 0,zI 0,zI 0,zI 0,zI 0,zI 0,zI 0,zI 0,zI 0,zI 0,zI 0,zI 0,zI 0,zI 0,zI 0,zS,zI 0,zI 0,zI 0,zI 0,zI 0,zI 0,zI 0,zI 0,zI 0,zI 0,zI 0,zI 0,zI 0,zI 0,zI 0,zI 0,zS],45,false⟩⟩,⟨24,24,162,162,.b ⟨W.map dB,5,true⟩⟩,⟨32,32,186,186,.b ⟨[zI 16,zI 17,zI 18,zI 0,zI 8,zI 7,zI 9,zI 6,zI 10,zI 5,zI 11,zI 4,zI 12,zI 3,zI 13,zI 2,zI 14,zI 1,zI 15],148,false⟩⟩] 40⟩] 1000 64 (fun|⟨i,hi,_⟩,Q,next1,last1=>(.s 2 (.bd ((i:Int)<(↑(zK ((h:Int)+4)):Int)) (fun p2 p2f=>(.s 1 (.chk (true&&decide ((i:Int)<(↑(zK ((h:Int)+4)):Int))) aD (.s 2 (.opt ((map nD tS)[0+i*1]?) (nD (cz i)) (@xf i om) (.s 5 (.cl 53 true [0] (.fn mh (@eD (b) (n) om om (cK b s4 i) (by(exact r4i _)) (3) om)) (.s 1 (.opt (ar .u8 (↑(aV b 3 (cK b s4 i)):Int)) (aQ (aV b 3 (cK b s4 i))) (bB D1) (.s 1 (.chk (true&&decide ((↑(cz i):Int)<(↑19:Int))) D2 (.s 1 (.chk (true&&Tz (0+cz i*1+1) (length (map dB (gW b s4 i)))) D3 (.lst (aj (map dB (gW b s4 i)) (0+cz i*1) [aQ (aV b 3 (cK b s4 i))]) (aj (map dB (gW b s4 i)) (cz i) [aQ (aV b 3 (cK b s4 i))]) (by(simp;done)) (.s 2 (.ow ((i:Int)+1) (.s 1 (.val 35 (zI ((i:Int)+1)) (zN (i+1)) D4 (.blk 0 0 (Tq [TL false n 1 (map dB b),zN (Rs.p (bp b 3 (cK b s4 i))),zN (Rs.e (bp b 3 (cK b s4 i)))] 88 false) (Tq [TL false n 1 (map dB b),zN (Rs.p (cK b s4 (i+1))),zN (Rs.e (cK b s4 (i+1)))] 88 false) (by exact rfl) (.blk 24 24 (Tq (aj (map dB (gW b s4 i)) (cz i) [aQ (aV b 3 (cK b s4 i))]) 5 true) (Tq (map dB (gW b s4 (i+1))) 5 true) D5 (Hn.next next1 ⟨(i+1),om,⟨⟩⟩ D6 [(0,0),(1,1),(24,24),(32,32)] ro))))))))))))))))))))) (fun p2 p2f=>(.blk 0 0 (Tq [TL false n 1 (map dB b),zN (Rs.p (cK b s4 i)),zN (Rs.e (cK b s4 i))] 88 false) (Tq [TL false n 1 (map dB b),zN (Rs.p s5),zN (Rs.e s5)] 88 false) D7 (.blk 24 24 (Tq (map dB (gW b s4 i)) 5 true) (Tq (map dB W) 5 true) D8 (Hn.last last1 0 (():Unit) rfl [(0,0),(1,1),(24,24),(32,32)] ro))))))) (fun|⟨i,hi,_⟩=>by kernel_rfl) ⟨(0),om,⟨⟩⟩ [(0,0),(1,1),(162,162),(186,186)] ro (bY (fun|()=>(.s 3 (.call 55 true [0,24] (true) wr ([TF 0 0 0,Tu 1 1 0 19 1,zI 7]) _ (cj.refl _) (true&&(af (map dB W)&&true)) (by(simp;done)) _ _ _ (TW (az.of Try.func55 rfl rfl) (@nB (b) (n) om om (s5) om (W) (0) (19) om om (W) aD (t) (s6) aD aD)) (.s 16 (.cl 54 true [0] (.fn i5 (@eg (b) (n) om om (s6) (decide (1<(↑(length (ab t)):Int))) (s7) aD)) (.s 9 (.ow ((g:Int)+257+(f+1)) (.s 1 (.call 85 true [0,56] (true) wr ([TF 0 0 0,UA [zN (aa t 0),zN (aa t 1),zN (aa t 2),zN (aa t 3),zN (aa t 4),zN (aa t 5),zN (aa t 6),zN (aa t 7),zN (aa t 8),zN (aa t 9),zN (aa t 10),zN (aa t 11),zN (aa t 12),zN (aa t 13),zN (aa t 14),zN (aa t 15),Tu 1 1 0 (length (ab t)) 1],zI ((g:Int)+257+(f+1))]) _ D9 (true&&(af (map nD (ab t))&&true)) (by(simp;done)) _ _ _ (TW (az.of Try.func85 rfl rfl) (@Ea (b) (n) om om (s7) om (t) om om (N) ((g:Int)+257+(f+1)) (o) (s8) aD aD om om)) (.s 11 (.t ((↑(Rs.e s8):Int) !=0) (by(simp <;>(omega))) (.out [0,1] [0,1] (Uw []) [Tq [TL false n 1 (map dB b),zN (Rs.p s8),zN (Rs.e s8)] 88 false,Tq [aQ kd,D.v (.bool la),zN le,zI 0,zI 0,zI 0,zI 0,zI 0,zI 0,zI 0,zI 0,zI 0,zI 0,zI 0,zI 0,zI 0,zI 0,zI 0,zI 0,zS,zI 0,zI 0,zI 0,zI 0,zI 0,zI 0,zI 0,zI 0,zI 0,zI 0,zI 0,zI 0,zI 0,zI 0,zI 0,zI 0,zS] 45 false] R (ok _ _ wr (by exact rfl)))))))))))))))))))))))))))))))))))))))) kr
structure DyB (G N:Nat)(o:List UInt8)(s8 s9 s10 s11 s12:Rs)(L1 L2 t1 t2:List UInt8):Prop where
 h8:s8.e=0
 z9:FlE s8 (decide ((0:Int)<(((o.getD 256 mb).toNat:Nat):Int))) 132 s9
 y1:L1=(o.drop 0).take G
 y2:L2=(o.drop G).take (N-G)
 z10:FlE s9 (((aC L1 15:Nat):Int)==0) 132 s10
 z11:fl s10 (((aC L1 15:Nat):Int)==0) 132=s11
 z12:fl s11 (((aC L2 15:Nat):Int)==0) 132=s12
 w1:fF L1 15=t1
 w2:fF L2 15=t2
theorem Gj {o:List UInt8}{x y z w:Nat}(h:x=z)(h2:y=w):UP x (UQ y o)=UP z (UQ w o):=by rw[h,h2]
theorem A1 {b l:List UInt8}{N n:Nat}(hn:n=b.length):∀(k:Nat) (c:Rs) (many:Nat) (r:List Rn),ba n c→ba n (lnZF b l N k c many r).1
 |0,_,_,_,h=>h
 |k+1,c,many,r,h=>by
  rw[lnZF];split
  ·exact h
  ·exact A1 hn k _ _ _ (by subst hn;exact h.ln)
theorem A3 {b l:List UInt8}{N n:Nat}{s:Rs}(hn:n=b.length)(h:ba n s):ba n (vQ b l N s):=by
 unfold vQ;rw[n9];exact(A1 hn _ _ _ _ h).fl _ _
theorem L0 (b:List UInt8)(n:Nat)(hn:n=b.length)(hN:n≤1000000)(s:Rs)(hs:ba n s)(kd le:Nat)(la:Bool)(g f h:Nat)(s1 s2 s3 s4 s5 s6 s7 s8:Rs)(W t:List UInt8)(N:Nat)(o:List UInt8)(D:DyA b s g f h s1 s2 s3 s4 s5 s6 s7 s8 W t N o)(G:Nat)(eG:G=g+257)(s9 s10 s11 s12:Rs)(L1 L2 t1 t2:List UInt8)(Bh:DyB G N o s8 s9 s10 s11 s12 L1 L2 t1 t2):S1 56 [.ptr 0 0 0,.ptr 1 1 0] [⟨[.sl false n 1 (b.map dB),nD (s).p,nD (s).e], 88,false⟩,⟨[dG kd,bD la,nD le]++eT++eT, 45,false⟩] (.tup []) [⟨[.sl false n 1 (b.map dB),nD (s12).p,nD (s12).e], 88,false⟩,⟨[dG kd,bD la,nD le]++(cZ (aa t1)++[.ref 2 2 0 (ab t1).length 1])++(cZ (aa t2)++[.ref 3 3 0 (ab t2).length 1]), 45,false⟩,⟨(ab t1).map nD, 3,true⟩,⟨(ab t2).map nD, 3,true⟩]:=by
 obtain⟨x1,z1,x2,z2,x3,z3,z4,z5,x5,x6,z6,z7,eN,x8,z8⟩:=D
 have hg:g<32:=by rw[←x1];exact bH b 5 s
 have hf:f<32:=by rw[←x2];exact bH b 5 s1
 have hh:h<16:=by rw[←x3];exact bH b 4 s2
 have r1:ba n s1:=by rw[←z1];subst hn;exact hs.tk _
 have r2:ba n s2:=by rw[←z2];subst hn;exact r1.tk _
 have r3:ba n s3:=by rw[←z3];subst hn;exact r2.tk _
 have r4:ba n s4:=by rw[←z4];exact r3.fl _ _
 have r5:ba n s5:=by rw[←z5];subst hn;exact r4.rw _
 have r6:ba n s6:=by rw[←z6];exact r5.fl _ _
 have r7:ba n s7:=by rw[←z7.h];exact r6.fl _ _
 have hW:W.length=19:=by rw[←x5];exact eE _ _ _
 have hT:aC t 15=0:=by rw[←x6];exact ri W (by decide)
 have hl:t.length≤19:=by
  rw[←x6]
  by_cases q:aC W 7=0
  ·rw[kR q];omega
  ·rw[xd q];exact T7 _
 have hWl:W=(W.drop 0).take 19:=by rw[U4,T9 (by omega)]
 have r4i:∀i,ba n (cK b s4 i):=fun i=>by subst hn;exact r4.rw i
 obtain⟨h8,z9,y1,y2,z10,z11,z12,w1,w2⟩:=Bh
 have oN:o.length=N:=by rw[←x8];exact Ec (by rw[z8];exact h8)
 have r8:ba n s8:=by rw[←z8];exact A3 hn r7
 have r9:ba n s9:=by rw[←z9.h];exact r8.fl _ _
 have r10:ba n s10:=by rw[←z10.h];exact r9.fl _ _
 have r11:ba n s11:=by rw[←z11];exact r10.fl _ _
 have y3:o.take (zK ((g:Int)+257))=L1:=by rw[y1,U4,show zK ((g:Int)+257)=G from by omega]
 have y1':L1=UP (zK ((g:Int)+257)) (UQ 0 o):=y1.trans (Gj (by omega) (by omega))
 have y2':L2=UP (o.length-zK ((g:Int)+257)) (UQ (0+zK ((g:Int)+257)*1) o):=y2.trans (Gj (by omega) (by omega))
 refine SpecH.run T_ok ai Try.func56 rfl rfl rfl ⟨rfl,rfl,fa _,fa _,trivial⟩ rfl 1000 64 (fun R ok=>(.s 2 (.cl 53 true [0] (.fn mh (@nA (b) (n) om om (s) om (g) (s1) aD aD)) (.s 2 (.ow ((g:Int)+257) (.s 2 (.cl 53 true [0] (.fn mh (@nA (b) (n) om om (s1) om (f) (s2) aD aD)) (.s 2 (.ow ((f:Int)+1) (.s 2 (.cl 53 true [0] (.fn mh (@xe (b) (n) om om (s2) om (h) (s3) aD aD)) (.s 2 (.ow ((h:Int)+4) (.s 9 (.bd ((g:Int)+257≤286) (fun p0 p0f=>(.s 5 (.cl 54 true [0] (.fn i5 (@bV (b) (n) om om (s3) (decide ((f:Int)+1≤30)) (132) om)) (.s 4 (.cl 79 false [] (.fn NU (@lr)) (.s 7 (.chk (aZ none (some ((h:Int)+4)) none 19&&true&&true&&true) (by(simp <;>(omega))) (.s 2 (.blk 0 0 (Tq [TL false n 1 (map dB b),zN (Rs.p (fl s3 (decide ((f:Int)+1≤30)) 132)),zN (Rs.e (fl s3 (decide ((f:Int)+1≤30)) 132))] 88 false) (Tq [TL false n 1 (map dB b),zN (Rs.p (cK b s4 0)),zN (Rs.e (cK b s4 0))] 88 false) D0 (Hn.inl T_ok ai false 95 2 (ap Try.prog 56 0) (fun(x:(i:Nat)×'(hi:i≤h+4)×'Unit)=>match x with|⟨i,hi,_⟩=>TJ [(0,TF 0 0 0),(1,TF 1 1 0),(4,zI ((g:Int)+257)),(5,zI ((f:Int)+1)),(7,Tu 24 24 0 19 1),(33,Tu 32 32 0 (zK ((h:Int)+4)) 1),(34,zN (zK ((h:Int)+4))),(35,nD i)] [⟨0,0,0,0,.b ⟨[.sl false n 1 (b.map dB),nD (cK b s4 i).p,nD (cK b s4 i).e],88,false⟩⟩,⟨1,1,1,1,.b ⟨[aQ kd,D.v (.bool la),zN le,zI 0,zI 0,zI 0,zI 0,zI 0,zI 0,zI 0,zI 0,zI 0,zI 0,zI 0,zI 0,zI 0,zI 0,zI 0,zI 0,zS,zI 0,zI 0,zI 0,zI 0,zI 0,zI 0,zI 0,zI 0,zI 0,zI 0,zI 0,zI 0,zI 0,zI 0,zI 0,zI 0,zS],45,false⟩⟩,⟨24,24,162,162,.b ⟨(gW b s4 i).map dB,5,true⟩⟩,⟨32,32,186,186,.b ⟨[zI 16,zI 17,zI 18,zI 0,zI 8,zI 7,zI 9,zI 6,zI 10,zI 5,zI 11,zI 4,zI 12,zI 3,zI 13,zI 2,zI 14,zI 1,zI 15],148,false⟩⟩] 40) (fun(x:(i:Nat)×'(hi:i≤h+4)×'Unit)=>match x with|⟨i,hi,_⟩=>h+4-i) [⟨Unit,.exit 0,fun x=>match x with|()=>TJ [(0,TF 0 0 0),(1,TF 1 1 0),(4,zI ((g:Int)+257)),(5,zI ((f:Int)+1)),(7,Tu 24 24 0 19 1),(33,Tu 32 32 0 (zK ((h:Int)+4)) 1),(34,zN (zK ((h:Int)+4)))] [⟨0,0,0,0,.b ⟨[.sl false n 1 (b.map dB),nD (s5).p,nD (s5).e],88,false⟩⟩,⟨1,1,1,1,.b ⟨[aQ kd,D.v (.bool la),zN le,zI 0,zI 0,zI 0,zI 0,zI 0,zI 0,zI 0,zI 0,zI 0,zI 0,zI 0,zI 0,zI 0,zI 0,zI 0,zI 0,zS,zI 0,zI 0,zI 0,zI 0,zI 0,zI 0,zI 0,zI 0,zI 0,zI 0,zI 0,zI 0,zI 0,zI 0,zI 0,zI 0,zS],45,false⟩⟩,⟨24,24,162,162,.b ⟨W.map dB,5,true⟩⟩,⟨32,32,186,186,.b ⟨[zI 16,zI 17,zI 18,zI 0,zI 8,zI 7,zI 9,zI 6,zI 10,zI 5,zI 11,zI 4,zI 12,zI 3,zI 13,zI 2,zI 14,zI 1,zI 15],148,false⟩⟩] 40⟩] 1000 64 (fun|⟨i,hi,_⟩,Q,next1,last1=>(.s 2 (.bd ((i:Int)<(↑(zK ((h:Int)+4)):Int)) (fun p1 p1f=>(.s 1 (.chk (true&&decide ((i:Int)<(↑(zK ((h:Int)+4)):Int))) aD (.s 2 (.opt ((map nD tS)[0+i*1]?) (nD (cz i)) (@xf i om) (.s 5 (.cl 53 true [0] (.fn mh (@eD (b) (n) om om (cK b s4 i) (by(exact r4i _)) (3) om)) (.s 1 (.opt (ar .u8 (↑(aV b 3 (cK b s4 i)):Int)) (aQ (aV b 3 (cK b s4 i))) (bB D1) (.s 1 (.chk (true&&decide ((↑(cz i):Int)<(↑19:Int))) D2 (.s 1 (.chk (true&&Tz (0+cz i*1+1) (length (map dB (gW b s4 i)))) D3 (.lst (aj (map dB (gW b s4 i)) (0+cz i*1) [aQ (aV b 3 (cK b s4 i))]) (aj (map dB (gW b s4 i)) (cz i) [aQ (aV b 3 (cK b s4 i))]) (by(simp;done)) (.s 2 (.ow ((i:Int)+1) (.s 1 (.val 35 (zI ((i:Int)+1)) (zN (i+1)) D4 (.blk 0 0 (Tq [TL false n 1 (map dB b),zN (Rs.p (bp b 3 (cK b s4 i))),zN (Rs.e (bp b 3 (cK b s4 i)))] 88 false) (Tq [TL false n 1 (map dB b),zN (Rs.p (cK b s4 (i+1))),zN (Rs.e (cK b s4 (i+1)))] 88 false) (by exact rfl) (.blk 24 24 (Tq (aj (map dB (gW b s4 i)) (cz i) [aQ (aV b 3 (cK b s4 i))]) 5 true) (Tq (map dB (gW b s4 (i+1))) 5 true) D5 (Hn.next next1 ⟨(i+1),om,⟨⟩⟩ D6 [(0,0),(1,1),(24,24),(32,32)] ro))))))))))))))))))))) (fun p1 p1f=>(.blk 0 0 (Tq [TL false n 1 (map dB b),zN (Rs.p (cK b s4 i)),zN (Rs.e (cK b s4 i))] 88 false) (Tq [TL false n 1 (map dB b),zN (Rs.p s5),zN (Rs.e s5)] 88 false) D7 (.blk 24 24 (Tq (map dB (gW b s4 i)) 5 true) (Tq (map dB W) 5 true) D8 (Hn.last last1 0 (():Unit) rfl [(0,0),(1,1),(24,24),(32,32)] ro))))))) (fun|⟨i,hi,_⟩=>by kernel_rfl) ⟨(0),om,⟨⟩⟩ [(0,0),(1,1),(162,162),(186,186)] ro (bY (fun|()=>(.s 3 (.call 55 true [0,24] (true) wr ([TF 0 0 0,Tu 1 1 0 19 1,zI 7]) _ (cj.refl _) (true&&(af (map dB W)&&true)) (by(simp;done)) _ _ _ (TW (az.of Try.func55 rfl rfl) (@nB (b) (n) om om (s5) om (W) (0) (19) om om (W) aD (t) (s6) aD aD)) (.s 16 (.cl 54 true [0] (.fn i5 (@eg (b) (n) om om (s6) (decide (1<(↑(length (ab t)):Int))) (s7) aD)) (.s 9 (.ow ((g:Int)+257+(f+1)) (.s 1 (.call 85 true [0,56] (true) wr ([TF 0 0 0,UA [zN (aa t 0),zN (aa t 1),zN (aa t 2),zN (aa t 3),zN (aa t 4),zN (aa t 5),zN (aa t 6),zN (aa t 7),zN (aa t 8),zN (aa t 9),zN (aa t 10),zN (aa t 11),zN (aa t 12),zN (aa t 13),zN (aa t 14),zN (aa t 15),Tu 1 1 0 (length (ab t)) 1],zI ((g:Int)+257+(f+1))]) _ D9 (true&&(af (map nD (ab t))&&true)) (by(simp;done)) _ _ _ (TW (az.of Try.func85 rfl rfl) (@Ea (b) (n) om om (s7) om (t) om om (N) ((g:Int)+257+(f+1)) (o) (s8) aD aD om om)) (.s 11 (.f ((↑(Rs.e s8):Int) !=0) (by(simp <;>(omega))) (.s 3 (.chk (true&&decide (256<(↑(length o):Int))) (by(refine decide_eq_true ?_;(omega))) (.s 2 (.opt ((map dB o)[256]?) (dB (getD o 256 mb)) (aq _ _ om) (.s 3 (.cl 54 true [0] (.fn i5 (@eg (b) (n) om om (s8) (decide (0<(↑(Tp (getD o 256 mb)):Int))) (s9) aD)) (.s 4 (.chk (aZ none (some ((g:Int)+257)) none (length o)&&true) (by(simp <;>(omega))) (.s 1 (.call 86 false [] (true&&(true&&Tz (0+zK ((g:Int)+257)*1) (length (map dB o))&&true&&af (bif true&&Tx (zK ((g:Int)+257)*1) (length (map dB o))then map dB o else take (zK ((g:Int)+257)*1) (drop 0 (map dB o))))&&true) (by(simp <;>(omega))) ([TL true (zK ((g:Int)+257)) 1 (bif true&&Tx (zK ((g:Int)+257)*1) (length (map dB o))then map dB o else take (zK ((g:Int)+257)*1) (drop 0 (map dB o))),zI 15]) _ Gh (true) wr _ _ _ (TW (az.of Try.func86 rfl rfl) (@Gi (take (zK ((g:Int)+257)) o) (zK ((g:Int)+257)) (by(simp <;>(omega))) om (L1) aD)) (.s 3 (.cl 54 true [0] (.fn i5 (@eg (b) (n) om om (s9) ((↑(aC L1 15):Int)==0) (s10) aD)) (.s 7 (.chk (aZ none (some ((g:Int)+257)) none (length o)&&true) (by(simp <;>(omega))) (.s 1 (.call 55 true [0,168] (true) wr ([TF 0 0 0,Tu 1 1 0 (zK ((g:Int)+257)) 1,zI 15]) _ (cj.refl _) (true&&(af (map dB o)&&true)) (by(simp;done)) _ _ _ (TW (az.of Try.func55 rfl rfl) (@gV (b) (n) om om (s10) om (o) (0) (zK ((g:Int)+257)) om om (L1) aD (t1) (s11) aD aD)) (.s 4 (.chk (aZ (some ((g:Int)+257)) none none (length o)&&true) (by(simp <;>(omega))) (.s 1 (.call 55 true [0,168] (true) wr ([TF 0 0 0,Tu 1 1 (0+zK ((g:Int)+257)*1) (length o-zK ((g:Int)+257)) 1,zI 15]) _ (cj.refl _) (true&&(af (map dB o)&&true)) (by(simp;done)) _ _ _ (TW (az.of Try.func55 rfl rfl) (@gV (b) (n) om om (s11) om (o) (0+zK ((g:Int)+257)*1) (length o-zK ((g:Int)+257)) om om (L2) aD (t2) (s12) aD aD)) (.s 14 (.out [0,1,376,416] [0,1,376,416] (Uw []) [Tq [TL false n 1 (map dB b),zN (Rs.p s12),zN (Rs.e s12)] 88 false,Tq [aQ kd,D.v (.bool la),zN le,zN (aa t1 0),zN (aa t1 1),zN (aa t1 2),zN (aa t1 3),zN (aa t1 4),zN (aa t1 5),zN (aa t1 6),zN (aa t1 7),zN (aa t1 8),zN (aa t1 9),zN (aa t1 10),zN (aa t1 11),zN (aa t1 12),zN (aa t1 13),zN (aa t1 14),zN (aa t1 15),Tu 2 2 0 (length (ab t1)) 1,zN (aa t2 0),zN (aa t2 1),zN (aa t2 2),zN (aa t2 3),zN (aa t2 4),zN (aa t2 5),zN (aa t2 6),zN (aa t2 7),zN (aa t2 8),zN (aa t2 9),zN (aa t2 10),zN (aa t2 11),zN (aa t2 12),zN (aa t2 13),zN (aa t2 14),zN (aa t2 15),Tu 3 3 0 (length (ab t2)) 1] 45 false,Tq (map nD (ab t1)) 3 true,Tq (map nD (ab t2)) 3 true] R (ok _ _ wr (by exact rfl)))))))))))))))))))))))))))))))))))))))))))))) (fun p0 p0f=>(.s 4 (.cl 54 true [0] (.fn i5 (@bV (b) (n) om om (s3) (false) (132) om)) (.s 4 (.cl 79 false [] (.fn NU (@lr)) (.s 7 (.chk (aZ none (some ((h:Int)+4)) none 19&&true&&true&&true) (by(simp <;>(omega))) (.s 2 (.blk 0 0 (Tq [TL false n 1 (map dB b),zN (Rs.p (fl s3 false 132)),zN (Rs.e (fl s3 false 132))] 88 false) (Tq [TL false n 1 (map dB b),zN (Rs.p (cK b s4 0)),zN (Rs.e (cK b s4 0))] 88 false) D0 (Hn.inl T_ok ai false 95 2 (ap Try.prog 56 0) (fun(x:(i:Nat)×'(hi:i≤h+4)×'Unit)=>match x with|⟨i,hi,_⟩=>TJ [(0,TF 0 0 0),(1,TF 1 1 0),(4,zI ((g:Int)+257)),(5,zI ((f:Int)+1)),(7,Tu 24 24 0 19 1),(33,Tu 32 32 0 (zK ((h:Int)+4)) 1),(34,zN (zK ((h:Int)+4))),(35,nD i)] [⟨0,0,0,0,.b ⟨[.sl false n 1 (b.map dB),nD (cK b s4 i).p,nD (cK b s4 i).e],88,false⟩⟩,⟨1,1,1,1,.b ⟨[aQ kd,D.v (.bool la),zN le,zI 0,zI 0,zI 0,zI 0,zI 0,zI 0,zI 0,zI 0,zI 0,zI 0,zI 0,zI 0,zI 0,zI 0,zI 0,zI 0,zS,zI 0,zI 0,zI 0,zI 0,zI 0,zI 0,zI 0,zI 0,zI 0,zI 0,zI 0,zI 0,zI 0,zI 0,zI 0,zI 0,zS],45,false⟩⟩,⟨24,24,162,162,.b ⟨(gW b s4 i).map dB,5,true⟩⟩,⟨32,32,186,186,.b ⟨[zI 16,zI 17,zI 18,zI 0,zI 8,zI 7,zI 9,zI 6,zI 10,zI 5,zI 11,zI 4,zI 12,zI 3,zI 13,zI 2,zI 14,zI 1,zI 15],148,false⟩⟩] 40) (fun(x:(i:Nat)×'(hi:i≤h+4)×'Unit)=>match x with|⟨i,hi,_⟩=>h+4-i) [⟨Unit,.exit 0,fun x=>match x with|()=>TJ [(0,TF 0 0 0),(1,TF 1 1 0),(4,zI ((g:Int)+257)),(5,zI ((f:Int)+1)),(7,Tu 24 24 0 19 1),(33,Tu 32 32 0 (zK ((h:Int)+4)) 1),(34,zN (zK ((h:Int)+4)))] [⟨0,0,0,0,.b ⟨[.sl false n 1 (b.map dB),nD (s5).p,nD (s5).e],88,false⟩⟩,⟨1,1,1,1,.b ⟨[aQ kd,D.v (.bool la),zN le,zI 0,zI 0,zI 0,zI 0,zI 0,zI 0,zI 0,zI 0,zI 0,zI 0,zI 0,zI 0,zI 0,zI 0,zI 0,zI 0,zS,zI 0,zI 0,zI 0,zI 0,zI 0,zI 0,zI 0,zI 0,zI 0,zI 0,zI 0,zI 0,zI 0,zI 0,zI 0,zI 0,zS],45,false⟩⟩,⟨24,24,162,162,.b ⟨W.map dB,5,true⟩⟩,⟨32,32,186,186,.b ⟨[zI 16,zI 17,zI 18,zI 0,zI 8,zI 7,zI 9,zI 6,zI 10,zI 5,zI 11,zI 4,zI 12,zI 3,zI 13,zI 2,zI 14,zI 1,zI 15],148,false⟩⟩] 40⟩] 1000 64 (fun|⟨i,hi,_⟩,Q,next1,last1=>(.s 2 (.bd ((i:Int)<(↑(zK ((h:Int)+4)):Int)) (fun p2 p2f=>(.s 1 (.chk (true&&decide ((i:Int)<(↑(zK ((h:Int)+4)):Int))) aD (.s 2 (.opt ((map nD tS)[0+i*1]?) (nD (cz i)) (@xf i om) (.s 5 (.cl 53 true [0] (.fn mh (@eD (b) (n) om om (cK b s4 i) (by(exact r4i _)) (3) om)) (.s 1 (.opt (ar .u8 (↑(aV b 3 (cK b s4 i)):Int)) (aQ (aV b 3 (cK b s4 i))) (bB D1) (.s 1 (.chk (true&&decide ((↑(cz i):Int)<(↑19:Int))) D2 (.s 1 (.chk (true&&Tz (0+cz i*1+1) (length (map dB (gW b s4 i)))) D3 (.lst (aj (map dB (gW b s4 i)) (0+cz i*1) [aQ (aV b 3 (cK b s4 i))]) (aj (map dB (gW b s4 i)) (cz i) [aQ (aV b 3 (cK b s4 i))]) (by(simp;done)) (.s 2 (.ow ((i:Int)+1) (.s 1 (.val 35 (zI ((i:Int)+1)) (zN (i+1)) D4 (.blk 0 0 (Tq [TL false n 1 (map dB b),zN (Rs.p (bp b 3 (cK b s4 i))),zN (Rs.e (bp b 3 (cK b s4 i)))] 88 false) (Tq [TL false n 1 (map dB b),zN (Rs.p (cK b s4 (i+1))),zN (Rs.e (cK b s4 (i+1)))] 88 false) (by exact rfl) (.blk 24 24 (Tq (aj (map dB (gW b s4 i)) (cz i) [aQ (aV b 3 (cK b s4 i))]) 5 true) (Tq (map dB (gW b s4 (i+1))) 5 true) D5 (Hn.next next1 ⟨(i+1),om,⟨⟩⟩ D6 [(0,0),(1,1),(24,24),(32,32)] ro))))))))))))))))))))) (fun p2 p2f=>(.blk 0 0 (Tq [TL false n 1 (map dB b),zN (Rs.p (cK b s4 i)),zN (Rs.e (cK b s4 i))] 88 false) (Tq [TL false n 1 (map dB b),zN (Rs.p s5),zN (Rs.e s5)] 88 false) D7 (.blk 24 24 (Tq (map dB (gW b s4 i)) 5 true) (Tq (map dB W) 5 true) D8 (Hn.last last1 0 (():Unit) rfl [(0,0),(1,1),(24,24),(32,32)] ro))))))) (fun|⟨i,hi,_⟩=>by kernel_rfl) ⟨(0),om,⟨⟩⟩ [(0,0),(1,1),(162,162),(186,186)] ro (bY (fun|()=>(.s 3 (.call 55 true [0,24] (true) wr ([TF 0 0 0,Tu 1 1 0 19 1,zI 7]) _ (cj.refl _) (true&&(af (map dB W)&&true)) (by(simp;done)) _ _ _ (TW (az.of Try.func55 rfl rfl) (@nB (b) (n) om om (s5) om (W) (0) (19) om om (W) aD (t) (s6) aD aD)) (.s 16 (.cl 54 true [0] (.fn i5 (@eg (b) (n) om om (s6) (decide (1<(↑(length (ab t)):Int))) (s7) aD)) (.s 9 (.ow ((g:Int)+257+(f+1)) (.s 1 (.call 85 true [0,56] (true) wr ([TF 0 0 0,UA [zN (aa t 0),zN (aa t 1),zN (aa t 2),zN (aa t 3),zN (aa t 4),zN (aa t 5),zN (aa t 6),zN (aa t 7),zN (aa t 8),zN (aa t 9),zN (aa t 10),zN (aa t 11),zN (aa t 12),zN (aa t 13),zN (aa t 14),zN (aa t 15),Tu 1 1 0 (length (ab t)) 1],zI ((g:Int)+257+(f+1))]) _ D9 (true&&(af (map nD (ab t))&&true)) (by(simp;done)) _ _ _ (TW (az.of Try.func85 rfl rfl) (@Ea (b) (n) om om (s7) om (t) om om (N) ((g:Int)+257+(f+1)) (o) (s8) aD aD om om)) (.s 11 (.f ((↑(Rs.e s8):Int) !=0) (by(simp <;>(omega))) (.s 3 (.chk (true&&decide (256<(↑(length o):Int))) (by(refine decide_eq_true ?_;(omega))) (.s 2 (.opt ((map dB o)[256]?) (dB (getD o 256 mb)) (aq _ _ om) (.s 3 (.cl 54 true [0] (.fn i5 (@eg (b) (n) om om (s8) (decide (0<(↑(Tp (getD o 256 mb)):Int))) (s9) aD)) (.s 4 (.chk (aZ none (some ((g:Int)+257)) none (length o)&&true) (by(simp <;>(omega))) (.s 1 (.call 86 false [] (true&&(true&&Tz (0+zK ((g:Int)+257)*1) (length (map dB o))&&true&&af (bif true&&Tx (zK ((g:Int)+257)*1) (length (map dB o))then map dB o else take (zK ((g:Int)+257)*1) (drop 0 (map dB o))))&&true) (by(simp <;>(omega))) ([TL true (zK ((g:Int)+257)) 1 (bif true&&Tx (zK ((g:Int)+257)*1) (length (map dB o))then map dB o else take (zK ((g:Int)+257)*1) (drop 0 (map dB o))),zI 15]) _ Gh (true) wr _ _ _ (TW (az.of Try.func86 rfl rfl) (@Gi (take (zK ((g:Int)+257)) o) (zK ((g:Int)+257)) (by(simp <;>(omega))) om (L1) aD)) (.s 3 (.cl 54 true [0] (.fn i5 (@eg (b) (n) om om (s9) ((↑(aC L1 15):Int)==0) (s10) aD)) (.s 7 (.chk (aZ none (some ((g:Int)+257)) none (length o)&&true) (by(simp <;>(omega))) (.s 1 (.call 55 true [0,168] (true) wr ([TF 0 0 0,Tu 1 1 0 (zK ((g:Int)+257)) 1,zI 15]) _ (cj.refl _) (true&&(af (map dB o)&&true)) (by(simp;done)) _ _ _ (TW (az.of Try.func55 rfl rfl) (@gV (b) (n) om om (s10) om (o) (0) (zK ((g:Int)+257)) om om (L1) aD (t1) (s11) aD aD)) (.s 4 (.chk (aZ (some ((g:Int)+257)) none none (length o)&&true) (by(simp <;>(omega))) (.s 1 (.call 55 true [0,168] (true) wr ([TF 0 0 0,Tu 1 1 (0+zK ((g:Int)+257)*1) (length o-zK ((g:Int)+257)) 1,zI 15]) _ (cj.refl _) (true&&(af (map dB o)&&true)) (by(simp;done)) _ _ _ (TW (az.of Try.func55 rfl rfl) (@gV (b) (n) om om (s11) om (o) (0+zK ((g:Int)+257)*1) (length o-zK ((g:Int)+257)) om om (L2) aD (t2) (s12) aD aD)) (.s 14 (.out [0,1,376,416] [0,1,376,416] (Uw []) [Tq [TL false n 1 (map dB b),zN (Rs.p s12),zN (Rs.e s12)] 88 false,Tq [aQ kd,D.v (.bool la),zN le,zN (aa t1 0),zN (aa t1 1),zN (aa t1 2),zN (aa t1 3),zN (aa t1 4),zN (aa t1 5),zN (aa t1 6),zN (aa t1 7),zN (aa t1 8),zN (aa t1 9),zN (aa t1 10),zN (aa t1 11),zN (aa t1 12),zN (aa t1 13),zN (aa t1 14),zN (aa t1 15),Tu 2 2 0 (length (ab t1)) 1,zN (aa t2 0),zN (aa t2 1),zN (aa t2 2),zN (aa t2 3),zN (aa t2 4),zN (aa t2 5),zN (aa t2 6),zN (aa t2 7),zN (aa t2 8),zN (aa t2 9),zN (aa t2 10),zN (aa t2 11),zN (aa t2 12),zN (aa t2 13),zN (aa t2 14),zN (aa t2 15),Tu 3 3 0 (length (ab t2)) 1] 45 false,Tq (map nD (ab t1)) 3 true,Tq (map nD (ab t2)) 3 true] R (ok _ _ wr (by exact rfl))))))))))))))))))))))))))))))))))))))))))))))))))))))))))))) kr
end Vp
end Go.Proofs.Ytefjnofhgkjpmaa
namespace Go.Proofs.Ytefjnofhgkjpmaa
open Go.RowKit Go.Bw Go.Vx
open List (length getD map take drop flatMap replicate)
namespace Vp
theorem A4 {p:Prop}(h:p:=by(refine decide_eq_false ?_;(omega))):p:=h
structure PlE (s:Rs)(p:Int)(z:Rs):Prop where
 h:p=z.p
 e:s.e=0
 e2:z.e=0
theorem A5 (b:List UInt8)(n:Nat)(hn:n=b.length)(hN:n≤1000000)(s:Rs)(p:Int)(z:Rs)(hp:PlE s p z)(hz:ba n z)(x:Nat)(y:Rs)(hx:aV b 16 z=x)(hy:bp b 16 z=y):S1 53 [.ptr 0 0 0,iD 16] [⟨[.sl false n 1 (b.map dB),iD p,nD s.e], 88,false⟩] (nD x) [⟨[.sl false n 1 (b.map dB),nD (y).p,nD (y).e], 88,false⟩]:=by
 have h1:=tR b n hn hN z hz x y hx hy
 have e:s.e=z.e:=by rw[hp.e,hp.e2]
 rw[hp.h,e];exact h1
theorem I2 (b:List UInt8)(n:Nat)(hn:n=b.length)(hN:n≤1000000)(s:Rs)(hs:ba n s)(a kd:Nat)(s1 s2 s3:Rs)(x1:aV b 1 s=a)(z1:bp b 1 s=s1)(x2:aV b 2 s1=kd)(z2:bp b 2 s1=s2)(z3:FlE s2 (decide ((kd:Int)≤2)) 130 s3)(h3:s3.e≠0):S1 34 [.ptr 0 0 0] [⟨[.sl false n 1 (b.map dB),nD (s).p,nD (s).e], 88,false⟩] (.agg ([dG kd,bD (((a:Nat):Int)==1),iD 0]++eT++eT)) [⟨[.sl false n 1 (b.map dB),nD (s3).p,nD (s3).e], 88,false⟩]:=by
 have ha:a<2:=by rw[←x1];exact bH b 1 s
 have hk:kd<4:=by rw[←x2];exact bH b 2 s1
 have r1:ba n s1:=by rw[←z1];subst hn;exact hs.tk _
 have r2:ba n s2:=by rw[←z2];subst hn;exact r1.tk _
 have r3:ba n s3:=by rw[←z3.h];exact r2.fl _ _
 refine SpecH.run T_ok ai Try.func34 rfl rfl rfl ⟨rfl,trivial⟩ rfl 1000 64 (fun R ok=>(.s 4 (.cl 53 true [0] (.fn mh (@kS (b) (n) om om (s) om (a) (s1) aD aD)) (.s 10 (.cl 53 true [0] (.fn mh (@kT (b) (n) om om (s1) om (kd) (s2) aD aD)) (.s 1 (.opt (ar .u8 (kd:Int)) (aQ kd) (bB om) (.s 16 (.cl 54 true [0] (.fn i5 (@gU (b) (n) om om (s2) (decide ((kd:Int)≤2)) (s3) aD)) (.s 11 (.t ((↑(Rs.e s3):Int) !=0) (by(simp <;>(omega))) (.s 10 (.out [0] [0] (UA [aQ kd,D.v (.bool ((a:Int)==1)),zI 0,zI 0,zI 0,zI 0,zI 0,zI 0,zI 0,zI 0,zI 0,zI 0,zI 0,zI 0,zI 0,zI 0,zI 0,zI 0,zI 0,zS,zI 0,zI 0,zI 0,zI 0,zI 0,zI 0,zI 0,zI 0,zI 0,zI 0,zI 0,zI 0,zI 0,zI 0,zI 0,zI 0,zS]) [Tq [TL false n 1 (map dB b),zN (Rs.p s3),zN (Rs.e s3)] 88 false] R (ok _ _ (by exact rfl) wr)))))))))))))) kr
theorem I3 (b:List UInt8)(n:Nat)(hn:n=b.length)(hN:n≤1000000)(s:Rs)(hs:ba n s)(a kd:Nat)(s1 s2 s3:Rs)(x1:aV b 1 s=a)(z1:bp b 1 s=s1)(x2:aV b 2 s1=kd)(z2:bp b 2 s1=s2)(z3:FlE s2 (decide ((kd:Int)≤2)) 130 s3)(h3:s3.e=0)(h0:kd=0)(s4 s5 s6 s7:Rs)(le ag:Nat)(hp2:PlE s3 ((((s3.p:Nat):Int)+7)/8*8) s4)(x4:aV b 16 s4=le)(z4:bp b 16 s4=s5)(x5:aV b 16 s5=ag)(z5:bp b 16 s5=s6)(z6:FlE s6 (((le:Nat):Int)+((ag:Nat):Int)==65535) 131 s7):S1 34 [.ptr 0 0 0] [⟨[.sl false n 1 (b.map dB),nD (s).p,nD (s).e], 88,false⟩] (.agg ([dG kd,bD (((a:Nat):Int)==1),nD le]++eT++eT)) [⟨[.sl false n 1 (b.map dB),nD (s7).p,nD (s7).e], 88,false⟩]:=by
 have ha:a<2:=by rw[←x1];exact bH b 1 s
 have hk:kd<4:=by rw[←x2];exact bH b 2 s1
 have r1:ba n s1:=by rw[←z1];subst hn;exact hs.tk _
 have r2:ba n s2:=by rw[←z2];subst hn;exact r1.tk _
 have r3:ba n s3:=by rw[←z3.h];exact r2.fl _ _
 have hle:le<65536:=by rw[←x4];exact bH b 16 s4
 have hag:ag<65536:=by rw[←x5];exact bH b 16 s5
 have ho3:s3.p≤8*n:=r3 h3
 have hp3:=hp2.h
 have r4:ba n s4:=fun _=>by omega
 have r5:ba n s5:=by rw[←z4];subst hn;exact r4.tk _
 have r6:ba n s6:=by rw[←z5];subst hn;exact r5.tk _
 refine SpecH.run T_ok ai Try.func34 rfl rfl rfl ⟨rfl,trivial⟩ rfl 1000 64 (fun R ok=>(.s 4 (.cl 53 true [0] (.fn mh (@kS (b) (n) om om (s) om (a) (s1) aD aD)) (.s 10 (.cl 53 true [0] (.fn mh (@kT (b) (n) om om (s1) om (kd) (s2) aD aD)) (.s 1 (.opt (ar .u8 (kd:Int)) (aQ kd) (bB om) (.s 16 (.cl 54 true [0] (.fn i5 (@gU (b) (n) om om (s2) (decide ((kd:Int)≤2)) (s3) aD)) (.s 11 (.f ((↑(Rs.e s3):Int) !=0) (by(simp <;>(omega))) (.s 9 (.t ((kd:Int)==0) (by(refine decide_eq_true ?_;(omega))) (.s 11 (.ow ((↑(Rs.p s3):Int)+7) (.s 2 (.opt (b4 Uf (TM Uf (Xl ((↑(Rs.p s3):Int)+7) 8))) (zI (((↑(Rs.p s3):Int)+7)/8)) (aS (@dv  ((↑(Rs.p s3):Int)+7) (8) om om)) (.s 2 (.ow (((↑(Rs.p s3):Int)+7)/8*8) (.s 9 (.cl 53 true [0] (.fn mh (@A5 (b) (n) om om (s3) (((↑(Rs.p s3):Int)+7)/8*8) (s4) aD om (le) (s5) aD aD)) (.s 8 (.cl 53 true [0] (.fn mh (@tR (b) (n) om om (s5) om (ag) (s6) aD aD)) (.s 11 (.ow ((le:Int)+ag) (.s 3 (.cl 54 true [0] (.fn i5 (@zr (b) (n) om om (s6) ((le:Int)+ag==65535) (s7) aD)) (.s 10 (.out [0] [0] (UA [aQ kd,D.v (.bool ((a:Int)==1)),zN le,zI 0,zI 0,zI 0,zI 0,zI 0,zI 0,zI 0,zI 0,zI 0,zI 0,zI 0,zI 0,zI 0,zI 0,zI 0,zI 0,zS,zI 0,zI 0,zI 0,zI 0,zI 0,zI 0,zI 0,zI 0,zI 0,zI 0,zI 0,zI 0,zI 0,zI 0,zI 0,zI 0,zS]) [Tq [TL false n 1 (map dB b),zN (Rs.p s7),zN (Rs.e s7)] 88 false] R (ok _ _ (by exact rfl) wr)))))))))))))))))))))))))))))) kr
theorem I4 (b:List UInt8)(n:Nat)(hn:n=b.length)(hN:n≤1000000)(s:Rs)(hs:ba n s)(a kd:Nat)(s1 s2 s3:Rs)(x1:aV b 1 s=a)(z1:bp b 1 s=s1)(x2:aV b 2 s1=kd)(z2:bp b 2 s1=s2)(z3:FlE s2 (decide ((kd:Int)≤2)) 130 s3)(h3:s3.e=0)(h0:kd=1)(L F:List UInt8)(hL:L=bz)(hF:F=cU)(y1:L=UP 288 (UQ 0 L))(y2:F=UP 32 (UQ 0 F))(l1:L.length=288)(l2:F.length=32)(w1:fF L 15=L)(w2:fF F 15=F)(z4:fl s3 (((aC L 15:Nat):Int)==0) 132=s3)(z5:fl s3 (((aC F 15:Nat):Int)==0) 132=s3):S1 34 [.ptr 0 0 0] [⟨[.sl false n 1 (b.map dB),nD (s).p,nD (s).e], 88,false⟩] (.agg ([dG kd,bD (((a:Nat):Int)==1),iD 0]++(cZ (aa L)++[.ref 1 1 0 (ab L).length 1])++(cZ (aa F)++[.ref 2 2 0 (ab F).length 1]))) [⟨[.sl false n 1 (b.map dB),nD (s3).p,nD (s3).e], 88,false⟩,⟨(ab L).map nD, 3,true⟩,⟨(ab F).map nD, 3,true⟩]:=by
 have ha:a<2:=by rw[←x1];exact bH b 1 s
 have hk:kd<4:=by rw[←x2];exact bH b 2 s1
 have r1:ba n s1:=by rw[←z1];subst hn;exact hs.tk _
 have r2:ba n s2:=by rw[←z2];subst hn;exact r1.tk _
 have r3:ba n s3:=by rw[←z3.h];exact r2.fl _ _
 refine SpecH.run T_ok ai Try.func34 rfl rfl rfl ⟨rfl,fa _,fa _,trivial⟩ rfl 1000 64 (fun R ok=>(.s 4 (.cl 53 true [0] (.fn mh (@kS (b) (n) om om (s) om (a) (s1) aD aD)) (.s 10 (.cl 53 true [0] (.fn mh (@kT (b) (n) om om (s1) om (kd) (s2) aD aD)) (.s 1 (.opt (ar .u8 (kd:Int)) (aQ kd) (bB om) (.s 16 (.cl 54 true [0] (.fn i5 (@gU (b) (n) om om (s2) (decide ((kd:Int)≤2)) (s3) aD)) (.s 11 (.f ((↑(Rs.e s3):Int) !=0) (by(simp <;>(omega))) (.s 9 (.f ((kd:Int)==0) A4 (.s 9 (.t ((kd:Int)==1) (by(refine decide_eq_true ?_;(omega))) (.s 1 (.cl 47 false [] (.fn NS (@lq (L) (F) aD aD)) (.s 10 (.call 55 true [0,241] (true) wr ([TF 0 0 0,Tu 1 1 0 288 1,zI 15]) _ (cj.refl _) (true&&(af (map dB L)&&true)) (by(simp;done)) _ _ _ (TW (az.of Try.func55 rfl rfl) (@gV (b) (n) om om (s3) om (L) (0) (288) om om (L) aD (L) (s3) aD aD)) (.s 3 (.call 55 true [0,242] (true) wr ([TF 0 0 0,Tu 1 1 0 32 1,zI 15]) _ (cj.refl _) (true&&(af (map dB F)&&true)) (by(simp;done)) _ _ _ (TW (az.of Try.func55 rfl rfl) (@gV (b) (n) om om (s3) om (F) (0) (32) om om (F) aD (F) (s3) aD aD)) (.s 22 (.out [0,305,329] [0,305,329] (UA [aQ kd,D.v (.bool ((a:Int)==1)),zI 0,zN (aa L 0),zN (aa L 1),zN (aa L 2),zN (aa L 3),zN (aa L 4),zN (aa L 5),zN (aa L 6),zN (aa L 7),zN (aa L 8),zN (aa L 9),zN (aa L 10),zN (aa L 11),zN (aa L 12),zN (aa L 13),zN (aa L 14),zN (aa L 15),Tu 1 1 0 (length (ab L)) 1,zN (aa F 0),zN (aa F 1),zN (aa F 2),zN (aa F 3),zN (aa F 4),zN (aa F 5),zN (aa F 6),zN (aa F 7),zN (aa F 8),zN (aa F 9),zN (aa F 10),zN (aa F 11),zN (aa F 12),zN (aa F 13),zN (aa F 14),zN (aa F 15),Tu 2 2 0 (length (ab F)) 1]) [Tq [TL false n 1 (map dB b),zN (Rs.p s3),zN (Rs.e s3)] 88 false,Tq (map nD (ab L)) 3 true,Tq (map nD (ab F)) 3 true] R (ok _ _ (by exact rfl) wr)))))))))))))))))))))))) kr
theorem Ef (b:List UInt8)(n:Nat)(hn:n=b.length)(hN:n≤1000000)(s:Rs)(hs:ba n s)(a kd:Nat)(s1 s2 s3:Rs)(x1:aV b 1 s=a)(z1:bp b 1 s=s1)(x2:aV b 2 s1=kd)(z2:bp b 2 s1=s2)(z3:FlE s2 (decide ((kd:Int)≤2)) 130 s3)(h3:s3.e=0)(h0:kd=2)(g f h:Nat)(d1 d2 d3 d4 d5 d6 d7 d8:Rs)(W t:List UInt8)(N:Nat)(o:List UInt8)(Dh:DyA b s3 g f h d1 d2 d3 d4 d5 d6 d7 d8 W t N o)(he:d8.e≠0):S1 34 [.ptr 0 0 0] [⟨[.sl false n 1 (b.map dB),nD (s).p,nD (s).e], 88,false⟩] (.agg ([dG kd,bD (((a:Nat):Int)==1),iD 0]++eT++eT)) [⟨[.sl false n 1 (b.map dB),nD (d8).p,nD (d8).e], 88,false⟩]:=by
 have ha:a<2:=by rw[←x1];exact bH b 1 s
 have hk:kd<4:=by rw[←x2];exact bH b 2 s1
 have r1:ba n s1:=by rw[←z1];subst hn;exact hs.tk _
 have r2:ba n s2:=by rw[←z2];subst hn;exact r1.tk _
 have r3:ba n s3:=by rw[←z3.h];exact r2.fl _ _
 refine SpecH.run T_ok ai Try.func34 rfl rfl rfl ⟨rfl,trivial⟩ rfl 1000 64 (fun R ok=>(.s 4 (.cl 53 true [0] (.fn mh (@kS (b) (n) om om (s) om (a) (s1) aD aD)) (.s 10 (.cl 53 true [0] (.fn mh (@kT (b) (n) om om (s1) om (kd) (s2) aD aD)) (.s 1 (.opt (ar .u8 (kd:Int)) (aQ kd) (bB om) (.s 16 (.cl 54 true [0] (.fn i5 (@gU (b) (n) om om (s2) (decide ((kd:Int)≤2)) (s3) aD)) (.s 11 (.f ((↑(Rs.e s3):Int) !=0) (by(simp <;>(omega))) (.s 9 (.f ((kd:Int)==0) A4 (.s 9 (.f ((kd:Int)==1) A4 (.s 2 (.cl 56 true [0,1] (.fn SP (@LZ (b) (n) om om (s3) om (kd) (0) ((a:Int)==1) (g) (f) (h) (d1) (d2) (d3) (d4) (d5) (d6) (d7) (d8) (W) (t) (N) (o) aD om)) (.s 10 (.out [0] [0] (UA [aQ kd,D.v (.bool ((a:Int)==1)),zI 0,zI 0,zI 0,zI 0,zI 0,zI 0,zI 0,zI 0,zI 0,zI 0,zI 0,zI 0,zI 0,zI 0,zI 0,zI 0,zI 0,zS,zI 0,zI 0,zI 0,zI 0,zI 0,zI 0,zI 0,zI 0,zI 0,zI 0,zI 0,zI 0,zI 0,zI 0,zI 0,zI 0,zS]) [Tq [TL false n 1 (map dB b),zN (Rs.p d8),zN (Rs.e d8)] 88 false] R (ok _ _ (by exact rfl) wr)))))))))))))))))))) kr
theorem Eg (b:List UInt8)(n:Nat)(hn:n=b.length)(hN:n≤1000000)(s:Rs)(hs:ba n s)(a kd:Nat)(s1 s2 s3:Rs)(x1:aV b 1 s=a)(z1:bp b 1 s=s1)(x2:aV b 2 s1=kd)(z2:bp b 2 s1=s2)(z3:FlE s2 (decide ((kd:Int)≤2)) 130 s3)(h3:s3.e=0)(h0:kd=2)(g f h:Nat)(d1 d2 d3 d4 d5 d6 d7 d8:Rs)(W t:List UInt8)(N:Nat)(o:List UInt8)(Dh:DyA b s3 g f h d1 d2 d3 d4 d5 d6 d7 d8 W t N o)(G:Nat)(eG:G=g+257)(s9 s10 s11 s12:Rs)(L1 L2 t1 t2:List UInt8)(Bh:DyB G N o d8 s9 s10 s11 s12 L1 L2 t1 t2):S1 34 [.ptr 0 0 0] [⟨[.sl false n 1 (b.map dB),nD (s).p,nD (s).e], 88,false⟩] (.agg ([dG kd,bD (((a:Nat):Int)==1),iD 0]++(cZ (aa t1)++[.ref 1 1 0 (ab t1).length 1])++(cZ (aa t2)++[.ref 2 2 0 (ab t2).length 1]))) [⟨[.sl false n 1 (b.map dB),nD (s12).p,nD (s12).e], 88,false⟩,⟨(ab t1).map nD, 3,true⟩,⟨(ab t2).map nD, 3,true⟩]:=by
 have ha:a<2:=by rw[←x1];exact bH b 1 s
 have hk:kd<4:=by rw[←x2];exact bH b 2 s1
 have r1:ba n s1:=by rw[←z1];subst hn;exact hs.tk _
 have r2:ba n s2:=by rw[←z2];subst hn;exact r1.tk _
 have r3:ba n s3:=by rw[←z3.h];exact r2.fl _ _
 refine SpecH.run T_ok ai Try.func34 rfl rfl rfl ⟨rfl,fa _,fa _,trivial⟩ rfl 1000 64 (fun R ok=>(.s 4 (.cl 53 true [0] (.fn mh (@kS (b) (n) om om (s) om (a) (s1) aD aD)) (.s 10 (.cl 53 true [0] (.fn mh (@kT (b) (n) om om (s1) om (kd) (s2) aD aD)) (.s 1 (.opt (ar .u8 (kd:Int)) (aQ kd) (bB om) (.s 16 (.cl 54 true [0] (.fn i5 (@gU (b) (n) om om (s2) (decide ((kd:Int)≤2)) (s3) aD)) (.s 11 (.f ((↑(Rs.e s3):Int) !=0) (by(simp <;>(omega))) (.s 9 (.f ((kd:Int)==0) A4 (.s 9 (.f ((kd:Int)==1) A4 (.s 2 (.cl 56 true [0,1] (.fn SP (@L0 (b) (n) om om (s3) om (kd) (0) ((a:Int)==1) (g) (f) (h) (d1) (d2) (d3) (d4) (d5) (d6) (d7) (d8) (W) (t) (N) (o) aD (G) aD (s9) (s10) (s11) (s12) (L1) (L2) (t1) (t2) aD)) (.s 10 (.out [0,249,250] [0,249,250] (UA [aQ kd,D.v (.bool ((a:Int)==1)),zI 0,zN (aa t1 0),zN (aa t1 1),zN (aa t1 2),zN (aa t1 3),zN (aa t1 4),zN (aa t1 5),zN (aa t1 6),zN (aa t1 7),zN (aa t1 8),zN (aa t1 9),zN (aa t1 10),zN (aa t1 11),zN (aa t1 12),zN (aa t1 13),zN (aa t1 14),zN (aa t1 15),Tu 1 1 0 (length (ab t1)) 1,zN (aa t2 0),zN (aa t2 1),zN (aa t2 2),zN (aa t2 3),zN (aa t2 4),zN (aa t2 5),zN (aa t2 6),zN (aa t2 7),zN (aa t2 8),zN (aa t2 9),zN (aa t2 10),zN (aa t2 11),zN (aa t2 12),zN (aa t2 13),zN (aa t2 14),zN (aa t2 15),Tu 2 2 0 (length (ab t2)) 1]) [Tq [TL false n 1 (map dB b),zN (Rs.p s12),zN (Rs.e s12)] 88 false,Tq (map nD (ab t1)) 3 true,Tq (map nD (ab t2)) 3 true] R (ok _ _ (by exact rfl) wr)))))))))))))))))))) kr
end Vp
end Go.Proofs.Ytefjnofhgkjpmaa
namespace Go.Proofs.Ytefjnofhgkjpmaa
open Go.RowKit Go.Bw Go.Vx
namespace Vp
def zt (b:List UInt8)(s:Rs):Rs×List UInt8×List UInt8:=
 let g:=aV b 5 s
 let s1:=bp b 5 s
 let f:=aV b 5 s1
 let s2:=bp b 5 s1
 let h:=aV b 4 s2
 let s3:=bp b 4 s2
 let s4:=fl s3 (decide (g+257≤286)&&decide (f+1≤30)) 132
 let s5:=cK b s4 (h+4)
 let W:=gW b s4 (h+4)
 let t:=fF W 7
 let s6:=fl s5 (((aC W 7:Nat):Int)==0) 132
 let s7:=fl s6 (decide ((1:Int)<(((ab t).length:Nat):Int))) 132
 let N:=g+257+(f+1)
 let o:=DW b t N s7
 let s8:=vQ b t N s7
 if s8.e≠0 then(s8,[],[])else
 let L1:=(o.drop 0).take (g+257)
 let L2:=(o.drop (g+257)).take (N-(g+257))
 let s9:=fl s8 (decide ((0:Int)<(((o.getD 256 mb).toNat:Nat):Int))) 132
 let s10:=fl s9 (((aC L1 15:Nat):Int)==0) 132
 let s11:=fl s10 (((aC L1 15:Nat):Int)==0) 132
 let s12:=fl s11 (((aC L2 15:Nat):Int)==0) 132
 (s12,fF L1 15,fF L2 15)
structure Hd where
 s:Rs
 kd:Nat
 la:Bool
 le:Nat
 l1:List UInt8
 l2:List UInt8
def DD (b:List UInt8)(s:Rs):Hd:=
 let a:=aV b 1 s
 let s1:=bp b 1 s
 let kd:=aV b 2 s1
 let s2:=bp b 2 s1
 let s3:=fl s2 (decide ((kd:Int)≤2)) 130
 let la:=((a:Nat):Int)==1
 if s3.e≠0 then⟨s3,kd,la,0,[],[]⟩else if kd=0 then
  let s4:Rs:=⟨(s3.p+7)/8*8,0⟩
  let le:=aV b 16 s4
  let s5:=bp b 16 s4
  let ag:=aV b 16 s5
  let s6:=bp b 16 s5
  ⟨fl s6 (((le:Nat):Int)+((ag:Nat):Int)==65535) 131,kd,la,le,[],[]⟩
 else if kd=1 then⟨s3,kd,la,0,bz,cU⟩
 else⟨(zt b s3).1,kd,la,0,(zt b s3).2.1,(zt b s3).2.2⟩
def gv (b:List UInt8)(s:Rs):Hd:=lk b (DD b s)
theorem jb (b:List UInt8)(s:Rs):gv b s=DD b s:=aw _ _
theorem A6 (j:Nat):dR j eT (cZ (aa [])++[.ref j j 0 0 1]):=dR.app (a:=[iD 0,iD 0,iD 0,iD 0,iD 0,iD 0,iD 0,iD 0,iD 0,iD 0,iD 0,iD 0,iD 0,iD 0,iD 0,iD 0]) (dR.refl j _) ⟨eu.nil j 1,trivial⟩
theorem I5 {f:FuncId}{ds:List D}{hin:List Blk}{x y z:D}{B:Blk}(h:S1 f ds hin (.agg ([x,y,z]++eT++eT)) [B]):S1 f ds hin (.agg ([x,y,z]++(cZ (aa [])++[.ref 1 1 0 (ab []).length 1])++(cZ (aa [])++[.ref 2 2 0 (ab []).length 1]))) [B,⟨(ab []).map nD, 3,true⟩,⟨(ab []).map nD, 3,true⟩]:=by
 have h1:=SpecH.nilA h 3 (r':= .agg ([x,y,z]++(cZ (aa [])++[.ref 1 1 0 0 1])++eT)) (eu.agg ((dR.refl 1 [x,y,z]).app (A6 1)|>.app (dR.refl 1 _)))
 exact SpecH.nilA h1 3 (r':= .agg ([x,y,z]++(cZ (aa [])++[.ref 1 1 0 0 1])++(cZ (aa [])++[.ref 2 2 0 0 1]))) (show eu 2 _ _ from eu.agg ((dR.refl 2 ([x,y,z]++(cZ (aa [])++[.ref 1 1 0 0 1]))).app (A6 2)))
theorem lZ:bz.length=288:=by unfold bz;rw[Tt,Tt,Tt,T4,T4,T4,T4]
theorem oa:cU.length=32:=by unfold cU;rw[T4]
theorem oc:aC bz 15=0:=by decide+kernel
theorem pS:aC cU 15=0:=by decide+kernel
theorem Eh (L F:List UInt8)(hL:L=bz)(hF:F=cU)(b:List UInt8)(n:Nat)(hn:n=b.length)(hN:n≤1000000)(s:Rs)(hs:ba n s)(a kd:Nat)(s1 s2 s3:Rs)(x1:aV b 1 s=a)(z1:bp b 1 s=s1)(x2:aV b 2 s1=kd)(z2:bp b 2 s1=s2)(z3:FlE s2 (decide ((kd:Int)≤2)) 130 s3)(h3:s3.e=0)(h0:kd=1):S1 34 [.ptr 0 0 0] [⟨[.sl false n 1 (b.map dB),nD (s).p,nD (s).e], 88,false⟩] (.agg ([dG kd,bD (((a:Nat):Int)==1),iD 0]++(cZ (aa L)++[.ref 1 1 0 (ab L).length 1])++(cZ (aa F)++[.ref 2 2 0 (ab F).length 1]))) [⟨[.sl false n 1 (b.map dB),nD (s3).p,nD (s3).e], 88,false⟩,⟨(ab L).map nD, 3,true⟩,⟨(ab F).map nD, 3,true⟩]:=by
 have c1:aC L 15=0:=by rw[hL];exact oc
 have c2:aC F 15=0:=by rw[hF];exact pS
 have l1:L.length=288:=by rw[hL];exact lZ
 have l2:F.length=32:=by rw[hF];exact oa
 exact I4 b n hn hN s hs a kd s1 s2 s3 x1 z1 x2 z2 z3 h3 h0 L F hL hF (by rw[U4,T9 (XD l1)]) (by rw[U4,T9 (XD l2)]) l1 l2 (kR c1) (kR c2) (by rw[c1];exact gF) (by rw[c2];exact gF)
set_option maxRecDepth 100000 in
set_option maxHeartbeats 2000000 in
theorem A7 (b:List UInt8)(n:Nat)(hn:n=b.length)(hN:n≤1000000)(s:Rs)(hs:ba n s):S1 34 [.ptr 0 0 0] [⟨[.sl false n 1 (b.map dB),nD (s).p,nD (s).e], 88,false⟩] (.agg ([dG (gv b s).kd,bD (gv b s).la,nD (gv b s).le]++(cZ (aa (gv b s).l1)++[.ref 1 1 0 (ab (gv b s).l1).length 1])++(cZ (aa (gv b s).l2)++[.ref 2 2 0 (ab (gv b s).l2).length 1]))) [⟨[.sl false n 1 (b.map dB),nD ((gv b s).s).p,nD ((gv b s).s).e], 88,false⟩,⟨(ab (gv b s).l1).map nD, 3,true⟩,⟨(ab (gv b s).l2).map nD, 3,true⟩]:=by
 rw[jb]
 unfold DD
 dsimp only
 have r1:ba n (bp b 1 s):=by subst hn;exact hs.tk _
 have r2:ba n (bp b 2 (bp b 1 s)):=by subst hn;exact(hs.tk _).tk _
 have hk:aV b 2 (bp b 1 s)<4:=bH b 2 _
 generalize e3:fl (bp b 2 (bp b 1 s)) (decide (((aV b 2 (bp b 1 s):Nat):Int)≤2)) 130=s3
 have r3:ba n s3:=by rw[←e3];exact r2.fl _ _
 split
 ·next h=>exact I5 (I2 b n hn hN s hs _ _ _ _ s3 rfl rfl rfl rfl ⟨e3⟩ h)
 ·next h=>
  have h:s3.e=0:=by omega
  have hk2:aV b 2 (bp b 1 s)≤2:=by
   rw[←e3]at h
   have:=(vJ (by decide) h).2.1
   simp at this;omega
  split
  ·next h0=>exact I5 (I3 b n hn hN s hs _ _ _ _ s3 rfl rfl rfl rfl ⟨e3⟩ h h0 ⟨(s3.p+7)/8*8,0⟩ _ _ _ _ _ ⟨by push_cast;rfl,h,rfl⟩ rfl rfl rfl rfl ⟨rfl⟩)
  ·next h0=>
   split
   ·next h1=>exact Eh _ _ rfl rfl b n hn hN s hs _ _ _ _ s3 rfl rfl rfl rfl ⟨e3⟩ h h1
   ·next h1=>
    have h2:aV b 2 (bp b 1 s)=2:=by omega
    unfold zt
    dsimp only
    split
    ·next h3=>exact I5 (Ef b n hn hN s hs _ _ _ _ s3 rfl rfl rfl rfl ⟨e3⟩ h h2 _ _ _ _ _ _ _ _ _ _ _ _ _ _ _ ⟨rfl,rfl,rfl,rfl,rfl,rfl,rfl,rfl,rfl,rfl,rfl,⟨rfl⟩,rfl,rfl,rfl⟩ h3)
    ·next h3=>exact Eg b n hn hN s hs _ _ _ _ s3 rfl rfl rfl rfl ⟨e3⟩ h h2 _ _ _ _ _ _ _ _ _ _ _ _ _ _ _ ⟨rfl,rfl,rfl,rfl,rfl,rfl,rfl,rfl,rfl,rfl,rfl,⟨rfl⟩,rfl,rfl,rfl⟩ _ rfl _ _ _ _ _ _ _ _ ⟨by omega,⟨rfl⟩,rfl,rfl,⟨rfl⟩,rfl,rfl,rfl,rfl⟩
end Vp
end Go.Proofs.Ytefjnofhgkjpmaa

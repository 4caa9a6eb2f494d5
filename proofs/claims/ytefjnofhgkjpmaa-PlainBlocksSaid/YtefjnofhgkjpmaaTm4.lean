/- Part 4. -/
import Derived.Test.YtefjnofhgkjpmaaTm3
import Derived.IntWalk
set_option linter.unusedVariables false
set_option linter.unusedSimpArgs false
set_option maxRecDepth 100000
set_option maxHeartbeats 4000000
open Array renaming replicate → W7
open BitVec renaming ofInt → TA, toNat_ofNat → WE
open Bool renaming and_eq_true → Tw, not_eq_true' → VC, or_eq_true → VF
open Go.Code renaming roundsIn → Xu
open Go.IntKind renaming wrap → TM
open Go.IntWalk renaming i64_in → XW, u32_in → X0, u8_in → Ye
open Go.Region renaming wanted → V3
open Go.Vx.D renaming agg → UA, fn → U9, sl → TL, tup → Uw
open Go.Vx.Tr renaming get_set → Wu, ofL → XZ, of_ofL → Xh, of_set → UX, okK → XX
open Int renaming eq_ofNat_of_zero_le → UI, fdiv_eq_ediv_of_nonneg → Vi, le_of_lt → Yo, natCast_emod → WT, toNat → zK, toNat_natCast → Vf, toNat_of_nonneg → Vc
open List renaming all_cons → WY, all_eq_true → WS, eq_nil_of_length_eq_zero → Ua, getD_eq_getElem?_getD → To, getElem?_cons_succ → Vg, getElem?_eq_getElem → Ts, getElem?_map → TN, getElem?_of_mem → Ux, getElem?_set → U3, length_cons → T3, length_map → TH, length_nil → Vj, map_cons → Vq, mem_cons_of_mem → TU, mem_cons_self → TP, mem_map → WI, mem_of_getElem? → UB, take_length → Uy
open Nat renaming and_le_left → XJ, and_two_pow_sub_one_eq_mod → Wa, beq → Tx, beq_refl → Uz, ble → Tz, ble_eq_true_of_le → Tv, blt → VL, div_add_mod → YR, eq_of_beq_eq_true → TB, le_add_right → V4, le_of_ble_eq_true → TC, le_refl → TD, le_trans → T6, lt_irrefl → V1, lt_of_lt_of_le → Ug, mod_eq_of_lt → UZ, not_succ_le_zero → W4, or_lt_two_pow → Yq, sub_zero → WK, two_pow_add_eq_or_of_lt → VZ, zero_add → T0, zero_lt_one → VW, zero_mul → Vd
open Ne renaming symm → WW
open Prod renaming fst → Ty, snd → Tm
open UInt8 renaming ofNat → Um, toNat_ofNat' → U6
namespace Go.Vx
open Go.RowKit Go.Bw

def BV:Nat→List Blk→Tr (Nat×Ob)
 |_,[]=>.e
 |i,b::r=>(BV (i+1) r).set i (some (i,.b b))
theorem qu:∀(bs:List Blk) (i k:Nat) {g:Nat} {o:Ob},(BV i bs).get k=some (g,o)→i≤k∧g=k∧∃b,o= .b b∧bs[k-i]? =some b
 |[],i,k,g,o,h=>by cases h
 |x::r,i,k,g,o,h=>by
  rcases UX h with⟨rfl,hv⟩|⟨e,h⟩
  ·cases hv;exact⟨TD _,rfl,x,rfl,by simp⟩
  ·obtain⟨h1,h2,b,h3,h4⟩:=qu r (i+1) k h
   exact⟨by omega,h2,b,h3,by rw[show k-i=(k-(i+1))+1 by omega,Vg];exact h4⟩
def s0 (ds:List D)(hin:List Blk):AS:={tm:=mT 0 ds,hp:=BV 0 hin,nx:=hin.length}

mutual
def D.pl:D→Bool
 | .v _=>true
 | .agg cs=>xS cs
 | .ifc _ x=>x.pl
 |_=>false
def xS:List D→Bool
 |[]=>true
 |d::r=>d.pl&&xS r
end
theorem jP {l:List D}:xS l=true↔∀d∈l,d.pl=true:=by
 induction l with
 |nil=>simp[xS]
 |cons x l ih=>simp[xS,ih]
theorem cM (bs:List UInt8):xS (bs.map dB)=true:=jP.2 fun d hd=>by simp only[WI]at hd;obtain⟨b,_,rfl⟩:=hd;rfl
theorem RD.plain {E:Env}{w:World}{d:D}{u:Value}(h:RD E w d u):d.pl=true→∀(E':Env) (w':World),RD E' w' d u:=by
 induction h with
 |v c h=>exact fun _ _ _=>.v c h
 |agg cs us hlen _ h1 ih=>exact fun hc E' w'=> .agg cs us hlen (fun i d u a1 a2=>ih i d u a1 a2 (jP.1 hc d (UB a1)) E' w') h1
 |ifc t x u _ ih=>exact fun hc E' w'=> .ifc t x u (ih hc E' w')
 |_=>intro hc;cases hc
mutual
theorem D.pl_closed:∀(d:D),d.pl=true→d.closed=true
 | .v _,_=>rfl
 | .agg cs,h=>iz cs h
 | .ifc _ x,h=>D.pl_closed x h
 | .sl ..,h=>nomatch h
 | .ref ..,h=>nomatch h
 | .ptr ..,h=>nomatch h
 | .ep ..,h=>nomatch h
 | .tup _,h=>nomatch h
 | .fn ..,h=>nomatch h
 | .yl ..,h=>nomatch h
theorem iz:∀(l:List D),xS l=true→af l=true
 |[],_=>rfl
 |d::r,h=>by
  have h':(d.pl&&xS r)=true:=h
  rw[Tw]at h'
  show(d.closed&&af r)=true
  rw[D.pl_closed d h'.1,iz r h'.2];rfl
end


mutual
def nc (al:Bool)(n:Nat):D→Bool
 | .v _=>true
 | .sl _ _ _ _=>al
 | .ref _ g _ _ _=>VL g n
 | .ptr _ g _=>VL g n
 | .ep _ _=>al
 | .agg cs=>eY al n cs
 | .tup cs=>eY al n cs
 | .ifc _ x=>nc al n x
 | .fn _ fi ca=>eY al n fi&&eY al n ca
 | .yl _ g=>VL g n
def eY (al:Bool)(n:Nat):List D→Bool
 |[]=>true
 |d::r=>nc al n d&&eY al n r
end
theorem f9 {al:Bool}{n:Nat}:∀{l:List D},eY al n l=true→∀(j:Nat) d,l[j]? =some d→nc al n d=true
 |[],_,j,d,h=>by simp at h
 |x::r,h,j,d,hj=>by
  simp only[eY,Tw]at h
  cases j with
  |zero=>simp at hj;subst hj;exact h.1
  |succ j=>exact f9 h.2 j d (by simpa using hj)

def M7 (al:Bool)(n:Nat)(b:Blk):Bool:=bif b.row then(bif al then af b.cells else xS b.cells)else eY al n b.cells
def ER (al:Bool)(n:Nat)(κ γ:Nat→Nat)(s:AS):List Nat→List Nat→List Blk→Prop
 |[],[],[]=>True
 |k::ks,g::gs,b::bs=>s.at k=some (g,b7 κ γ b)∧M7 al n b=true∧ER al n κ γ s ks gs bs
 |_,_,_=>False
theorem uq {al:Bool}{n:Nat}{κ γ:Nat→Nat}{s:AS}:∀{ks gs:List Nat} {bs:List Blk},ER al n κ γ s ks gs bs→ks.length=bs.length∧gs.length=bs.length∧∀(j:Nat) b,bs[j]? =some b→s.at (ks.getD j 0)=some (gs.getD j 0,b7 κ γ b)∧M7 al n b=true
 |[],[],[],_=>⟨rfl,rfl,fun j b h=>by simp at h⟩
 |k::ks,g::gs,b::bs,⟨h1,h2,h3⟩=>by
  obtain⟨e1,e2,e3⟩:=uq h3
  refine⟨by simp[e1],by simp[e2],fun j b' hb=>?_⟩
  cases j with
  |zero=>simp at hb;subst hb;exact⟨h1,h2⟩
  |succ j=>simpa using e3 j b' (by simpa using hb)
 |[],[],_::_,h=>h.elim
 |[],_::_,_,h=>h.elim
 |_::_,[],_,h=>h.elim
 |_::_,_::_,[],h=>h.elim
def jQ:Nat→Nat→List Nat→Bool
 |_,0,_=>true
 |i,m+1,g::r=>Tx g i&&jQ (i+1) m r
 |_,_+1,[]=>false
theorem jm:∀{m i:Nat} {gs:List Nat},jQ i m gs=true→∀j,j<m→gs.getD j 0=i+j
 |0,_,_,_,j,hj=>by omega
 |m+1,i,[],h,j,hj=>by simp[jQ]at h
 |m+1,i,g::r,h,j,hj=>by
  simp only[jQ,Tw]at h
  cases j with
  |zero=>simpa using TB h.1
  |succ j=>
   have:=jm h.2 j (by omega)
   simp only[List.getD_cons_succ]
   omega

structure Out (al:Bool)(m:Nat)(s:AS)(l:List D)(r:D)(bs:List Blk):Prop where
 h:∃ks gs:List Nat,ER al bs.length (fun j=>ks.getD j 0) (fun j=>gs.getD j 0) s ks gs bs∧f8 ks=true∧jQ 0 m gs=true∧dp (fun j=>ks.getD j 0) (fun j=>gs.getD j 0) r=ud l∧nc al bs.length r=true

section
variable {P:Program} {T:TT} {nt kb:Nat}

theorem BW {E Er:Env}{w:World}{κ γ:Nat→Nat}{n:Nat}{al:Bool}(hg:∀j,j<n→E.nm (γ j)→Er.nm j∧E.φ (γ j)=Er.φ j)(ho:al=true→∀b,Er.own b→E.own b):∀{d:D} {u:Value},RD E w d u→∀r,dp κ γ r=d→nc al n r=true→RD Er w r u:=by
 have lst:∀{rs cs:List D},f7 κ γ rs=cs→cs.length=rs.length∧∀j:Nat,cs[j]? =(rs[j]?).map (dp κ γ):=fun{rs cs} h=>by
  subst h;rw[fw];exact⟨by simp,fun j=>by simp⟩
 intro d u h
 induction h with
 |v c h=>
  intro r hr hok
  cases r<;>simp only[dp,reduceCtorEq,D.v.injEq]at hr
  subst hr;exact .v _ h
 |@sl E1 w1 nn m sz cells ad c us hlen hd h1 hn hs hc h0 hr' ih=>
  intro r hr hok
  cases r<;>simp only[dp,reduceCtorEq,D.sl.injEq]at hr
  obtain⟨rfl,rfl,rfl,rfl⟩:=hr
  exact RD.ofCl (RD.step (E:=E1.cl) (E':=Er.cl) (w:=w1) (w':=w1) ⟨fun _ h=>h.elim,fun _ h=>h.elim,TD _,fun b _ hb=>⟨fun h=>hb (ho hok b h),rfl⟩,fun _ _=>rfl⟩ ((RD.sl _ _ _ _ ad c us hlen hd h1 hn hs hc h0 hr').weak rfl))
 |ref k g off m sz c b off' t mm hg' hb hc ho' hsh hm=>
  intro r hr hok
  cases r<;>simp only[dp,reduceCtorEq,D.ref.injEq]at hr
  obtain⟨rfl,rfl,rfl,rfl,rfl⟩:=hr
  rename_i k0 g0 _ _ _
  have hlt:g0<n:=TC hok
  exact .ref k0 g0 _ _ _ c b off' t mm (hg g0 hlt hg').1 ((hg g0 hlt hg').2.symm.trans hb) hc ho' hsh hm
 |refn k g sz hg' hb=>
  intro r hr hok
  cases r<;>simp only[dp,reduceCtorEq,D.ref.injEq]at hr
  obtain⟨rfl,rfl,rfl,rfl,rfl⟩:=hr
  rename_i k0 g0 sz0
  have hlt:g0<n:=TC hok
  exact .refn k0 g0 _ (hg g0 hlt hg').1 ((hg g0 hlt hg').2.symm.trans hb)
 |ptr k g off b hg' hb=>
  intro r hr hok
  cases r<;>simp only[dp,reduceCtorEq,D.ptr.injEq]at hr
  obtain⟨rfl,rfl,rfl⟩:=hr
  rename_i k0 g0 _
  have hlt:g0<n:=TC hok
  exact .ptr k0 g0 _ b (hg g0 hlt hg').1 ((hg g0 hlt hg').2.symm.trans hb)
 |@ep E1 w1 cells off b o us hlen hd h1 hb ho' hr' ih=>
  intro r hr hok
  cases r<;>simp only[dp,reduceCtorEq,D.ep.injEq]at hr
  obtain⟨rfl,rfl⟩:=hr
  exact .ep _ _ b o us hlen (fun i d u a1 a2=>(hd i d u a1 a2).step (E:=E1.cl) (E':=Er.cl) (w:=w1) (w':=w1) ⟨fun _ h=>h.elim,fun _ h=>h.elim,TD _,fun b _ hb=>⟨fun h=>hb (ho hok b h),rfl⟩,fun _ _=>rfl⟩) h1 hb (fun hh=>ho' (ho hok b hh)) hr'
 |agg cs us hlen _ h1 ih=>
  intro r hr hok
  cases r<;>simp only[dp,reduceCtorEq,D.agg.injEq]at hr
  rename_i rs
  obtain⟨e1,e2⟩:=lst hr
  refine .agg rs us (by rw[hlen,e1]) (fun i d u a1 a2=>?_) h1
  exact ih i _ u (by rw[e2,a1];rfl) a2 hg ho d rfl (f9 hok i d a1)
 |tup cs us hlen _ ih=>
  intro r hr hok
  cases r<;>simp only[dp,reduceCtorEq,D.tup.injEq]at hr
  rename_i rs
  obtain⟨e1,e2⟩:=lst hr
  refine .tup rs us (by rw[hlen,e1]) (fun i d u a1 a2=>?_)
  exact ih i _ u (by rw[e2,a1];rfl) a2 hg ho d rfl (f9 hok i d a1)
 |ifc t x u _ ih=>
  intro r hr hok
  cases r<;>simp only[dp,reduceCtorEq,D.ifc.injEq]at hr
  obtain⟨rfl,rfl⟩:=hr
  exact .ifc _ _ u (ih hg ho _ rfl hok)
 |fn f fi ca us vs hl1 hl2 _ _ ih1 ih2=>
  intro r hr hok
  cases r<;>simp only[dp,reduceCtorEq,D.fn.injEq]at hr
  rename_i f' fi' ca'
  obtain⟨rfl,hr1,hr2⟩:=hr
  rw[nc,Tw]at hok
  obtain⟨e1,e2⟩:=lst hr1
  obtain⟨e3,e4⟩:=lst hr2
  exact .fn _ fi' ca' us vs (by rw[hl1,e1]) (by rw[hl2,e3]) (fun i d u a1 a2=>ih1 i _ u (by rw[e2,a1];rfl) a2 hg ho d rfl (f9 hok.1 i d a1)) (fun i d u a1 a2=>ih2 i _ u (by rw[e4,a1];rfl) a2 hg ho d rfl (f9 hok.2 i d a1))
 |yl k g b hg' hb=>
  intro r hr hok
  cases r<;>simp only[dp,reduceCtorEq,D.yl.injEq]at hr
  obtain⟨rfl,rfl⟩:=hr
  rename_i k0 g0
  have hlt:g0<n:=TC hok
  exact .yl k0 g0 b (hg g0 hlt hg').1 ((hg g0 hlt hg').2.symm.trans hb)

theorem SpecH.of {al:Bool}(hT:T.ok P){f:FuncId}{fn:Func}{c:Code}(hf:P.funcs[f]? =some fn)(hb:fn.body=some c){rs:List ResultVar}(hrs:fn.results=⟨rs⟩){ds:List D}{hin:List Blk}{r:D}{bs:List Blk}(hle:Tz hin.length bs.length=true)
  (h:AWP P false fn.ntmps hin.length c (s0 ds hin) fun e s'=>(e= .normal∨e= .ret)∧jj T s' rs fun l=>Out al hin.length s' l r bs):SpecH al P f ds hin r bs:=by
 refine⟨TC hle,fun O φ w args hOlt hhin hinj hal hargs=>?_⟩
 have hm:=TC hle
 have hnamed:∀{j x},j<hin.length→φ j=some x→x<w.heap.size:=fun{j x} hj hx=>by
  have:=(hhin j _ (Ts hj)).2
  have hx':(eW O φ hin.length).φ j=some x:=hx
  rw[hx']at this;exact this.2.1
 let cx:Cx:=⟨w.heap.size,w,fn.ntmps,O,fun k=>w.heap.size≤k∨∃j,j<hin.length∧φ j=some k,fun _ h=>.inl h,hin.length⟩
 have hin_:∀{k g o},(s0 ds hin).gat k=some (g,o)→k<hin.length∧g=k∧∃b,o= .b b∧hin[k]? =some b:=fun{k g o} hk=>by
  obtain⟨_,h2,b,h3,h4⟩:=qu hin 0 k hk
  rw[WK]at h4
  exact⟨(List.getElem?_eq_some_iff.1 h4).1,h2,b,h3,h4⟩
 have hsr:SR cx (eW O φ hin.length) (s0 ds hin) {
                           tmps:=args.toArray++W7 (fn.ntmps-args.toArray.size) undef,defers:=[]} w:={
  fr:=rR hal hargs
  sz:=by show fn.ntmps≤_;simp;omega
  df:=mI.nil _ _ _
  hp:=fun k g b hk=>by
   obtain⟨_,rfl,b',e,h4⟩:=hin_ (AS.at_iff.1 hk)
   cases e;exact hhin _ _ h4
  lp:=fun k g b hk=>by
   obtain⟨_,_,b',e,_⟩:=hin_ (AS.lat_iff.1 hk)
   cases e
  inj:=fun k k' g g' o o' hkk h1 h2=>by
   obtain⟨a1,rfl,_⟩:=hin_ h1
   obtain⟨a2,rfl,_⟩:=hin_ h2
   exact fun x=>hinj _ _ x a1 a2 hkk
  lt:=fun x hx=>by
   rcases hx with hx|⟨j,hj,hx⟩
   ·exact hOlt x hx
   ·exact hnamed hj hx
  low:=fun x ⟨k,g,o,hk,hx⟩=>by
   obtain⟨a1,rfl,_⟩:=hin_ hk
   exact .inr ⟨_,a1,hx⟩
  base:=fun x hx=>.inl hx
  bel:=Fr.refl _ _
  nm:=fun g hg=>.inl hg
  szB:=TD _}
 refine(rQ (Φ:=fun l s'=>Out al hin.length s' l r bs) hT hf hb hrs h (cx:=cx) rfl (TD _) rfl hsr).mono ?_
 rintro e w' ⟨l,s',E',a',v,rfl,⟨ks,gs,hexp,hnd,hgs,hmap,hok⟩,hu,hs',_,hst,hown,hold,hr⟩
 obtain⟨x1,x2,x3⟩:=uq hexp
 refine⟨v,rfl,hs'.bel,fun j=>if j<bs.length then E'.φ (gs.getD j 0)else none,fun j hj=>?_,?_,fun j b hb=>?_,fun i j x hi hj hij h1 h2=>?_,fun j x hmj hj hx=>?_⟩
 ·have hj':j<bs.length:=by omega
  show(if j<bs.length then E'.φ (gs.getD j 0)else none)=φ j
  rw[if_pos hj',jm hgs j hj,T0]
  exact hst.φ j hj hj
 ·have hφ:∀j,j<bs.length→(fun j=>if j<bs.length then E'.φ (gs.getD j 0)else none) j=E'.φ (gs.getD j 0):=fun j hj=>if_pos hj
  refine BW (fun j hj _=>⟨hj,(hφ j hj).symm⟩) (fun hal' b hb=>?_) hr r hmap hok
  rcases hb with hb|⟨j,hj,hx⟩
  ·unfold jh at hb;rw[if_pos hal']at hb;exact hs'.base b hb
  ·rw[hφ j hj]at hx
   obtain⟨y1,_⟩:=x3 j _ (Ts hj)
   exact hs'.own_of ⟨_,_,_,AS.at_iff.1 y1,hx⟩
 ·have hj:j<bs.length:=(List.getElem?_eq_some_iff.1 hb).1
  have hφ:∀j,j<bs.length→(fun j=>if j<bs.length then E'.φ (gs.getD j 0)else none) j=E'.φ (gs.getD j 0):=fun j hj=>if_pos hj
  have hownr:al=true→∀b,(eW (jh al O w) (fun j=>if j<bs.length then E'.φ (gs.getD j 0)else none) bs.length).own b→E'.own b:=fun hal' b hb=>by
   rcases hb with hb|⟨j,hj,hx⟩
   ·unfold jh at hb;rw[if_pos hal']at hb;exact hs'.base b hb
   ·rw[hφ j hj]at hx
    obtain⟨y1,_⟩:=x3 j _ (Ts hj)
    exact hs'.own_of ⟨_,_,_,AS.at_iff.1 y1,hx⟩
  obtain⟨y1,y2⟩:=x3 j b hb
  obtain⟨z1,z2⟩:=hs'.hp _ _ _ y1
  obtain⟨m1,m2,m3⟩:=io (fun j=>ks.getD j 0) (fun j=>gs.getD j 0) b
  refine⟨⟨hj,?_⟩,fun hrow=>?_⟩
  rotate_left
  ·unfold M7 at y2
   rw[hrow,cond_true]at y2
   cases al with
   |true=>exact y2
   |false=>exact iz _ y2
  show match(fun j=>if j<bs.length then E'.φ (gs.getD j 0)else none) j with|none=>_|some b=>_
  rw[hφ j hj]
  cases hp:E'.φ (gs.getD j 0)with
  |none=>
   rw[hp]at z2
   exact⟨Ua (by rw[←m3,z2.1];rfl),by rw[←m2];exact z2.2⟩
  |some x=>
   rw[hp]at z2
   obtain⟨_,c0,cur,fr,c1,c2,c3,c4,c5⟩:=z2
   refine⟨.inr ⟨j,hj,(hφ j hj).trans hp⟩,c0,cur,fr,by rw[←m1];exact c1,c2,by rw[←m3];exact c3,fun hr=>by rw[←m3];exact c4 (by rw[m2];exact hr),fun i d hd=>?_⟩
   unfold M7 at y2
   cases hrow:b.row with
   |true=>
    rw[hrow,cond_true]at y2
    have e:(b7 (fun j=>ks.getD j 0) (fun j=>gs.getD j 0) b).cells=b.cells:=by unfold b7;rw[hrow];rfl
    obtain⟨v,v1,v2,v3⟩:=c5 i d (by rw[e];exact hd)
    refine⟨v,v1,v2,?_⟩
    cases al with
    |true=>exact RD.ofCl ((v3.weak (bn y2 hd)).step (E:=E'.cl) (E':=Env.cl (eW (jh true O w) _ bs.length)) (w:=w') (w':=w') ⟨fun _ h=>h.elim,fun _ h=>h.elim,TD _,fun b _ hb=>⟨fun h=>hb (hownr rfl b h),rfl⟩,fun _ _=>rfl⟩)
    |false=>exact v3.plain (jP.1 y2 d (UB hd)) _ _
   |false=>
    rw[hrow,cond_false]at y2
    have e:(b7 (fun j=>ks.getD j 0) (fun j=>gs.getD j 0) b).cells=f7 (fun j=>ks.getD j 0) (fun j=>gs.getD j 0) b.cells:=by unfold b7;rw[hrow];rfl
    obtain⟨v,v1,v2,v3⟩:=c5 i (dp (fun j=>ks.getD j 0) (fun j=>gs.getD j 0) d) (by rw[e,fw,TN,hd];rfl)
    exact⟨v,v1,v2,BW (fun j hj _=>⟨hj,(hφ j hj).symm⟩) hownr v3 d rfl (f9 y2 i d hd)⟩
 ·simp only[hi,hj,if_true]at h1 h2
  obtain⟨y1,_⟩:=x3 i _ (Ts hi)
  obtain⟨y2,_⟩:=x3 j _ (Ts hj)
  refine hs'.inj _ _ _ _ _ _ (fun e=>hij ?_) (AS.at_iff.1 y1) (AS.at_iff.1 y2) x h1 h2
  have e1:ks[i]? =some (ks.getD i 0):=by simp[show i<ks.length by omega]
  have e2:ks[j]? =some (ks.getD j 0):=by simp[show j<ks.length by omega]
  exact g6 (dq hnd) e1 (by rw[e];exact e2)
 ·simp only[hj,if_true]at hx
  obtain⟨y1,_⟩:=x3 j _ (Ts hj)
  rcases hs'.low x ⟨_,_,_,AS.at_iff.1 y1,hx⟩with h1|⟨j0,hj0,hx0⟩
  ·exact h1
  ·exfalso
   have hj0':j0<bs.length:=by omega
   obtain⟨y2,_⟩:=x3 j0 _ (Ts hj0')
   have e0:E'.φ (gs.getD j0 0)=some x:=by
    rw[jm hgs j0 hj0,T0]
    exact(hst.φ j0 hj0 hj0).trans hx0
   refine hs'.inj _ _ _ _ _ _ (fun e=>?_) (AS.at_iff.1 y1) (AS.at_iff.1 y2) x hx e0
   have e1:ks[j]? =some (ks.getD j 0):=by simp[show j<ks.length by omega]
   have e2:ks[j0]? =some (ks.getD j0 0):=by simp[show j0<ks.length by omega]
   have:=g6 (dq hnd) e1 (by rw[e];exact e2)
   omega
end
end Go.Vx
namespace Go.Vx
open Go.RowKit Go.Bw
def ES (P:Program)(p:Nat×TI):Prop:=P.underlying p.1=some p.2.desc∧(P.info? p.1).map (fun i=>(i.zero,i.size,i.bytes))=some (some p.2.zero,p.2.size,p.2.bytes)∧p.2.zero.cells.size=p.2.size∧(p.2.plain=true→P.stoodInHeld p.1=false∧P.eqGuardType P.depth p.1=false∧∀fs,p.2.desc= .struct fs→fs.toList.all (fun f=>f.name != "_")=true)
theorem Q0 {P:Program}{t:Nat}{d:TypeDesc}{z:Value}{sz b:Nat}(h1:P.underlying t=some d)(h2:(P.info? t).map (fun i=>(i.zero,i.size,i.bytes))=some (some z,sz,b))(h3:z.cells.size=sz):ES P (t,⟨d,z,sz,b,false⟩):=⟨h1,h2,h3,fun h=>by cases h⟩
theorem M8 {P:Program}{t:Nat}{d:TypeDesc}{z:Value}{sz b:Nat}(h1:P.underlying t=some d)(h2:(P.info? t).map (fun i=>(i.zero,i.size,i.bytes))=some (some z,sz,b))(h3:z.cells.size=sz)(h4:P.stoodInHeld t=false)(h5:P.eqGuardType P.depth t=false)(h6:(match d with| .struct fs=>fs.toList.all (fun f=>f.name != "_")|_=>true)=true):ES P (t,⟨d,z,sz,b,true⟩):=⟨h1,h2,h3,fun _=>⟨h4,h5,fun fs e=>by subst e;exact h6⟩⟩
def BX (P:Program):List (Nat×TI)→Prop
 |[]=>True
 |p::r=>ES P p∧BX P r
theorem qv {P:Program}:∀{l:List (Nat×TI)},BX P l→∀p∈l,ES P p
 |[],_,p,h=>by cases h
 |q::r,h,p,hp=>by
  rcases List.mem_cons.1 hp with rfl|hp
  ·exact h.1
  ·exact qv h.2 p hp
theorem TT.ok_ofL {P:Program}{l:List (Nat×TI)}{T:TT}(h:BX P l)(e:T=XZ l):TT.ok P T:=by
 intro t i hi
 subst e
 obtain⟨h1,h2,h3,h4⟩:=qv h _ (Xh hi)
 obtain⟨j,j1,j2,j3,j4⟩:=info_parts h2
 exact⟨h1,h3,⟨j,j1,j2,j3,j4⟩,h4⟩
theorem az.of {P:Program}{f:FuncId}{fn:Func}(hf:P.funcs[f]? =some fn)(h1:fn.body.isNone=false)(h2:(fn.name== "runtime.NumGoroutine")=false):az P f:=⟨fn,hf,h1,h2⟩
theorem D.sim.of_eq {d d':D}(h:d=d'):d.sim d':=h▸ .refl d
theorem cj.of_eq {l l':List D}(h:l=l'):cj l l':=h▸cj.refl l
theorem D.sim.slw {nn:Bool}{n n' sz:Nat}{cells cells':List D}(h1:n=n')(h2:cells=cells'):(TL nn n sz cells).sim (.sl false n' sz cells'):=by
 subst h1 h2
 intro E w u h
 cases h with
 |sl _ _ _ _ a c us hlen hd h1 hn hs hc h0 hr=>exact .sl _ _ _ _ a c us hlen hd h1 hn hs hc (fun h=>⟨(h0 h).1,rfl⟩) hr
theorem du (bs:List UInt8):af (bs.map dB)=true:=iz _ (cM bs)
theorem br {b:Bool}{X Y:Prop}(h1:b=true→X)(h2:b=false→Y):M2 b X Y:=iq.2 ⟨h1,h2⟩
theorem chk {b:Bool}{X:Prop}(h1:b=true)(h2:X):we b X:=bA.2 ⟨h1,h2⟩
theorem Q1 {P:Program}{s:AS}{ds:List D}{f:FuncId}{nm ky:Nat}{K:Option D→Up→Prop}{al:Bool}(fp:List Nat){q q0:List D}{hin:List Blk}{r:D}{bs:List Blk}(hcall:CallOk al P f q0 hin r bs)(h1:jY s al fp ds=some (true,q))(h2:ki s fp fp=some (true,hin))(hsim:cj q q0)
  (h3:(f8 fp&&Tz bs.length (fp.length+8))=true) (h4:K (some (rL (gZ fp ky) (gI s fp nm) bs r)) (ip (gZ fp ky) (gI s fp nm) 0 bs)):callP P s ds f nm ky K:=by
 refine⟨al,fp,q,hin,r,bs,h1,h2,?_,h3,h4⟩
 obtain⟨e,g⟩:=hsim.get
 cases hcall with
 |fn hf hspec=>
  refine .fn hf ⟨hspec.1,fun O φ w args hO hh hi hl ha=>hspec.2 O φ w args hO hh hi (hl.trans e) fun j d u hd hu=>?_⟩
  obtain⟨d0,a1,a2⟩:=g j d hd
  exact a2 _ _ _ (ha j d0 u a1 hu)
 |ext hspec=>
  refine .ext ⟨hspec.1,fun O φ w args hO hh hi hl ha=>hspec.2 O φ w args hO hh hi (hl.trans e) fun j d u hd hu=>?_⟩
  obtain⟨d0,a1,a2⟩:=g j d hd
  exact a2 _ _ _ (ha j d0 u a1 hu)
theorem Q2 {P:Program}{T:TT}{nt kb i:Nat}{o:Oper}{s:AS}{ds:List D}{f:FuncId}{K:AS→Prop}{fn:Func}{c:Code}{rs:List ResultVar}(h1:P.funcs[f]? =some fn)(h2:fn.body=some c)(h3:fn.results=⟨rs⟩)(h4:(fn.name== "runtime.NumGoroutine")=false)
  (h:AWP P false fn.ntmps (s.nx+8*(i+1)) c {tm:=mT 0 ds,hp:=s.hp,nx:=s.nx+8*(i+1),us:=[]} fun e s'=>(e= .normal∨e= .ret)∧jj T s' rs fun l=>K {tm:=eK s.tm o.dst (some (ud l)),hp:=s'.hp,nx:=s'.nx,us:=[]}):callX P T nt kb i o s ds f K:=
 ⟨.inr ⟨fn,c,rs,h1,h2,h3,h4,h⟩⟩
end Go.Vx
namespace Go.Vx
open Go.RowKit Go.Bw

inductive CO where
 |b (x:Blk)
 |c (x:Blk)
 /-- an array,told as a row of closed cells -/
 |r (x:Blk)
 |l (st:LoopState) (pend:Option Code) (params:Array Tmp) (assign body:Code) (nt:Nat) (tm:List (Nat×D))
def CO.ob:CO→Ob
 | .b x=>.b x
 | .c x=>.b x
 | .r x=>.b x
 | .l st pend params assign body nt tm=>.l ⟨st,pend,params,assign,body,nt,XZ tm⟩
structure Ent where
 k':Nat
 g':Nat
 k:Nat
 g:Nat
 o:CO
structure CutS where
 tm:List (Nat×D)
 es:List Ent
 nx:Nat
def CutS.st (c:CutS):AS:=⟨XZ c.tm,XZ (c.es.map fun e=>(e.k',(e.g',e.o.ob))),c.nx,[]⟩
def γE:List Ent→Nat→Nat
 |[],g=>g
 |e::r,g=>bif Tx e.g' g then e.g else γE r g
def κE:List Ent→Nat→Nat
 |[],k=>k
 |e::r,k=>bif Tx e.k' k then e.k else κE r k

def Lq (s:AS)(κ γ:Nat→Nat):List (Nat×D)→Prop
 |[]=>True
 |p::r=>s.tm.get p.1=some (dp κ γ p.2)∧Lq s κ γ r
def JW (tm0:Tr D)(κ γ:Nat→Nat):List (Nat×D)→Prop
 |[]=>True
 |p::r=>tm0.get p.1=some (dp κ γ p.2)∧JW tm0 κ γ r
def Q3 (p:Nat×Blk):Nat×Blk:=(p.1,⟨p.2.cells,p.2.elem,true⟩)
def JX (s:AS)(κ γ:Nat→Nat)(e:Ent):Prop:=
 match e.o with
 | .b x=>s.at e.k=some (e.g,b7 κ γ x)
 | .c x=>s.at e.k=some (e.g,x)
 | .r x=>(s.at e.k).map Q3=some (e.g,x)
 | .l st pend params assign body nt tm=>jZ (s.lat e.k) fun p=>(p.1,p.2.st,p.2.pend,p.2.params,p.2.assign,p.2.body,p.2.nt)=(e.g,st,pend,params,assign,body,nt)∧JW p.2.tm κ γ tm
def Lr (s:AS)(κ γ:Nat→Nat):List Ent→Prop
 |[]=>True
 |e::r=>JX s κ γ e∧Lr s κ γ r
def CutS.ok (c:CutS)(xn:Nat):Bool:=
 f8 (c.es.map (·.g'))&&f8 (c.es.map (·.k))&&c.es.all (fun e=>VL e.g' c.nx&&(Tx e.g' e.g||(Tz xn e.g'&&Tz xn e.g)))&&Tz xn c.nx
def BY (n:Nat):List Ent→Prop
 |[]=>True
 |e::r=>(match e.o with
  | .b x=>(x.row=true→af x.cells=true)∧(x.row=false→eY true n x.cells=true)
  | .c x=>af x.cells=true
  | .r x=>af x.cells=true
  | .l _ _ _ _ _ _ tm=>(tm.all fun p=>nc true n p.2)=true)∧BY n r
def iA (c:CutS):Prop:=BY c.nx c.es∧(c.tm.all fun p=>nc true c.nx p.2)=true
mutual
theorem mc:∀(d:D) {n:Nat},d.closed=true→nc true n d=true
 | .v _,_,_=>rfl
 | .sl _ _ _ _,_,_=>rfl
 | .agg cs,_,h=>dM cs h
 | .tup cs,_,h=>dM cs h
 | .ifc _ x,_,h=>mc x h
 | .fn _ fi ca,n,h=>by
  have h:(af fi&&af ca)=true:=h
  rw[Tw]at h
  show(eY true n fi&&eY true n ca)=true
  rw[dM fi h.1,dM ca h.2];rfl
 | .ref ..,_,h=>by cases h
 | .ptr ..,_,h=>by cases h
 | .ep ..,_,h=>rfl
 | .yl ..,_,h=>by cases h
theorem dM:∀(l:List D) {n:Nat},af l=true→eY true n l=true
 |[],_,_=>rfl
 |d::r,n,h=>by
  have h:(d.closed&&af r)=true:=h
  rw[Tw]at h
  show(nc true n d&&eY true n r)=true
  rw[mc d h.1,dM r h.2];rfl
end
theorem jn {n:Nat}:∀{a b:List D},eY true n a=true→eY true n b=true→eY true n (a++b)=true
 |[],_,_,h=>h
 |d::r,b,h1,h2=>by
  have h1:(nc true n d&&eY true n r)=true:=h1
  rw[Tw]at h1
  show(nc true n d&&eY true n (r++b))=true
  rw[h1.1,jn h1.2 h2];rfl
theorem ej {n:Nat}{d:D}{r:List D}(h1:nc true n d=true)(h2:eY true n r=true):eY true n (d::r)=true:=by
 show(nc true n d&&eY true n r)=true
 rw[h1,h2];rfl
theorem iB {n:Nat}{p:Nat×D}{r:List (Nat×D)}(h1:nc true n p.2=true)(h2:(r.all fun p=>nc true n p.2)=true):((p::r).all fun p=>nc true n p.2)=true:=by
 rw[WY,h1,h2];rfl

structure CutE (s:AS)(xn:Nat)(c:CutS):Prop where
 tm:Lq s (κE c.es) (γE c.es) c.tm
 es:Lr s (κE c.es) (γE c.es) c.es
 ok:c.ok xn=true
 rows:iA c
 us:s.us=[]

theorem xT {s:AS}{κ γ:Nat→Nat}:∀{l:List (Nat×D)},Lq s κ γ l→∀p∈l,s.tm.get p.1=some (dp κ γ p.2)
 |[],_,p,h=>by cases h
 |q::r,⟨h1,h2⟩,p,h=>by
  rcases List.mem_cons.1 h with rfl|h
  ·exact h1
  ·exact xT h2 p h
theorem ur {s:Tr D}{κ γ:Nat→Nat}:∀{l:List (Nat×D)},JW s κ γ l→∀p∈l,s.get p.1=some (dp κ γ p.2)
 |[],_,p,h=>by cases h
 |q::r,⟨h1,h2⟩,p,h=>by
  rcases List.mem_cons.1 h with rfl|h
  ·exact h1
  ·exact ur h2 p h
theorem rW {s:AS}{κ γ:Nat→Nat}:∀{l:List Ent},Lr s κ γ l→∀e∈l,JX s κ γ e
 |[],_,p,h=>by cases h
 |q::r,⟨h1,h2⟩,p,h=>by
  rcases List.mem_cons.1 h with rfl|h
  ·exact h1
  ·exact rW h2 p h
theorem qw {n:Nat}:∀{l:List Ent},BY n l→∀e∈l,match e.o with
  | .b x=>(x.row=true→af x.cells=true)∧(x.row=false→eY true n x.cells=true)
  | .c x=>af x.cells=true
  | .r x=>af x.cells=true
  | .l _ _ _ _ _ _ tm=>(tm.all fun p=>nc true n p.2)=true
 |[],_,p,h=>by cases h
 |q::r,⟨h1,h2⟩,e,h=>by
  rcases List.mem_cons.1 h with rfl|h
  ·exact h1
  ·exact qw h2 e h
theorem oK:∀{l:List Ent},(l.map (·.g')).Nodup→∀e∈l,γE l e.g'=e.g
 |[],_,e,h=>by cases h
 |q::r,hn,e,h=>by
  simp only[Vq,List.nodup_cons]at hn
  simp only[γE]
  rcases List.mem_cons.1 h with rfl|h
  ·simp
  ·have:Tx q.g' e.g'=false:=by
    cases hb:Tx q.g' e.g' with
    |false=>rfl
    |true=>exact absurd (by rw[TB hb];exact List.mem_map.2 ⟨e,h,rfl⟩) hn.1
   rw[this];exact oK hn.2 e h
theorem rX:∀{l:List Ent} {xn:Nat},(∀e∈l,e.g'=e.g∨(xn≤e.g'∧xn≤e.g))→∀g,g<xn→γE l g=g
 |[],_,_,g,_=>rfl
 |e::r,xn,h,g,hg=>by
  simp only[γE]
  cases hb:Tx e.g' g with
  |true=>
   have:=TB hb
   rcases h e TP with h1|⟨h1,_⟩
   ·rw[cond_true,←h1,this]
   ·omega
  |false=>exact rX (fun e' he=>h e' (TU _ he)) g hg

section
variable {P:Program} {rd:Bool} {nt:Nat}
theorem SR.cut {cx:Cx}{E:Env}{s:AS}{a:Act}{w:World}(h:SR cx E s a w){c:CutS}(hc:CutE s cx.xn c):∃E',SR cx E' c.st a w∧StpX cx.xn E E' w w∧Mut s c.st E E' w w:=by
 obtain⟨htm,hes,hok,hrows,hus⟩:=hc
 obtain⟨hrows,htmok⟩:=hrows
 have htmok:=List.all_eq_true.1 htmok
 simp only[CutS.ok,Tw,WS,VF]at hok
 obtain⟨⟨⟨hg',hk⟩,hall⟩,hxn⟩:=hok
 have hg':=dq hg'
 have hk:=dq hk
 have hxn:=TC hxn
 have hfix:∀e∈c.es,e.g'=e.g∨(cx.xn≤e.g'∧cx.xn≤e.g):=fun e he=>by
  rcases(hall e he).2 with h1|h1
  ·exact .inl (TB h1)
  ·exact .inr ⟨TC h1.1,TC h1.2⟩
 let E':Env:=⟨fun g=>E.φ (γE c.es g),E.own,fun g=>E.nm (γE c.es g)∧g<c.nx⟩
 have hmap:∀{d:D} {u:Value},RD E w (dp (κE c.es) (γE c.es) d) u→nc true c.nx d=true→RD E' w d u:=fun hr ho=>BW (Er:=E') (fun j hj hn=>⟨⟨hn,hj⟩,rfl⟩) (fun _ b hb=>hb) hr _ rfl ho
 have hcl:∀{d:D} {u:Value},RD E.cl w d u→RD E' w d u:=fun hr=>RD.ofCl (RD.step (E:=E.cl) (E':=E'.cl) (w:=w) (w':=w) ⟨fun _ h=>h.elim,fun _ h=>h.elim,TD _,fun b _ hb=>⟨hb,rfl⟩,fun _ _=>rfl⟩ hr)
 have hold:∀{k g o},c.st.gat k=some (g,o)→∃e∈c.es,e.k'=k∧e.g'=g∧e.o.ob=o:=fun{k g o} hkk=>by
  obtain⟨e,he,h1⟩:=List.mem_map.1 (Xh hkk)
  cases h1;exact⟨e,he,rfl,rfl,rfl⟩
 have hgat:∀e∈c.es,∃o,s.gat e.k=some (e.g,o):=fun e he=>by
  have h1:=rW hes e he
  unfold JX at h1
  split at h1
  ·exact⟨_,AS.at_iff.1 h1⟩
  ·exact⟨_,AS.at_iff.1 h1⟩
  ·obtain⟨p,hp,h2⟩:=Option.map_eq_some_iff.1 h1
   obtain⟨g,r⟩:=p
   have:g=e.g:=congrArg Ty h2
   subst this
   exact⟨_,AS.at_iff.1 hp⟩
  ·obtain⟨p,hp,h2,_⟩:=aM.1 h1
   obtain⟨g,r⟩:=p
   have:g=e.g:=congrArg Ty h2
   subst this
   exact⟨_,AS.lat_iff.1 hp⟩
 have hob:∀{k g o},c.st.gat k=some (g,o)→OB E' w g o:=fun{k g o} hkk=>by
  obtain⟨e,he,rfl,rfl,rfl⟩:=hold hkk
  have h1:=rW hes e he
  have hγ:=oK hg' e he
  have hlt:e.g'<c.nx:=TC (hall e he).1
  have hco:=qw hrows e he
  unfold JX at h1
  cases hoo:e.o with
  |b x=>
   rw[hoo]at h1 hco
   dsimp only at h1
   obtain⟨c1,c2⟩:=h.hp _ _ _ h1
   obtain⟨m1,m2,m3⟩:=io (κE c.es) (γE c.es) x
   refine⟨⟨by rw[hγ];exact c1,hlt⟩,?_⟩
   show match E.φ (γE c.es e.g')with|none=>_|some b=>_
   rw[hγ]
   cases hp:E.φ e.g with
   |none=>
    rw[hp]at c2
    exact⟨Ua (by rw[←m3,c2.1];rfl),by rw[←m2];exact c2.2⟩
   |some b=>
    rw[hp]at c2
    obtain⟨d1,d2,cur,fr,d3,d4,d5,d6,d7⟩:=c2
    refine⟨d1,d2,cur,fr,by rw[←m1];exact d3,d4,by rw[←m3];exact d5,fun hr=>by rw[←m3];exact d6 (by rw[m2];exact hr),fun i d hd=>?_⟩
    cases hrow:x.row with
    |true=>
     have e1:(b7 (κE c.es) (γE c.es) x).cells=x.cells:=by unfold b7;rw[hrow];rfl
     obtain⟨v,v1,v2,v3⟩:=d7 i d (by rw[e1];exact hd)
     exact⟨v,v1,v2,hcl (v3.weak (bn (hco.1 hrow) hd))⟩
    |false=>
     have e1:(b7 (κE c.es) (γE c.es) x).cells=f7 (κE c.es) (γE c.es) x.cells:=by unfold b7;rw[hrow];rfl
     obtain⟨v,v1,v2,v3⟩:=d7 i (dp (κE c.es) (γE c.es) d) (by rw[e1,fw,TN,hd];rfl)
     exact⟨v,v1,v2,hmap v3 (f9 (hco.2 hrow) i d hd)⟩
  |c x=>
   rw[hoo]at h1 hco
   dsimp only at h1 hco
   obtain⟨c1,c2⟩:=h.hp _ _ _ h1
   refine⟨⟨by rw[hγ];exact c1,hlt⟩,?_⟩
   show match E.φ (γE c.es e.g')with|none=>_|some b=>_
   rw[hγ]
   cases hp:E.φ e.g with
   |none=>rw[hp]at c2;exact c2
   |some b=>
    rw[hp]at c2
    obtain⟨d1,d2,cur,fr,d3,d4,d5,d6,d7⟩:=c2
    refine⟨d1,d2,cur,fr,d3,d4,d5,d6,fun i d hd=>?_⟩
    obtain⟨v,v1,v2,v3⟩:=d7 i d hd
    exact⟨v,v1,v2,hcl (v3.weak (bn hco hd))⟩
  |r x=>
   rw[hoo]at h1 hco
   dsimp only at h1 hco
   obtain⟨p,hp0,h2⟩:=Option.map_eq_some_iff.1 h1
   obtain⟨g,y⟩:=p
   have e1:g=e.g:=congrArg Ty h2
   have e2:(⟨y.cells,y.elem,true⟩:Blk)=x:=congrArg Tm h2
   subst e1 e2
   obtain⟨c1,c2⟩:=h.hp _ _ _ hp0
   refine⟨⟨by rw[hγ];exact c1,hlt⟩,?_⟩
   show match E.φ (γE c.es e.g')with|none=>_|some b=>_
   rw[hγ]
   cases hp:E.φ e.g with
   |none=>rw[hp]at c2;exact⟨c2.1,rfl⟩
   |some b=>
    rw[hp]at c2
    obtain⟨d1,d2,cur,fr,d3,d4,d5,d6,d7⟩:=c2
    refine⟨d1,d2,cur,fr,d3,d4,d5,fun q=>Bool.noConfusion q,fun i d hd=>?_⟩
    obtain⟨v,v1,v2,v3⟩:=d7 i d hd
    exact⟨v,v1,v2,hcl (v3.weak (bn hco hd))⟩
  |l st pend params assign body nt tm=>
   rw[hoo]at h1 hco
   dsimp only at h1
   obtain⟨p,hp,h2,h3⟩:=aM.1 h1
   obtain⟨g,r⟩:=p
   simp only[Prod.mk.injEq]at h2
   obtain⟨rfl,e1,e2,e3,e4,e5,e6⟩:=h2
   obtain⟨c1,b,L,c2,c3,c4,c5,c6,c7,c8,c9,c10,c11,c12⟩:=h.lp _ _ _ hp
   refine⟨⟨by rw[hγ];exact c1,hlt⟩,b,L,by show E.φ (γE c.es e.g')=_;rw[hγ];exact c2,c3,c4,c5,c6.trans e1,c7.trans e2,c8.trans e3,c9.trans e4,c10.trans e5,by show nt≤_;rw[←e6];exact c11,fun t d hd=>?_⟩
   have hm:=Xh hd
   obtain⟨u,u1,u2⟩:=c12 t _ (ur h3 _ hm)
   exact⟨u,u1,hmap u2 (List.all_eq_true.1 hco _ hm)⟩
 have hown:∀{x},bG c.st E'.φ x→bG s E.φ x:=fun⟨k,g,o,hkk,hx⟩=>by
  obtain⟨e,he,rfl,rfl,rfl⟩:=hold hkk
  obtain⟨o,ho⟩:=hgat e he
  have hx:E.φ (γE c.es e.g')=some _:=hx
  rw[oK hg' e he]at hx
  exact⟨e.k,e.g,o,ho,hx⟩
 refine⟨E',{h with
  fr:=fun t d hd=>?_
  df:=h.df.step (fun b hb=>hb) fun b _ _=>rfl
  hp:=fun k g b hk=>hob (AS.at_iff.1 hk)
  lp:=fun k g b hk=>hob (AS.lat_iff.1 hk)
  inj:=fun k1 k2 g1 g2 o1 o2 hkk h1 h2 x hx1 hx2=>?_
  low:=fun x hx=>h.low x (hown hx)
  nm:=fun g hg=>.inl hg.2},⟨fun g hg hn=>⟨by rw[rX hfix g hg];exact hn,Ug hg hxn⟩,fun g hg _=>by show E.φ (γE c.es g)=_;rw[rX hfix g hg],TD _,fun b _ hb=>⟨hb,rfl⟩,fun _ _=>rfl⟩,⟨fun _ hb=>hb,fun _ _ _=>rfl,fun _ _ hx=>hown hx⟩⟩
 ·have hm:=Xh hd
  obtain⟨u,u1,u2⟩:=h.fr t _ (xT htm _ hm)
  exact⟨u,u1,hmap u2 (htmok _ hm)⟩
 ·obtain⟨e1,he1,rfl,rfl,rfl⟩:=hold h1
  obtain⟨e2,he2,rfl,rfl,rfl⟩:=hold h2
  obtain⟨o1',ho1⟩:=hgat e1 he1
  obtain⟨o2',ho2⟩:=hgat e2 he2
  have hx1:E.φ (γE c.es e1.g')=some x:=hx1
  have hx2:E.φ (γE c.es e2.g')=some x:=hx2
  rw[oK hg' e1 he1]at hx1
  rw[oK hg' e2 he2]at hx2
  refine h.inj e1.k e2.k e1.g e2.g o1' o2' (fun e=>hkk ?_) ho1 ho2 x hx1 hx2
  have:e1=e2:=by
   obtain⟨i,hi⟩:=Ux he1
   obtain⟨j,hj⟩:=Ux he2
   have q1:(c.es.map (·.k))[i]? =some e1.k:=by rw[TN,hi];rfl
   have q2:(c.es.map (·.k))[j]? =some e1.k:=by rw[TN,hj,e];rfl
   have:=g6 hk q1 q2
   subst this
   rw[hi]at hj;cases hj;rfl
  rw[this]

theorem CutE.le {s:AS}{xn xn':Nat}{c:CutS}(h:CutE s xn c)(hx:xn'≤xn):CutE s xn' c:=by
 refine⟨h.tm,h.es,?_,h.rows,h.us⟩
 have hok:=h.ok
 simp only[CutS.ok,Tw,WS,VF]at hok ⊢
 obtain⟨⟨h1,h2⟩,h3⟩:=hok
 refine⟨⟨h1,fun e he=>?_⟩,Tv (T6 hx (TC h3))⟩
 obtain⟨a1,a2⟩:=h2 e he
 exact⟨a1,a2.imp id fun⟨b1,b2⟩=>⟨Tv (T6 hx (TC b1)),Tv (T6 hx (TC b2))⟩⟩
theorem AWP.cutEnd {xn:Nat}{c:Code}{s:AS}{Q:AX→AS→Prop}(h:AWP P rd nt xn c s fun e s'=>∃d:CutS,CutE s' xn d∧Q e d.st):AWP P rd nt xn c s Q:=
 ⟨fun F n cx E a w Q' hF hro hn hu hs hQ=>h.run F n cx E a w Q' hF hro hn hu hs fun e s' E' a' w' ⟨d,hd,hK⟩ hu' hs' hst hmut=>by
  obtain⟨E2,q1,q2,q3⟩:=hs'.cut (hd.le hro.2)
  exact hQ e d.st E2 a' w' hK rfl q1 (hst.trans q2) (hmut.trans q3 hst.size)⟩
theorem AWP.cutStart {xn:Nat}{c:Code}{s:AS}{Q:AX→AS→Prop}{d:CutS}(hd:CutE s xn d)(h:AWP P rd nt xn c d.st Q):AWP P rd nt xn c s Q:=
 ⟨fun F n cx E a w Q' hF hro hn hu hs hQ=>by
  obtain⟨E2,q1,q2,q3⟩:=hs.cut (hd.le hro.2)
  exact h.run F n cx E2 a w Q' hF hro hn rfl q1 fun e s' E' a' w' hK hu' hs' hst hmut=>hQ e s' E' a' w' hK hu' hs' (q2.trans hst) (q3.trans hmut q2.size)⟩
def oM (F:Fence)(n:Nat)(P:Program)(c:Code)(Q:Exit→Act→World→Prop)(a:Act)(w:World):Prop:=
 ∀(b:Frame) (k:List Item) (cs:List Frame),b.roundOf=F.round→F.fn b.fn→F.room (cs.length+1+n)→
  ∃e a' w',Q e a' w'∧ArrivesIn (Machine.fenced P F) P (lone (b.atR a (.code c:: .inLoop c::k)) cs w) b k cs e a' w'
theorem mU {F:Fence}{n:Nat}{c:Code}{Q:Exit→Act→World→Prop}{a:Act}{w:World}(h:c.wpIn F n P (Exit.then (oM F n P c Q) Q) a w):oM F n P c Q a w:=by
 intro b k cs hro hb hr
 obtain⟨e,a₁,w₁,hq,harr⟩:=h b (.inLoop c::k) cs hro hb hr
 cases e with
 |normal=>
  obtain⟨e₂,a₂,w₂,hq₂,harr₂⟩:=hq b k cs hro hb hr
  exact⟨e₂,a₂,w₂,hq₂,.of_steps (StepsIn.trans harr (.one (fenced_calm hb hr rfl) stepR_inLoop)) harr₂⟩
 |exit id=>exact⟨_,a₁,w₁,hq,.pass (x:=.inLoop c) rfl (fun _ _=>.inl (by simp)) harr⟩
 |goto l=>exact⟨_,a₁,w₁,hq,.pass (x:=.inLoop c) rfl (fun _ _=>.inl (by simp)) harr⟩
 |ret=>exact⟨_,a₁,w₁,hq,.pass (x:=.inLoop c) rfl (fun _ _=>.inl (by simp)) harr⟩
 |panic ch=>exact⟨_,a₁,w₁,hq,.pass (x:=.inLoop c) rfl (fun _ _=>.inl (by simp)) harr⟩
 |outgrown=>exact⟨_,a₁,w₁,hq,.pass (x:=.inLoop c) rfl (fun _ _=>.inl (by simp)) harr⟩
theorem gK {F:Fence}{n:Nat}{c:Code}{Q:Exit→Act→World→Prop}:∀(m:Nat) {a:Act} {w:World},Xu F n P c Q m a w→oM F n P c Q a w
 |0,_,_,h=>h.elim
 |m+1,_,_,h=>mU (wpIn_mono h fun e a' w' hq=>by
  cases e with
  |normal=>exact gK m hq
  |_=>exact hq)
theorem zL {F:Fence}{n:Nat}{c:Code}{Q:Exit→Act→World→Prop}{a:Act}{w:World}(h:oM F n P c Q a w):(Code.loop c).wpIn F n P Q a w:=by
 intro b k cs hro hb hr
 obtain⟨e,a',w',hq,harr⟩:=h b k cs hro hb hr
 exact⟨e,a',w',hq,.of_steps (.one (fenced_calm hb hr rfl) stepR_loop) harr⟩
structure AWPl (P:Program)(rd:Bool)(nt xn:Nat)(c:Code)(s:AS)(K:AX→AS→Prop):Prop where
 run:∀(F:Fence) (n:Nat) (cx:Cx) (E:Env) (a:Act) (w:World) (Q:Exit→Act→World→Prop),FOK F→((rd=false→F.round=none)∧cx.xn≤xn)→cx.nt=nt→s.us=[]→SR cx E s a w→
  (∀e s' E' a' w',K e s'→s'.us=[]→SR cx E' s' a' w'→StpX cx.xn E E' w w'→Mut s s' E E' w w'→Q e.ex a' w')→oM F n P c Q a w
theorem AWPl.awp {xn:Nat}{c:Code}{s:AS}{K:AX→AS→Prop}(h:AWPl P rd nt xn c s K):AWP P rd nt xn (.loop c) s K:=
 ⟨fun F n cx E a w Q hF hro hn hu hs hQ=>zL (h.run F n cx E a w Q hF hro hn hu hs hQ)⟩
theorem AWPl.mono {xn:Nat}{c:Code}{s:AS}{K K':AX→AS→Prop}(h:AWPl P rd nt xn c s K)(hk:∀e s',K e s'→K' e s'):AWPl P rd nt xn c s K':=
 ⟨fun F n cx E a w Q hF hr hn hu hs hQ=>h.run F n cx E a w Q hF hr hn hu hs fun e s' E' a' w' hK=>hQ e s' E' a' w' (hk e s' hK)⟩
theorem AWPl.cutStart {xn:Nat}{c:Code}{s:AS}{Q:AX→AS→Prop}{d:CutS}(hd:CutE s xn d)(h:AWPl P rd nt xn c d.st Q):AWPl P rd nt xn c s Q:=
 ⟨fun F n cx E a w Q' hF hro hn hu hs hQ=>by
  obtain⟨E2,q1,q2,q3⟩:=hs.cut (hd.le hro.2)
  exact h.run F n cx E2 a w Q' hF hro hn rfl q1 fun e s' E' a' w' hK hu' hs' hst hmut=>hQ e s' E' a' w' hK hu' hs' (q2.trans hst) (q3.trans hmut q2.size)⟩
theorem AWPl.peel {xn:Nat} {c:Code} {s:AS} {K:AX→AS→Prop} (h:AWP P rd nt xn c s fun e s'=>match e with
  | .normal=>AWPl P rd nt xn c s' K
  |e=>K e s'):AWPl P rd nt xn c s K:=by
 refine⟨fun F n cx E a w Q hF hro hn hu hs hQ=>mU ?_⟩
 refine h.run F n cx E a w _ hF hro hn hu hs fun e s' E' a' w' hK hu' hs' hst' hmut'=>?_
 cases e with
 |normal=>exact hK.run F n cx E' a' w' Q hF hro hn hu' hs' fun e s2 E2 a2 w2 hK2 hu2 gd hst2 hmut2=>hQ e s2 E2 a2 w2 hK2 hu2 gd (hst'.trans hst2) (hmut'.trans hmut2 hst'.size)
 |exit id=>exact hQ (.exit id) s' E' a' w' hK hu' hs' hst' hmut'
 |ret=>exact hQ .ret s' E' a' w' hK hu' hs' hst' hmut'
theorem AWPl.loopI {xn:Nat} {c:Code} {K:AX→AS→Prop} {ι:Type} (S:ι→AS) (hS:∀i,(S i).us=[]) (μ:ι→Nat) (body:∀i,AWP P rd nt xn c (S i) fun e s'=>match e with
   | .normal=>∃i',s'=S i'∧μ i'<μ i
   |e=>K e s') (i0:ι):AWPl P rd nt xn c (S i0) K:=by
 refine⟨fun F n cx E0 a w0 Q hF hro hn hu hs hQ=>?_⟩
 have key:∀m i E a w,μ i<m→SR cx E (S i) a w→StpX cx.xn E0 E w0 w→Mut (S i0) (S i) E0 E w0 w→Xu F n P c Q m a w:=by
  intro m
  induction m with
  |zero=>intro i E a w h;omega
  |succ m ih=>
   intro i E a w hm hs hst hmut
   rw[roundsIn_succ]
   refine(body i).run F n cx E a w _ hF hro hn (hS i) hs fun e s' E' a' w' hK hu' hs' hst' hmut'=>?_
   have hst2:=hst.trans hst'
   have hmut2:=hmut.trans hmut' hst.size
   cases e with
   |normal=>
    obtain⟨i',rfl,hlt⟩:=hK
    exact ih i' E' a' w' (by omega) hs' hst2 hmut2
   |exit id=>exact hQ (.exit id) s' E' a' w' hK hu' hs' hst2 hmut2
   |ret=>exact hQ .ret s' E' a' w' hK hu' hs' hst2 hmut2
 exact gK (μ i0+1) (key _ i0 E0 a w0 (by omega) hs ((Stp.refl E0 w0).x _) (Mut.refl _ _ _))
structure AWPr (P:Program)(rd:Bool)(nt xn:Nat)(c:Code)(m:Nat)(s:AS)(K:AX→AS→Prop):Prop where
 run:∀(F:Fence) (n:Nat) (cx:Cx) (E:Env) (a:Act) (w:World) (Q:Exit→Act→World→Prop),FOK F→((rd=false→F.round=none)∧cx.xn≤xn)→cx.nt=nt→s.us=[]→SR cx E s a w→
  (∀e s' E' a' w',K e s'→s'.us=[]→SR cx E' s' a' w'→StpX cx.xn E E' w w'→Mut s s' E E' w w'→Q e.ex a' w')→Xu F n P c Q m a w
theorem AWPr.step {xn m:Nat} {c:Code} {s:AS} {K:AX→AS→Prop} (h:AWP P rd nt xn c s fun e s'=>match e with
  | .normal=>AWPr P rd nt xn c m s' K
  |e=>K e s'):AWPr P rd nt xn c (m+1) s K:=by
 refine⟨fun F n cx E a w Q hF hro hn hu hs hQ=>?_⟩
 rw[roundsIn_succ]
 refine h.run F n cx E a w _ hF hro hn hu hs fun e s' E' a' w' hK hu' hs' hst' hmut'=>?_
 cases e with
 |normal=>exact hK.run F n cx E' a' w' Q hF hro hn hu' hs' fun e s2 E2 a2 w2 hK2 hu2 gd hst2 hmut2=>hQ e s2 E2 a2 w2 hK2 hu2 gd (hst'.trans hst2) (hmut'.trans hmut2 hst'.size)
 |exit id=>exact hQ (.exit id) s' E' a' w' hK hu' hs' hst' hmut'
 |ret=>exact hQ .ret s' E' a' w' hK hu' hs' hst' hmut'
theorem AWPl.rounds {xn m:Nat}{c:Code}{s:AS}{K:AX→AS→Prop}(h:AWPr P rd nt xn c m s K):AWPl P rd nt xn c s K:=
 ⟨fun F n cx E a w Q hF hro hn hu hs hQ=>gK m (h.run F n cx E a w Q hF hro hn hu hs hQ)⟩
end
end Go.Vx
namespace Go.Vx
open Go.RowKit Go.Bw

def kj:D:=.v (.slice none 0 0)
theorem RD.nil_eq {E:Env}{w:World}{u:Value}(h:RD E w kj u):u= .slice none 0 0:=by
 cases h;rfl
section
variable {P:Program} {rd:Bool} {nt:Nat}

theorem SR.nilN {cx:Cx}{E:Env}{s:AS}{a:Act}{w:World}(h:SR cx E s a w)(hu:s.us=[])(ky:Nat)(elem:TypeId):
  let s':AS:={s with hp:=s.hp.set ky (some (s.nx,.b ⟨[],elem,true⟩)),nx:=s.nx+8}
  SR cx (E.add s' s.nx none) s' a w∧Stp E (E.add s' s.nx none) w w∧(E.add s' s.nx none).nm s.nx∧(E.add s' s.nx none).φ s.nx=none∧Mut s s' E (E.add s' s.nx none) w w:=by
 intro s'
 have hfr:¬E.nm s.nx:=fun hn=>by
  rcases h.nm _ hn with h1|⟨j,hj,h1,h2⟩
  ·omega
  ·rw[hu]at hj;cases hj
 have hat:∀{k' g' o'},s'.gat k'=some (g',o')→(k'=ky∧g'=s.nx∧o'= .b ⟨[],elem,true⟩)∨(k'≠ky∧s.gat k'=some (g',o')):=fun hk=>by
  rcases UX hk with⟨e,hv⟩|⟨e,hk⟩
  ·cases hv;exact .inl ⟨e,rfl,rfl⟩
  ·exact .inr ⟨e,hk⟩
 have hne:∀{k g' o'},s.gat k=some (g',o')→g'≠s.nx:=fun hk e=>by subst e;exact hfr (h.ob hk).nm
 have hφg:(E.add s' s.nx none).φ s.nx=none:=bZ _ _ _
 have hown:∀{x},bG s' (At E.φ s.nx none) x→bG s E.φ x:=fun{x} ⟨k,g',o',hk,hx⟩=>by
  rcases hat hk with⟨_,rfl,_⟩|⟨_,hk⟩
  ·rw[bZ]at hx;cases hx
  ·rw[bi (hne hk)]at hx;exact⟨k,g',o',hk,hx⟩
 have hs:Stp E (E.add s' s.nx none) w w:=by
  refine⟨fun x hx=>.inl hx,fun x hx=>?_,TD _,fun b hb ho=>⟨?_,rfl⟩,fun b hb=>rfl⟩
  ·exact bi (fun e=>by subst e;exact hfr hx)
  ·rintro(ho'|ho')
   ·exact ho ho'
   ·exact ho (h.own_of (hown ho'))
 have hold:∀{k g' o'},s'.gat k=some (g',o')→OB (E.add s' s.nx none) w g' o':=fun{k g' o'} hk=>by
  rcases hat hk with⟨rfl,rfl,rfl⟩|⟨_,hk0⟩
  ·refine⟨.inr rfl,?_⟩
   rw[hφg];exact⟨rfl,rfl⟩
  ·exact(h.ob hk0).step hs fun b hb=>⟨.inr ⟨k,g',o',hk,(bi (hne hk0)).trans hb⟩,rfl⟩
 have hmut:Mut s s' E (E.add s' s.nx none) w w:=⟨fun b hb=>.inl hb,fun b hb _=>rfl,fun x hlt' hx=>hown hx⟩
 refine⟨h.turn _ _ rfl hs (fun k g' b hk=>hold (AS.at_iff.1 hk)) (fun k g' r hk=>hold (AS.lat_iff.1 hk)) ?_ (fun x hx=>h.low x (hown hx)) (Fr.refl _ _) ?_ hmut.heap,hs,.inr rfl,hφg,hmut⟩
 ·intro k k' g1 g2 o1 o2 hkk h1 h2 x hx1 hx2
  rcases hat h1 with⟨_,rfl,_⟩|⟨_,a1⟩
  ·rw[bZ]at hx1;cases hx1
  ·rcases hat h2 with⟨_,rfl,_⟩|⟨_,a2⟩
   ·rw[bZ]at hx2;cases hx2
   ·rw[bi (hne a1)]at hx1
    rw[bi (hne a2)]at hx2
    exact h.inj k k' g1 g2 o1 o2 hkk a1 a2 x hx1 hx2
 ·rintro n (hn|rfl)
  ·rcases h.nm n hn with h1|⟨j,hj,h1⟩
   ·exact .inl (Ug h1 (V4 _ _))
   ·rw[hu]at hj;cases hj
  ·exact .inl (Nat.lt_add_of_pos_right (by omega))

theorem SR.slotSim {cx:Cx}{E:Env}{s:AS}{a:Act}{w:World}(h:SR cx E s a w){t:Nat}{d d':D}(ht:s.tm.get t=some d)(hd:∀u,RD E w d u→RD E w d' u):SR cx E {s with tm:=s.tm.set t (some d')} a w:=by
 refine{h with fr:=fun t' x hx=>?_}
 rcases UX hx with⟨rfl,hv⟩|⟨_,hx⟩
 ·cases hv
  obtain⟨u,hu,hr⟩:=h.fr _ _ ht
  exact⟨u,hu,hd u hr⟩
 ·exact h.fr t' x hx
theorem SR.cellSim {cx:Cx}{E:Env}{s:AS}{a:Act}{w:World}(h:SR cx E s a w){k g j:Nat}{b:Blk}{d d':D}(hk:s.at k=some (g,b))(hrow:b.row=false)(hj:b.cells[j]? =some d)(hd:∀u,RD E w d u→RD E w d' u):
  SR cx E {s with hp:=s.hp.set k (some (g,.b ⟨b.cells.set j d',b.elem,b.row⟩))} a w∧Mut s {s with hp:=s.hp.set k (some (g,.b ⟨b.cells.set j d',b.elem,b.row⟩))} E E w w:=by
 have hat:∀{k' g' o'},AS.gat {s with hp:=s.hp.set k (some (g,.b ⟨b.cells.set j d',b.elem,b.row⟩))} k'=some (g',o')→(k'=k∧g'=g∧o'= .b ⟨b.cells.set j d',b.elem,b.row⟩)∨(k'≠k∧s.gat k'=some (g',o')):=fun hk=>by
  rcases UX hk with⟨e,hv⟩|⟨e,hk⟩
  ·cases hv;exact .inl ⟨e,rfl,rfl⟩
  ·exact .inr ⟨e,hk⟩
 have hold:∀{k' g' o'},AS.gat {s with hp:=s.hp.set k (some (g,.b ⟨b.cells.set j d',b.elem,b.row⟩))} k'=some (g',o')→∃o'',s.gat k'=some (g',o''):=fun hh=>by
  rcases hat hh with⟨rfl,rfl,rfl⟩|⟨_,hh⟩
  ·exact⟨_,AS.at_iff.1 hk⟩
  ·exact⟨_,hh⟩
 refine⟨{h with
  hp:=fun k' g' b' hk'=>?_
  lp:=fun k' g' r hk'=>?_
  inj:=fun k1 k2 g1 g2 o1 o2 hkk h1 h2=>?_
  low:=fun x ⟨k',g',o',hk',hx⟩=>?_},⟨fun _ h=>h,fun _ _ _=>rfl,fun x _ ⟨k',g',o',hk',hx⟩=>?_⟩⟩
 ·rcases hat (AS.at_iff.1 hk')with⟨rfl,rfl,e⟩|⟨_,hk0⟩
  ·cases e
   obtain⟨h1,h2⟩:=h.hp _ _ _ hk
   refine⟨h1,?_⟩
   cases hp:E.φ g' with
   |none=>rw[hp]at h2;rw[hrow]at h2;cases h2.2
   |some x=>
    rw[hp]at h2
    obtain⟨a1,a2,cur,fr,a3,a4,a5,a6,a7⟩:=h2
    refine⟨a1,a2,cur,fr,a3,a4,by simpa using a5,fun hr=>by simpa using a6 hr,fun i e he=>?_⟩
    by_cases hij:i=j
    ·subst hij
     have hlt:i<b.cells.length:=(List.getElem?_eq_some_iff.1 hj).1
     have:(b.cells.set i d')[i]? =some d':=by simp[hlt]
     rw[this]at he;cases he
     obtain⟨u,u1,u2,u3⟩:=a7 i d hj
     exact⟨u,u1,u2,hd u u3⟩
    ·exact a7 i e (by rw[←he];simp[U3,WW hij])
  ·exact h.hp _ _ _ (AS.at_iff.2 hk0)
 ·rcases hat (AS.lat_iff.1 hk')with⟨rfl,rfl,e⟩|⟨_,hk0⟩
  ·cases e
  ·exact h.lp _ _ _ (AS.lat_iff.2 hk0)
 ·obtain⟨o3,h3⟩:=hold h1
  obtain⟨o4,h4⟩:=hold h2
  exact h.inj k1 k2 g1 g2 o3 o4 hkk h3 h4
 ·obtain⟨o3,h3⟩:=hold hk'
  exact h.low x ⟨_,_,_,h3,hx⟩
 ·obtain⟨o3,h3⟩:=hold hk'
  exact⟨_,_,_,h3,hx⟩

theorem SR.obSim {cx:Cx}{E:Env}{s:AS}{a:Act}{w:World}(h:SR cx E s a w){k g:Nat}{o o':Ob}(hk:s.gat k=some (g,o))(ho:OB E w g o'):
  SR cx E {s with hp:=s.hp.set k (some (g,o'))} a w∧Mut s {s with hp:=s.hp.set k (some (g,o'))} E E w w:=by
 have hat:∀{k' g' o''},AS.gat {s with hp:=s.hp.set k (some (g,o'))} k'=some (g',o'')→(k'=k∧g'=g∧o''=o')∨(k'≠k∧s.gat k'=some (g',o'')):=fun hk=>by
  rcases UX hk with⟨e,hv⟩|⟨e,hk⟩
  ·cases hv;exact .inl ⟨e,rfl,rfl⟩
  ·exact .inr ⟨e,hk⟩
 have hold:∀{k' g' o''},AS.gat {s with hp:=s.hp.set k (some (g,o'))} k'=some (g',o'')→∃o3,s.gat k'=some (g',o3):=fun hh=>by
  rcases hat hh with⟨rfl,rfl,rfl⟩|⟨_,hh⟩
  ·exact⟨_,hk⟩
  ·exact⟨_,hh⟩
 have hob:∀{k' g' o''},AS.gat {s with hp:=s.hp.set k (some (g,o'))} k'=some (g',o'')→OB E w g' o'':=fun hh=>by
  rcases hat hh with⟨rfl,rfl,rfl⟩|⟨_,hh⟩
  ·exact ho
  ·exact h.ob hh
 refine⟨{h with
  hp:=fun k' g' b' hk'=>hob (AS.at_iff.1 hk')
  lp:=fun k' g' r hk'=>hob (AS.lat_iff.1 hk')
  inj:=fun k1 k2 g1 g2 o1 o2 hkk h1 h2=>?_
  low:=fun x ⟨k',g',o',hk',hx⟩=>?_},⟨fun _ h=>h,fun _ _ _=>rfl,fun x _ ⟨k',g',o',hk',hx⟩=>?_⟩⟩
 ·obtain⟨o3,h3⟩:=hold h1
  obtain⟨o4,h4⟩:=hold h2
  exact h.inj k1 k2 g1 g2 o3 o4 hkk h3 h4
 ·obtain⟨o3,h3⟩:=hold hk'
  exact h.low x ⟨_,_,_,h3,hx⟩
 ·obtain⟨o3,h3⟩:=hold hk'
  exact⟨_,_,_,h3,hx⟩
def oO (s s':AS):Prop:=∀(cx:Cx) (E:Env) (a:Act) (w:World),SR cx E s a w→s.us=[]→∃E',SR cx E' s' a w∧Stp E E' w w∧Mut s s' E E' w w∧s'.us=[]
theorem oO.refl (s:AS):oO s s:=fun _ E _ w h hu=>⟨E,h,Stp.refl E w,Mut.refl s E w,hu⟩
theorem oO.trans {a b c:AS}(h:oO a b)(k:oO b c):oO a c:=fun cx E x w hs hu=>by
 obtain⟨E1,q1,q2,q3,q4⟩:=h cx E x w hs hu
 obtain⟨E2,r1,r2,r3,r4⟩:=k cx E1 x w q1 q4
 exact⟨E2,r1,q2.trans r2,q3.trans r3 (TD _),r4⟩
theorem AWP.ret {xn:Nat}{c:Code}{s s':AS}{K:AX→AS→Prop}(hr:oO s s')(h:AWP P rd nt xn c s' K):AWP P rd nt xn c s K:=
 ⟨fun F n cx E a w Q hF hro hn hu hs hQ=>by
  obtain⟨E',q1,q2,q3,q4⟩:=hr cx E a w hs hu
  exact h.run F n cx E' a w Q hF hro hn q4 q1 fun e s3 E3 a3 w3 hK hu3 qE hst3 hmut3=>hQ e s3 E3 a3 w3 hK hu3 qE ((q2.x _).trans hst3) (q3.trans hmut3 (TD _))⟩
theorem AWPl.ret {xn:Nat}{c:Code}{s s':AS}{K:AX→AS→Prop}(hr:oO s s')(h:AWPl P rd nt xn c s' K):AWPl P rd nt xn c s K:=
 ⟨fun F n cx E a w Q hF hro hn hu hs hQ=>by
  obtain⟨E',q1,q2,q3,q4⟩:=hr cx E a w hs hu
  exact h.run F n cx E' a w Q hF hro hn q4 q1 fun e s3 E3 a3 w3 hK hu3 qE hst3 hmut3=>hQ e s3 E3 a3 w3 hK hu3 qE ((q2.x _).trans hst3) (q3.trans hmut3 (TD _))⟩
theorem AWP.cutEndR {xn:Nat}{c:Code}{s:AS}{Q:AX→AS→Prop}(h:AWP P rd nt xn c s fun e s'=>∃(s2:AS) (d:CutS),oO s' s2∧CutE s2 xn d∧Q e d.st):AWP P rd nt xn c s Q:=
 ⟨fun F n cx E a w Q' hF hro hn hu hs hQ=>h.run F n cx E a w Q' hF hro hn hu hs fun e s' E' a' w' ⟨s2,d,hr,hd,hK⟩ hu' hs' hst hmut=>by
  obtain⟨E1,r1,r2,r3,r4⟩:=hr cx E' a' w' hs' hu'
  obtain⟨E2,q1,q2,q3⟩:=r1.cut (hd.le hro.2)
  exact hQ e d.st E2 a' w' hK rfl q1 ((hst.trans (r2.x _)).trans q2) ((hmut.trans r3 hst.size).trans q3 hst.size)⟩
def nilS (s:AS)(t k sz:Nat)(elem:TypeId):AS:={tm:=s.tm.set t (some (.ref k s.nx 0 0 sz)),hp:=s.hp.set k (some (s.nx,.b ⟨[],elem,true⟩)),nx:=s.nx+8,us:=s.us}
theorem oO.nilS {s:AS}{t k sz:Nat}{elem:TypeId}(ht:s.tm.get t=some kj):oO s (nilS s t k sz elem):=fun cx E a w h hu=>by
 obtain⟨q1,q2,q3,q4,q5⟩:=h.nilN hu k elem
 refine⟨_,q1.slotSim (t:=t) (d:=kj) (d':= .ref k s.nx 0 0 sz) ht fun u hr=>?_,q2,⟨q5.own,q5.heap,q5.old⟩,hu⟩
 rw[hr.nil_eq];exact .refn k s.nx sz q3 q4
def recS (s:AS)(k g:Nat)(r:LRec)(t:Nat)(d:D):AS:={s with hp:=s.hp.set k (some (g,.l {r with tm:=r.tm.set t (some d)}))}
theorem oO.recS {s:AS}{k g t:Nat}{r:LRec}{d:D}(hk:s.lat k=some (g,r))(ht:r.tm.get t=some d):oO s (recS s k g r t d):=fun cx E a w h hu=>by
 obtain⟨c1,b,L,c2,c3,c4,c5,c6,c7,c8,c9,c10,c11,c12⟩:=h.lp _ _ _ hk
 obtain⟨r1,r2⟩:=h.obSim (o':= .l {r with tm:=r.tm.set t (some d)}) (AS.lat_iff.1 hk) ⟨c1,b,L,c2,c3,c4,c5,c6,c7,c8,c9,c10,c11,fun t' x hx=>by
  rcases UX hx with⟨rfl,hv⟩|⟨_,hx⟩
  ·cases hv;exact c12 _ _ ht
  ·exact c12 t' x hx⟩
 exact⟨E,r1,Stp.refl E w,r2,hu⟩
def nilC (s:AS)(k0 g0:Nat)(b:Blk)(j k sz:Nat)(elem:TypeId):AS:={tm:=s.tm,hp:=(s.hp.set k (some (s.nx,.b ⟨[],elem,true⟩))).set k0 (some (g0,.b ⟨b.cells.set j (.ref k s.nx 0 0 sz),b.elem,b.row⟩)),nx:=s.nx+8,us:=s.us}
theorem oO.nilC {s:AS}{k0 g0 j k sz:Nat}{b:Blk}{elem:TypeId}(hk:s.at k0=some (g0,b))(hne:k0≠k)(hok:XX k=true)(hrow:b.row=false)(hj:b.cells[j]? =some kj):oO s (nilC s k0 g0 b j k sz elem):=fun cx E a w h hu=>by
 obtain⟨q1,q2,q3,q4,q5⟩:=h.nilN hu k elem
 have hk':AS.at {s with hp:=s.hp.set k (some (s.nx,.b ⟨[],elem,true⟩)),nx:=s.nx+8} k0=some (g0,b):=by
  refine AS.at_iff.2 ?_
  show(s.hp.set k _).get k0=_
  rw[Wu _ _ _ hok,if_neg hne]
  exact AS.at_iff.1 hk
 obtain⟨r1,r2⟩:=q1.cellSim (d':= .ref k s.nx 0 0 sz) hk' hrow hj fun u hr=>by rw[hr.nil_eq];exact .refn k s.nx sz q3 q4
 exact⟨_,r1,q2,q5.trans r2 (TD _),hu⟩
end
end Go.Vx
namespace Go.Vx
open Go.RowKit Go.Bw

structure Endl where
 κ:Type
 e:AX
 S:κ→CutS
def ga:List Endl→Nat→Endl
 |[],_=>⟨Empty,.normal,fun x=>nomatch x⟩
 |e::_,0=>e
 |_::r,n+1=>ga r n
def ut:(es:List Endl)→((i:Nat)→(ga es i).κ→Prop)→Prop
 |[],_=>True
 |e::r,F=>(∀x:e.κ,F 0 x)∧ut r (fun i x=>F (i+1) x)
def uu:List Endl→AX→AS→Prop
 |[],_,_=>False
 |e::r,a,s=>(∃x:e.κ,a=e.e∧s=(e.S x).st)∨uu r a s
theorem uv:∀{es:List Endl} {F:(i:Nat)→(ga es i).κ→Prop} {G:AX→AS→Prop},ut es F→(∀i x,F i x→G (ga es i).e ((ga es i).S x).st)→∀{a s},uu es a s→G a s
 |[],_,_,_,_,_,_,h=>h.elim
 |e::r,F,G,hv,hG,a,s,h=>by
  rcases h with⟨x,rfl,rfl⟩|h
  ·exact hG 0 x (hv.1 x)
  ·exact uv (es:=r) (F:=fun i x=>F (i+1) x) hv.2 (fun i x hF=>hG (i+1) x hF) h
theorem uw:∀(es:List Endl) (n:Nat) (x:(ga es n).κ),uu es (ga es n).e ((ga es n).S x).st
 |[],_,x=>nomatch x
 |_::_,0,x=>.inl ⟨x,rfl,rfl⟩
 |_::r,n+1,x=>.inr (uw r n x)
inductive Hn (P:Program):Type 1 where
 |nil
 |s (n:Nat) (h:Hn P)
 |chk (b:Bool) (p:b=true) (h:Hn P)
 |t (b:Bool) (p:b=true) (h:Hn P)
 |f (b:Bool) (p:b=false) (h:Hn P)
 |br (b:Bool) (ht:b=true→Hn P) (hf:b=false→Hn P)
 |opt (o:Option D) (d:D) (p:o=some d) (h:Hn P)
 |byt (cs:List D) (bs:List UInt8) (p:cs=bs.map dB) (h:Hn P)
 |lst (cs cs':List D) (p:cs=cs') (h:Hn P)
 |abs (p:False)
 |val (t:Nat) (d d':D) (p:d=d') (h:Hn P)
 |blk (k g:Nat) (b b':Blk) (p:b=b') (h:Hn P)
 |em (b:Bool) (ht:b=true→Hn P) (hf:b=false→Hn P)
 |nils (t k sz:Nat) (elem:TypeId) (h:Hn P)
 |nilc (k0 g0:Nat) (b:Blk) (j k sz:Nat) (elem:TypeId) (h:Hn P)
 |recv (k t:Nat) (d d':D) (p:d=d') (h:Hn P)
 |call (f:FuncId) (al:Bool) (fp:List Nat) (b1:Bool) (p1:b1=true) (q q0:List D) (hq:cj q q0) (b2:Bool) (p2:b2=true) (hin:List Blk) (r:D) (bs:List Blk) (hs:CallOk al P f q0 hin r bs) (h:Hn P)
 |loop1 (rd:Bool) (nt xn:Nat) (c:Code) (d:CutS) (rows:iA d) (e1:AX) (s1:AS) (hl:AWPl P rd nt xn c d.st fun e s=>e=e1∧s=s1) (h:Hn P)
 |loop2 (rd:Bool) (nt xn:Nat) (c:Code) (d:CutS) (rows:iA d) (e1:AX) (s1:AS) (e2:AX) (s2:AS) (hl:AWPl P rd nt xn c d.st fun e s=>(e=e1∧s=s1)∨(e=e2∧s=s2)) (h1 h2:Hn P)
 |loopE (rd:Bool) (nt xn:Nat) (c:Code) (d:CutS) (rows:iA d) (es:List Endl) (hl:AWPl P rd nt xn c d.st (uu es)) (hs:(i:Nat)→(ga es i).κ→Hn P)
 |cut (e:AX) (d:CutS) (rows:iA d) (Q:AX→AS→Prop) (p:Q e d.st)
 |out (ks gs:List Nat) (r:D) (bs:List Blk) (R:D→List Blk→Prop) (p:R r bs)
 |two (h1 h2:Hn P)
 |stab (l:List (Option D)) (h:Hn P)

inductive Need {α:Type _} (what:Nat) (x:α):Prop
def iY (b:Bool)(X:Prop):Prop:=match b with
 |true=>X
 |false=>False
def qx (b:Bool)(X Y:Prop):Prop:=match b with
 |true=>X
 |false=>Y
theorem bP {b:Bool}{X:Prop}:iY b X↔b=true∧X:=by cases b<;>simp[iY]
theorem fj {b:Bool}{X Y:Prop}:qx b X Y↔(b=true→X)∧(b=false→Y):=by cases b<;>simp[qx]
def wm (n:Nat)(K:Nat→Prop):Prop:=match n with
 |0=>K 0
 |m+1=>K (m+1)
theorem oP {n:Nat}{K:Nat→Prop}:wm n K↔K n:=by cases n<;>exact Iff.rfl

section
variable {P:Program}
def Hn.isAbs (h:Hn P):Bool:=match h with
 | .abs _=>true
 |_=>false
theorem Hn.isAbs_no {h:Hn P}:h.isAbs=false:=by
 cases h<;>first|rfl|(rename_i p;exact p.elim)
def Hn.go (h:Hn P)(lit use:Hn P→Prop):Prop:=match h with
 | .s 0 h'=>use h'
 | .s (n+1) h'=>lit (.s n h')
 |h'=>use h'
def Hn.absOr (h:Hn P)(X:Prop):Prop:=match h with
 | .abs _=>True
 |_=>X
theorem Hn.absOr_elim {h:Hn P}{X:Prop}(hv:h.absOr X):X:=by
 unfold Hn.absOr at hv
 split at hv
 ·rename_i p;exact p.elim
 ·exact hv
def Hn.fork (h:Hn P)(no:Prop)(yes:Hn P→Hn P→Prop):Prop:=match h with
 | .two a b=>yes a b
 | .s 0 (.two a b)=>yes a b
 |_=>no
theorem Hn.fork_elim {h:Hn P}{no X:Prop}{yes:Hn P→Hn P→Prop}(hv:h.fork no yes)(h1:no→X)(h2:∀a b,yes a b→X):X:=by
 unfold Hn.fork at hv
 split at hv
 ·exact h2 _ _ hv
 ·exact h2 _ _ hv
 ·exact h1 hv
theorem Hn.go_elim {h:Hn P}{lit use:Hn P→Prop}{X:Prop}(hv:h.go lit use)(h1:∀h',lit h'→X)(h2:∀h',use h'→X):X:=by
 unfold Hn.go at hv
 split at hv
 ·exact h2 _ hv
 ·exact h1 _ hv
 ·exact h2 _ hv

def Hn.goL (h:Hn P)(lit use:Hn P→Prop):Prop:=match h with
 | .s 0 h'=>use h'
 | .s (n+1) h'=>bif VL 1000000000 n then use (.s (n+1) h')else lit (.s n h')
 |h'=>use h'
theorem Hn.goL_elim {h:Hn P}{lit use:Hn P→Prop}{X:Prop}(hv:h.goL lit use)(h1:∀h',lit h'→X)(h2:∀h',use h'→X):X:=by
 unfold Hn.goL at hv
 split at hv
 ·exact h2 _ hv
 ·rename_i n h'
  cases hb:VL 1000000000 n with
  |true=>rw[hb]at hv;exact h2 _ hv
  |false=>rw[hb]at hv;exact h1 _ hv
 ·exact h2 _ hv

def Qa:List D→Option (List UInt8)
 |[]=>some []
 | .v (.int .u8 (.ofNat m))::r=>bif VL m 256 then(match Qa r with
  |some l=>some (Um m::l)
  |none=>none)else none
 |_=>none
theorem BZ:∀{cs:List D} {bs:List UInt8},Qa cs=some bs→cs=bs.map dB
 |[],bs,h=>by cases h;rfl
 |d::r,bs,h=>by
  unfold Qa at h
  split at h
  ·rename_i heq;cases heq
  ·rename_i m r' heq
   cases heq
   cases hb:VL m 256 with
   |false=>rw[hb]at h;cases h
   |true=>
    rw[hb,cond_true]at h
    split at h
    ·rename_i l hl
     cases h
     have hm:m<256:=TC hb
     rw[Vq,←BZ hl]
     congr 1
     unfold dB
     have:(Um m).toNat=m:=by simp[U6,UZ hm]
     rw[this];rfl
    ·cases h
  ·cases h

theorem Ev.vc_mono:∀{e:Ev} {K K':Option D→Up→Prop},e.vc K→(∀v up,K v up→K' v up)→e.vc K'
 | .ok v up,_,_,h,hk=>hk v up h
 | .cond b k,_,_,h,hk=>bA.2 ⟨(bA.1 h).1,Ev.vc_mono (bA.1 h).2 hk⟩
 | .opt o k,_,_,h,hk=>by
  obtain⟨d,hd,h⟩:=aM.1 h
  exact aM.2 ⟨d,hd,Ev.vc_mono h hk⟩
 | .list cs k,_,_,h,hk=>Ev.vc_mono (e:=k cs) h hk
 | .bytes cs k,_,_,h,hk=>by
  obtain⟨bs,hb,h⟩:=h.h
  exact⟨bs,hb,Ev.vc_mono h hk⟩
 | .stuck,_,_,h,_=>h
theorem jR {T:TT}{s:AS}{nm ky:Nat}{o:Oper}{K K':Option D→Up→Prop}(h:dY P T s nm ky o K)(hk:∀v up,K v up→K' v up):dY P T s nm ky o K':=by
 unfold dY at h ⊢
 cases hc:eJ s o with
 |some p=>
  rw[hc]at h
  obtain⟨al,fp,q,hin,r,bs,h1,h2,h4,h5,h6⟩:=h.h
  exact⟨al,fp,q,hin,r,bs,h1,h2,h4,h5,hk _ _ h6⟩
 |none=>rw[hc]at h;exact Ev.vc_mono h hk

def M9 {α:Type}(l:List α)(X:Prop):Prop:=match l with
 |[]=>X
 |_::_=>X
theorem B0 {α:Type}{l:List α}{X:Prop}:M9 l X↔X:=by cases l<;>exact Iff.rfl
def uz:Ev→Hn P→(Option D→Up→Hn P→Prop)→Prop
 | .ok v up,h,K=>K v up h
 | .cond b k,h,K=>h.go (fun h'=>iY b (uz k h' K)) fun h'=>match h' with
  | .chk b' _ h2=>b=b'∧uz k h2 K
  |_=>Need 1 b
 | .opt o k,h,K=>h.go (fun h'=>jZ o fun d=>uz (k d) h' K) fun h'=>match h' with
  | .opt o' d _ h2=>o=o'∧uz (k d) h2 K
  |_=>Need 2 o
 | .list cs k,h,K=>h.go (fun h'=>M9 cs (uz (k cs) h' K)) fun h'=>match h' with
  | .lst cs0 cs' _ h2=>cs=cs0∧uz (k cs') h2 K
  |_=>Need 14 cs
 | .bytes cs k,h,K=>h.go (fun h'=>jZ (Qa cs) fun bs=>uz (k bs) h' K) fun h'=>match h' with
  | .byt cs' bs _ h2=>cs=cs'∧uz (k bs) h2 K
  |_=>Need 3 cs
 | .stuck,_,_=>Need 0 ()
theorem fJ:∀{e:Ev} {h:Hn P} {K:Option D→Up→Hn P→Prop},uz e h K→e.vc fun v up=>∃h',K v up h'
 | .ok v up,h,K,hv=>⟨h,hv⟩
 | .cond b k,h,K,hv=>by
  unfold uz at hv
  refine Hn.go_elim hv (fun h' hv=>?_) fun h' hv=>?_
  ·obtain⟨hb,hv⟩:=bP.1 hv;exact bA.2 ⟨hb,fJ hv⟩
  ·split at hv
   ·rename_i b' p h2;exact bA.2 ⟨hv.1.trans p,fJ hv.2⟩
   ·cases hv
 | .opt o k,h,K,hv=>by
  unfold uz at hv
  refine Hn.go_elim hv (fun h' hv=>?_) fun h' hv=>?_
  ·obtain⟨d,hd,hv⟩:=aM.1 hv;exact aM.2 ⟨d,hd,fJ hv⟩
  ·split at hv
   ·rename_i o' d p h2;exact aM.2 ⟨d,hv.1.trans p,fJ hv.2⟩
   ·cases hv
 | .list cs k,h,K,hv=>by
  unfold uz at hv
  show(k cs).vc _
  refine Hn.go_elim hv (fun h' hv=>fJ (B0.1 hv)) fun h' hv=>?_
  split at hv
  ·rename_i cs0 cs' p h2
   obtain⟨e,hv⟩:=hv
   have e2:cs=cs':=e.trans p
   rw[e2];exact fJ hv
  ·cases hv
 | .bytes cs k,h,K,hv=>by
  unfold uz at hv
  refine Hn.go_elim hv (fun h' hv=>?_) fun h' hv=>?_
  ·obtain⟨bs,hb,hv⟩:=aM.1 hv;exact⟨bs,BZ hb,fJ hv⟩
  ·split at hv
   ·rename_i cs' bs p h2;exact⟨bs,hv.1.trans p,fJ hv.2⟩
   ·cases hv
 | .stuck,_,_,hv=>by cases hv

def zM:Hn P→AS→(AS→Hn P→Prop)→Prop
 | .val t d d' _ h,s,K=>s.tm.get t=some d∧zM h {s with tm:=s.tm.set t (some d')} K
 | .blk k g b b' _ h,s,K=>s.at k=some (g,b)∧zM h {s with hp:=s.hp.set k (some (g,.b b'))} K
 | .abs _,_,_=>True
 |h,s,K=>K s h
def JY (h:Hn P)(s:AS)(K:AS→Hn P→Prop):Prop:=h.go (fun h'=>K s h') fun h'=>zM h' s K

def zO:Hn P→AS→(AS→Hn P→Prop)→Prop
 | .nils t k sz elem h,s,K=>s.tm.get t=some kj∧zO h (nilS s t k sz elem) K
 | .nilc k0 g0 b j k sz elem h,s,K=>s.at k0=some (g0,b)∧b.cells[j]? =some kj∧iY (!Tx k0 k&&XX k&& !b.row) (zO h (nilC s k0 g0 b j k sz elem) K)
 | .recv k t d d' _ h,s,K=>jZ (s.lat k) fun q=>q.2.tm.get t=some d∧zO h (recS s k q.1 q.2 t d') K
 |h,s,K=>zM h s K
structure SubAS (s2 s:AS):Prop where
 tm:∀t d,s2.tm.get t=some d→s.tm.get t=some d
 hp:∀k x,s2.gat k=some x→s.gat k=some x
 us:s2.us=s.us
theorem SubAS.refl (s:AS):SubAS s s:=⟨fun _ _ h=>h,fun _ _ h=>h,rfl⟩
theorem SubAS.trans {a b c:AS}(h:SubAS a b)(h':SubAS b c):SubAS a c:=⟨fun t d hd=>h'.tm t d (h.tm t d hd),fun k x hk=>h'.hp k x (h.hp k x hk),h.us.trans h'.us⟩
theorem xU {s2 s:AS}(h:SubAS s2 s){κ γ:Nat→Nat}:∀{l:List (Nat×D)},Lq s2 κ γ l→Lq s κ γ l
 |[],_=>trivial
 |_::_,⟨h1,h2⟩=>⟨h.tm _ _ h1,xU h h2⟩
theorem ET {s2 s:AS}(h:SubAS s2 s){κ γ:Nat→Nat}{e:Ent}(he:JX s2 κ γ e):JX s κ γ e:=by
 unfold JX at he ⊢
 split at he
 ·exact AS.at_iff.2 (h.hp _ _ (AS.at_iff.1 he))
 ·exact AS.at_iff.2 (h.hp _ _ (AS.at_iff.1 he))
 ·obtain⟨p,hp,he⟩:=Option.map_eq_some_iff.1 he
  exact Option.map_eq_some_iff.2 ⟨p,AS.at_iff.2 (h.hp _ _ (AS.at_iff.1 hp)),he⟩
 ·obtain⟨p,hp,he⟩:=aM.1 he
  exact aM.2 ⟨p,AS.lat_iff.2 (h.hp _ _ (AS.lat_iff.1 hp)),he⟩
theorem xV {s2 s:AS}(h:SubAS s2 s){κ γ:Nat→Nat}:∀{l:List Ent},Lr s2 κ γ l→Lr s κ γ l
 |[],_=>trivial
 |_::_,⟨h1,h2⟩=>⟨ET h h1,xV h h2⟩
theorem CutE.sub {s2 s:AS}(h:SubAS s2 s){xn:Nat}{c:CutS}(hc:CutE s2 xn c):CutE s xn c:=
 ⟨xU h hc.tm,xV h hc.es,hc.ok,hc.rows,h.us.symm.trans hc.us⟩
def B1 (s:AS)(ds:List D)(f:FuncId)(nm ky:Nat):Hn P→(Option D→Up→Hn P→Prop)→Prop
 | .em _ ht hf,K=>(∀p,B1 s ds f nm ky (ht p) K)∧∀p,B1 s ds f nm ky (hf p) K
 | .call f' al fp b1 _ q _ _ b2 _ hin r bs _ h2,K=>f=f'∧jY s al fp ds=some (b1,q)∧ki s fp fp=some (b2,hin)∧iY (f8 fp&&Tz bs.length (fp.length+8)) (K (some (rL (gZ fp ky) (gI s fp nm) bs r)) (ip (gZ fp ky) (gI s fp nm) 0 bs) h2)
 | .abs _,_=>True
 |_,_=>Need 4 (s,f,ds)
theorem iC {s:AS}{ds:List D}{f:FuncId}{nm ky:Nat}{K:Option D→Up→Hn P→Prop}:∀{h:Hn P},B1 s ds f nm ky h K→callP P s ds f nm ky fun v up=>∃h',K v up h'
 | .em b ht hf,hv=>by
  obtain⟨h1,h2⟩:=hv
  cases hb:b with
  |true=>exact iC (h1 hb)
  |false=>exact iC (h2 hb)
 | .call f' al fp b1 p1 q q0 hq b2 p2 hin r bs hs h2,hv=>by
  subst p1 p2
  obtain⟨rfl,h3,h4,h5⟩:=hv
  obtain⟨h5,h6⟩:=bP.1 h5
  exact Q1 fp hs h3 h4 hq h5 ⟨h2,h6⟩
 | .nil,hv=>by cases hv
 | .s ..,hv=>by cases hv
 | .chk ..,hv=>by cases hv
 | .t ..,hv=>by cases hv
 | .f ..,hv=>by cases hv
 | .br ..,hv=>by cases hv
 | .opt ..,hv=>by cases hv
 | .byt ..,hv=>by cases hv
 | .val ..,hv=>by cases hv
 | .blk ..,hv=>by cases hv
 | .nils ..,hv=>by cases hv
 | .nilc ..,hv=>by cases hv
 | .recv ..,hv=>by cases hv
 | .loop1 ..,hv=>by cases hv
 | .loop2 ..,hv=>by cases hv
 | .loopE ..,hv=>by cases hv
 | .cut ..,hv=>by cases hv
 | .out ..,hv=>by cases hv
 | .lst ..,hv=>by cases hv
 | .two ..,hv=>by cases hv
 | .stab ..,hv=>by cases hv
 | .abs p,_=>p.elim

def zP (T:TT)(s:AS)(nm ky:Nat)(o:Oper)(h:Hn P)(K:Option D→Up→Hn P→Prop):Prop:=
 match eJ s o with
 |some p=>h.go (fun h'=>Need 5 h') fun h'=>B1 s p.2 p.1 nm ky h' K
 |none=>uz (ev T s nm ky o) h K
theorem wn {T:TT}{s:AS}{nm ky:Nat}{o:Oper}{h:Hn P}{K:Option D→Up→Hn P→Prop}(hv:zP T s nm ky o h K):dY P T s nm ky o fun v up=>∃h',K v up h':=by
 unfold zP at hv
 unfold dY
 cases hc:eJ s o with
 |some p=>rw[hc]at hv;exact Hn.go_elim hv (fun h' hv=>by cases hv) fun h' hv=>iC hv
 |none=>rw[hc]at hv;exact fJ hv

def xD (T:TT)(nt kb:Nat)(all:List Oper)(pr:List (List Nat)):Nat→List Oper→AS→List Rec→Hn P→(AS→Hn P→Prop)→Prop
 |_,[],s,log,h,K=>qx (wj pr 0 log.reverse&&log.all dr) (K s h) (h.go (fun h'=>Need 40 (GN pr 0 log.reverse,h')) fun h'=>match h' with
  | .stab l h2=>iY (wk pr 0 log.reverse&&log.all dr) (GN pr 0 log.reverse=l.map (fun c=>(c,c))∧K s h2)
  |_=>Need 41 (GN pr 0 log.reverse,wk pr 0 log.reverse))
 |i,o::r,s,log,h,K=>iY (ji nt o) (h.go (fun h'=>xDo T nt kb all pr i o r s log h' K (xD T nt kb all pr (i+1) r)) fun h'=>h'.absOr (xDo T nt kb all pr i o r s log h' K (xD T nt kb all pr (i+1) r)))
where xDo (T:TT) (nt kb:Nat) (all:List Oper) (pr:List (List Nat)) (i:Nat) (o:Oper) (r:List Oper) (s:AS) (log:List Rec) (h:Hn P) (K:AS→Hn P→Prop) (next:AS→List Rec→Hn P→(AS→Hn P→Prop)→Prop):Prop:=
 match o.guard with
 |none=>zP T (eQ s o) (s.nx+8*i) (s.nx+8*i) o h fun v up h'=>next (s.eff i (qm T s o v up)) (qm T s o v up::log) h' K
 |some jw=>match(all[jw.1]?).bind (·.dst)with
  |some t=>match s.tm.get t with
   |some (.v (.bool b))=>
    let run (c:Bool) (h:Hn P):Prop:=zP T (eQ s o) (s.nx+8*i) (s.nx+8*i) o h fun v up h'=>next (AS.eff {s with tm:=s.tm.set t (some (.v (.bool c)))} i (dU T s t o v up)) (dU T s t o v up::log) h' K
    let skip (c:Bool) (h:Hn P):Prop:=next (AS.eff {s with tm:=s.tm.set t (some (.v (.bool c)))} i ⟨[t],[],o.dst,some (.tup []),[],none⟩) (⟨[t],[],o.dst,some (.tup []),[],none⟩::log) h K
    h.go (fun h'=>qx b (bif jw.2 then run true h' else skip true h') (bif jw.2 then skip false h' else run false h')) fun h'=>match h' with
     | .t b' _ h2=>b=b'∧bif jw.2 then run true h2 else skip true h2
     | .f b' _ h2=>b=b'∧bif jw.2 then skip false h2 else run false h2
     | .br b' ht hf=>b=b'∧(∀p,bif jw.2 then run true (ht p)else skip true (ht p))∧∀p,bif jw.2 then skip false (hf p)else run false (hf p)
     |_=>Need 6 b
   |some (.tup [])=>next (AS.eff s i ⟨[t],[],o.dst,some (.tup []),[],none⟩) (⟨[t],[],o.dst,some (.tup []),[],none⟩::log) h K
   |_=>Need 7 t
  |none=>False

theorem jo {T:TT}{nt kb:Nat}{all:List Oper}{pr:List (List Nat)}{K:AS→Hn P→Prop}:∀(l:List Oper) (i:Nat) (s:AS) (log:List Rec) (h:Hn P),xD T nt kb all pr i l s log h K→na P T nt kb all pr i l s log fun s'=>∃h',K s' h'
 |[],i,s,log,h,hv=>by
  obtain⟨h1,h2⟩:=fj.1 hv
  cases hc:(wj pr 0 log.reverse&&log.all dr)with
  |true=>exact⟨.of hc,h,h1 hc⟩
  |false=>
   refine Hn.go_elim (h2 hc) (fun h' hv=>by cases hv) fun h' hv=>?_
   split at hv
   ·obtain⟨h3,h4,h5⟩:=bP.1 hv
    refine⟨.rx h3 fun p hp=>?_,_,h5⟩
    rw[h4]at hp
    obtain⟨c,_,rfl⟩:=List.mem_map.1 hp
    rfl
   ·cases hv
 |o::r,i,s,log,h,hv=>by
  obtain⟨hd,hv⟩:=bP.1 hv
  refine bA.2 ⟨hd,?_⟩
  have key:∀h',xD.xDo T nt kb all pr i o r s log h' K (xD T nt kb all pr (i+1) r)→(match o.guard with
   |none=>dY P T (eQ s o) (s.nx+8*i) (s.nx+8*i) o fun v up=>na P T nt kb all pr (i+1) r (s.eff i (qm T s o v up)) (qm T s o v up::log) fun s'=>∃h',K s' h'
   |some jw=>match(all[jw.1]?).bind (·.dst)with
    |some t=>match s.tm.get t with
     |some (.v (.bool b))=>M2 b
      (bif jw.2 then dY P T (eQ s o) (s.nx+8*i) (s.nx+8*i) o fun v up=>na P T nt kb all pr (i+1) r (AS.eff {s with tm:=s.tm.set t (some (.v (.bool true)))} i (dU T s t o v up)) (dU T s t o v up::log) fun s'=>∃h',K s' h'
       else na P T nt kb all pr (i+1) r (AS.eff {s with tm:=s.tm.set t (some (.v (.bool true)))} i ⟨[t],[],o.dst,some (.tup []),[],none⟩) (⟨[t],[],o.dst,some (.tup []),[],none⟩::log) fun s'=>∃h',K s' h')
      (bif jw.2 then na P T nt kb all pr (i+1) r (AS.eff {s with tm:=s.tm.set t (some (.v (.bool false)))} i ⟨[t],[],o.dst,some (.tup []),[],none⟩) (⟨[t],[],o.dst,some (.tup []),[],none⟩::log) (fun s'=>∃h',K s' h')
       else dY P T (eQ s o) (s.nx+8*i) (s.nx+8*i) o fun v up=>na P T nt kb all pr (i+1) r (AS.eff {s with tm:=s.tm.set t (some (.v (.bool false)))} i (dU T s t o v up)) (dU T s t o v up::log) fun s'=>∃h',K s' h')
     |some (.tup [])=>na P T nt kb all pr (i+1) r (s.eff i ⟨[t],[],o.dst,some (.tup []),[],none⟩) (⟨[t],[],o.dst,some (.tup []),[],none⟩::log) fun s'=>∃h',K s' h'
     |_=>False
    |none=>False):=by
   intro h' hv
   have opm:∀{S:AS} {nm ky:Nat} {h1:Hn P} {F:Option D→Up→Hn P→Prop} {G:Option D→Up→Prop},zP T S nm ky o h1 F→(∀v up h2,F v up h2→G v up)→dY P T S nm ky o G:=fun hx hm=>jR (wn hx) fun v up ⟨h2,hF⟩=>hm v up h2 hF
   unfold xD.xDo at hv
   cases hg:o.guard with
   |none=>
    rw[hg]at hv
    exact opm hv fun v up h2 hF=>jo r (i+1) _ _ h2 hF
   |some jw=>
    rw[hg]at hv
    dsimp only at hv ⊢
    cases ht:(all[jw.1]?).bind (·.dst)with
    |none=>rw[ht]at hv;exact hv.elim
    |some t=>
     rw[ht]at hv
     dsimp only at hv ⊢
     split at hv
     case h_3=>cases hv
     case h_2 hb=>exact jo r (i+1) _ _ h' hv
     case h_1 b hb=>
     have run:∀(c:Bool) (h:Hn P),zP T (eQ s o) (s.nx+8*i) (s.nx+8*i) o h (fun v up h'=>xD T nt kb all pr (i+1) r (AS.eff {s with tm:=s.tm.set t (some (.v (.bool c)))} i (dU T s t o v up)) (dU T s t o v up::log) h' K)→dY P T (eQ s o) (s.nx+8*i) (s.nx+8*i) o fun v up=>na P T nt kb all pr (i+1) r (AS.eff {s with tm:=s.tm.set t (some (.v (.bool c)))} i (dU T s t o v up)) (dU T s t o v up::log) fun s'=>∃h',K s' h':=fun c h hx=>opm hx fun v up h2 hF=>jo r (i+1) _ _ h2 hF
     have skip:∀(c:Bool) (h:Hn P),xD T nt kb all pr (i+1) r (AS.eff {s with tm:=s.tm.set t (some (.v (.bool c)))} i ⟨[t],[],o.dst,some (.tup []),[],none⟩) (⟨[t],[],o.dst,some (.tup []),[],none⟩::log) h K→na P T nt kb all pr (i+1) r (AS.eff {s with tm:=s.tm.set t (some (.v (.bool c)))} i ⟨[t],[],o.dst,some (.tup []),[],none⟩) (⟨[t],[],o.dst,some (.tup []),[],none⟩::log) fun s'=>∃h',K s' h':=fun c h hx=>jo r (i+1) _ _ h hx
     obtain⟨j,want⟩:=jw
     refine iq.2 ⟨fun hbt=>?_,fun hbf=>?_⟩
     ·subst hbt
      refine Hn.go_elim hv (fun h1 hv=>?_) fun h1 hv=>?_
      ·have hv:=(fj.1 hv).1 rfl
       cases want with
       |true=>exact run true h1 hv
       |false=>exact skip true h1 hv
      ·split at hv
       ·obtain⟨_,hv⟩:=hv
        cases want with
        |true=>exact run true _ hv
        |false=>exact skip true _ hv
       ·rename_i b' p h2
        obtain⟨e,_⟩:=hv;rw[p]at e;cases e
       ·rename_i b' ht hf
        obtain⟨e,hv,_⟩:=hv
        have hv:=hv e.symm
        cases want with
        |true=>exact run true _ hv
        |false=>exact skip true _ hv
       ·cases hv
     ·subst hbf
      refine Hn.go_elim hv (fun h1 hv=>?_) fun h1 hv=>?_
      ·have hv:=(fj.1 hv).2 rfl
       cases want with
       |true=>exact skip false h1 hv
       |false=>exact run false h1 hv
      ·split at hv
       ·rename_i b' p h2
        obtain⟨e,_⟩:=hv;rw[p]at e;cases e
       ·obtain⟨_,hv⟩:=hv
        cases want with
        |true=>exact skip false _ hv
        |false=>exact run false _ hv
       ·rename_i b' ht hf
        obtain⟨e,_,hv⟩:=hv
        have hv:=hv e.symm
        cases want with
        |true=>exact skip false _ hv
        |false=>exact run false _ hv
       ·cases hv
  exact Hn.go_elim hv (fun h' hv=>key h' hv) fun h' hv=>key h' (Hn.absOr_elim hv)

theorem gb {T:TT}{nt kb:Nat}{all:List Oper}{pr:List (List Nat)}{K K':AS→Prop}:∀(l:List Oper) (i:Nat) (s:AS) (log:List Rec),na P T nt kb all pr i l s log K→(∀s,K s→K' s)→na P T nt kb all pr i l s log K'
 |[],i,s,log,hv,hk=>⟨hv.1,hk _ hv.2⟩
 |o::r,i,s,log,hv,hk=>by
  obtain⟨hd,hv⟩:=bA.1 hv
  refine bA.2 ⟨hd,?_⟩
  cases hg:o.guard with
  |none=>rw[hg]at hv;exact jR hv fun v up h=>gb r (i+1) _ _ h hk
  |some jw=>
   rw[hg]at hv
   dsimp only at hv ⊢
   cases ht:(all[jw.1]?).bind (·.dst)with
   |none=>rw[ht]at hv;exact hv.elim
   |some t=>
    rw[ht]at hv
    dsimp only at hv ⊢
    split at hv
    case h_3=>exact hv.elim
    case h_2 hb=>exact gb r (i+1) _ _ hv hk
    case h_1 b hb=>
    obtain⟨h1,h2⟩:=iq.1 hv
    obtain⟨j,want⟩:=jw
    refine iq.2 ⟨fun e=>?_,fun e=>?_⟩
    ·have h1:=h1 e
     cases want with
     |true=>exact jR h1 fun v up h=>gb r (i+1) _ _ h hk
     |false=>exact gb r (i+1) _ _ h1 hk
    ·have h2:=h2 e
     cases want with
     |true=>exact gb r (i+1) _ _ h2 hk
     |false=>exact jR h2 fun v up h=>gb r (i+1) _ _ h hk
end
end Go.Vx
namespace Go.Vx
open Go.RowKit Go.Bw

section
variable {P:Program}

abbrev XC (P:Program):=Bool→Nat→Nat→Nat→Code→AS→Hn P→(AX→AS→Hn P→Prop)→Prop
def B2 (R:XC P):Prop:=∀rd nt xn kb c s h K,R rd nt xn kb c s h K→AWP P rd nt xn c s fun e s'=>∃h',K e s' h'
def B3:AX→Bool
 | .exit _=>false
 |_=>true
theorem me {e:AX}(h:B3 e=true):e= .normal∨e= .ret:=by cases e<;>first|exact .inl rfl|exact .inr rfl|cases h
def B4 (T:TT)(s:AS):List ResultVar→Hn P→(List D→Hn P→Prop)→Prop
 |[],h,K=>K [] h
 | .tmp t::r,h,K=>jZ (s.tm.get t) fun d=>B4 T s r h fun l=>K (d::l)
 | .cell t ty::r,h,K=>uz (ie T s ty (.tmp t)) h fun v _ h'=>jZ v fun d=>B4 T s r h' fun l=>K (d::l)
theorem k8 {T:TT}{s:AS}:∀{rs:List ResultVar} {h:Hn P} {K:List D→Hn P→Prop},B4 T s rs h K→jj T s rs fun l=>∃h',K l h'
 |[],h,_,hv=>⟨h,hv⟩
 | .tmp t::r,_,_,hv=>by
  obtain⟨d,hd,hv⟩:=aM.1 hv
  exact aM.2 ⟨d,hd,k8 hv⟩
 | .cell t ty::r,_,_,hv=>Ev.vc_mono (fJ hv) fun v _ ⟨h',hv⟩=>by
  obtain⟨d,hd,hv⟩:=aM.1 hv
  exact aM.2 ⟨d,hd,k8 hv⟩
def SG (T:TT)(R:XC P)(f:FuncId)(ds:List D)(xn nx kb:Nat)(hp:Tr (Nat×Ob))(h:Hn P)(K:List D→AS→Hn P→Prop):Prop:=
 jZ P.funcs[f]? fun fn=>jZ fn.body fun c=>iY (!(fn.name== "runtime.NumGoroutine")) (R false fn.ntmps xn kb c {tm:=mT 0 ds,hp:=hp,nx:=nx,us:=[]} h fun e s' h2=>iY (B3 e) (B4 T s' fn.results.toList h2 fun l h3=>K l s' h3))

def EU (o:Oper):Option Call:=match o.op with
 | .call c=>match c.callee with
  | .builtin .append=>some c
  |_=>none
 |_=>none
theorem zQ {o:Oper}{c:Call}(h:EU o=some c):o.op= .call c∧c.callee= .builtin .append:=by
 unfold EU at h
 split at h
 ·split at h
  ·cases h;exact⟨by assumption,by assumption⟩
  ·cases h
 ·cases h
def xO (T:TT)(R:XC P)(nt kb i:Nat)(o:Oper)(s:AS)(h:Hn P)(K:AS→Hn P→Prop):Prop:=
 match xH s o with
 |some p=>jZ (s.lat p.1) fun q=>iY (Tx q.1 p.2.1&&k7 q.2.st&&Tx p.2.2.length q.2.params.size&&q.2.params.toList.all fun t=>VL t q.2.nt) (R true q.2.nt (s.nx+8*(i+1)) (kb+8*(nt+1)) q.2.assign {tm:=xG q.2.params.toList p.2.2 q.2.tm,hp:=s.hp,nx:=s.nx+8*(i+1),us:=[]} h fun e s1 h1=>iY (g7 e)
   (recP s1 p.1 p.2.1 (fun r=>k7 r.st) (fun r=>{r with st:=.busy}) fun _ s2=>R true q.2.nt (s.nx+8*(i+1)) (kb+8*(nt+1)) q.2.body s2 h1 fun e s3 h3=>
    recP s3 p.1 p.2.1 (fun _=>true) (fun r=>{r with st:=bif g7 e then .ready else .done,pend:=l9 e}) fun _ s4=>K {tm:=eK s.tm o.dst (some (.v (.bool (g7 e)))),hp:=s4.hp,nx:=s4.nx,us:=[]} h3))
 |none=>match eJ s o with
  |some p=>h.go (fun h'=>SG T R p.1 p.2 (s.nx+8*(i+1)) (s.nx+8*(i+1)) (kb+8*(nt+1)) s.hp h' fun l s' h2=>K {tm:=eK s.tm o.dst (some (ud l)),hp:=s'.hp,nx:=s'.nx,us:=[]} h2)
    fun h'=>B1 s p.2 p.1 (s.nx+8*i) (s.nx+8*i) h' fun v up h2=>K {s with tm:=eK s.tm o.dst v,hp:=gm up s.hp,us:=i::s.us} h2
  |none=>match EU o with
   |some c=>h.fork (uz (ev T s (s.nx+8*i) (s.nx+8*i) o) h fun v up h2=>K {s with tm:=eK s.tm o.dst v,hp:=gm up s.hp,us:=i::s.us} h2) fun h1 h2=>match EI T s (s.nx+8*i) (s.nx+8*i) c.argTypes c.args with
    |some (b,(v1,u1),(v2,u2))=>iY b (K {s with tm:=eK s.tm o.dst (some v1),hp:=gm u1 s.hp,us:=i::s.us} h1∧K {s with tm:=eK s.tm o.dst (some v2),hp:=gm u2 s.hp,us:=i::s.us} h2)
    |none=>Need 24 ()
   |none=>uz (ev T s (s.nx+8*i) (s.nx+8*i) o) h fun v up h2=>K {s with tm:=eK s.tm o.dst v,hp:=gm up s.hp,us:=i::s.us} h2

theorem AWP.ex {rd:Bool}{nt xn:Nat}{c:Code}{s:AS}{K:AX→AS→Hn P→Prop}{G:AX→AS→Prop}(h:AWP P rd nt xn c s fun e s'=>∃h',K e s' h')(hk:∀e s' h',K e s' h'→G e s'):AWP P rd nt xn c s G:=h.mono fun e s' ⟨h',hK⟩=>hk e s' h' hK
theorem gc {T:TT}{s:AS}:∀{rs:List ResultVar} {K K':List D→Prop},jj T s rs K→(∀l,K l→K' l)→jj T s rs K'
 |[],_,_,h,hk=>hk _ h
 | .tmp t::r,_,_,h,hk=>by
  obtain⟨d,hd,h⟩:=aM.1 h
  exact aM.2 ⟨d,hd,gc h fun l=>hk _⟩
 | .cell t ty::r,_,_,h,hk=>Ev.vc_mono h fun v _ h=>by
  obtain⟨d,hd,h⟩:=aM.1 h
  exact aM.2 ⟨d,hd,gc h fun l=>hk _⟩
theorem mf {s:AS}{k g:Nat}{ok:LRec→Bool}{to:LRec→LRec}{K K':LRec→AS→Prop}(h:recP s k g ok to K)(hk:∀r s',K r s'→K' r s'):recP s k g ok to K':=by
 obtain⟨p,hp,h⟩:=aM.1 h
 obtain⟨hc,h⟩:=bA.1 h
 exact aM.2 ⟨p,hp,bA.2 ⟨hc,hk _ _ h⟩⟩

theorem uA {T:TT}{R:XC P}(hR:B2 R){nt kb i:Nat}{o:Oper}{s:AS}{h:Hn P}{K:AS→Hn P→Prop}{G:AS→Prop}(hv:xO T R nt kb i o s h K)(hk:∀s' h',K s' h'→G s'):P8 P T nt kb i o s G:=by
 unfold xO at hv
 unfold P8
 cases hy:xH s o with
 |some p=>
  rw[hy]at hv
  dsimp only at hv ⊢
  obtain⟨q,hq,hv⟩:=aM.1 hv
  obtain⟨hc,hv⟩:=bP.1 hv
  refine aM.2 ⟨q,hq,bA.2 ⟨hc,?_⟩⟩
  refine(hR _ _ _ _ _ _ _ _ hv).ex fun e s1 h1 hv=>?_
  obtain⟨hn,hv⟩:=bP.1 hv
  refine⟨(by cases e<;>first|rfl|(cases hn)),mf hv fun _ s2 hv=>?_⟩
  refine(hR _ _ _ _ _ _ _ _ hv).ex fun e s3 h3 hv=>?_
  exact mf hv fun _ s4 hv=>hk _ _ hv
 |none=>
  rw[hy]at hv
  dsimp only at hv ⊢
  cases hc:eJ s o with
  |some p=>
   rw[hc]at hv
   dsimp only at hv ⊢
   refine Hn.go_elim hv (fun h' hv=>?_) fun h' hv=>?_
   ·obtain⟨fn,hf,hv⟩:=aM.1 hv
    obtain⟨c,hb,hv⟩:=aM.1 hv
    obtain⟨hn,hv⟩:=bP.1 hv
    refine Q2 hf hb (rs:=fn.results.toList) rfl (by simpa using hn) ?_
    refine(hR _ _ _ _ _ _ _ _ hv).ex fun e s' h2 hv=>?_
    obtain⟨he,hv⟩:=bP.1 hv
    exact⟨me he,gc (k8 hv) fun l ⟨_,hl⟩=>hk _ _ hl⟩
   ·have hx:=iC hv
    obtain⟨al,fp,q,hin,r,bs,h1,h2,h4,h5,h6,h7⟩:=hx.h
    exact⟨.inl ⟨al,fp,q,hin,r,bs,h1,h2,h4,h5,hk _ _ h7⟩⟩
  |none=>
   rw[hc]at hv
   dsimp only at hv
   cases ha:EU o with
   |none=>
    rw[ha]at hv
    exact .inr (Ev.vc_mono (fJ hv) fun v up ⟨h2,hK⟩=>hk _ _ hK)
   |some c=>
    rw[ha]at hv
    dsimp only at hv
    refine Hn.fork_elim hv (fun hv=>.inr (Ev.vc_mono (fJ hv) fun v up ⟨h2,hK⟩=>hk _ _ hK)) fun h1 h2 hv=>?_
    obtain⟨q1,q2⟩:=zQ ha
    split at hv
    ·rename_i b v1 u1 v2 u2 he
     obtain⟨rfl,hv1,hv2⟩:=bP.1 hv
     exact .inl ⟨c,v1,u1,v2,u2,q1,q2,he,hk _ _ hv1,hk _ _ hv2⟩
    ·cases hv

def xL (T:TT)(R:XC P)(nt kb:Nat)(all:List Oper):Nat→List Oper→AS→Hn P→(AS→Hn P→Prop)→Prop
 |_,[],s,h,K=>K s h
 |i,o::r,s,h,K=>iY (ji nt o) (JY h s fun s h=>xLo T R nt kb all i o s h K (xL T R nt kb all (i+1) r))
where xLo (T:TT) (R:XC P) (nt kb:Nat) (all:List Oper) (i:Nat) (o:Oper) (s:AS) (h:Hn P) (K:AS→Hn P→Prop) (next:AS→Hn P→(AS→Hn P→Prop)→Prop):Prop:=
 match o.guard with
 |none=>xO T R nt kb i o s h fun s' h'=>next s' h' K
 |some jw=>match(all[jw.1]?).bind (·.dst)with
  |some t=>match s.tm.get t with
   |some (.v (.bool b))=>
    let run (c:Bool) (h:Hn P):Prop:=xO T R nt kb i o {s with tm:=s.tm.set t (some (.v (.bool c)))} h fun s' h'=>next s' h' K
    let skip (c:Bool) (h:Hn P):Prop:=next {s with tm:=eK (s.tm.set t (some (.v (.bool c)))) o.dst (some (.tup [])),us:=i::s.us} h K
    h.go (fun h'=>qx b (bif jw.2 then run true h' else skip true h') (bif jw.2 then skip false h' else run false h')) fun h'=>match h' with
     | .t b' _ h2=>b=b'∧bif jw.2 then run true h2 else skip true h2
     | .f b' _ h2=>b=b'∧bif jw.2 then skip false h2 else run false h2
     | .br b' ht hf=>b=b'∧(∀p,bif jw.2 then run true (ht p)else skip true (ht p))∧∀p,bif jw.2 then skip false (hf p)else run false (hf p)
     |_=>Need 6 b
   |some (.tup [])=>next {s with tm:=eK s.tm o.dst (some (.tup [])),us:=i::s.us} h K
   |_=>Need 7 t
  |none=>False

theorem SR.val {cx:Cx}{E:Env}{s:AS}{a:Act}{w:World}(h:SR cx E s a w){t:Nat}{d:D}(ht:s.tm.get t=some d):SR cx E {s with tm:=s.tm.set t (some d)} a w:=by
 refine{h with fr:=fun t' d' hd=>?_}
 rcases UX hd with⟨rfl,hv⟩|⟨_,hd⟩
 ·cases hv;exact h.fr t' _ ht
 ·exact h.fr t' d' hd
theorem SR.sub {cx:Cx}{E:Env}{s s2:AS}{a:Act}{w:World}(h:SR cx E s a w)(htm:s2.tm=s.tm)(hg:∀k x,s2.gat k=some x→s.gat k=some x)(hnx:s2.nx=s.nx)(hus:s2.us=s.us):SR cx E s2 a w∧Mut s s2 E E w w:=by
 refine⟨{h with
  fr:=fun t d hd=>h.fr t d (by rw[←htm];exact hd)
  hp:=fun k g b hk=>h.hp k g b (AS.at_iff.2 (hg _ _ (AS.at_iff.1 hk)))
  lp:=fun k g b hk=>h.lp k g b (AS.lat_iff.2 (hg _ _ (AS.lat_iff.1 hk)))
  inj:=fun k k' g g' o o' hkk h1 h2=>h.inj k k' g g' o o' hkk (hg _ _ h1) (hg _ _ h2)
  low:=fun x ⟨k,g,o,hk,hx⟩=>h.low x ⟨k,g,o,hg _ _ hk,hx⟩
  nm:=fun g hg=>by rw[hnx,hus];exact h.nm g hg},⟨fun _ h=>h,fun _ _ _=>rfl,fun x _ ⟨k,g,o,hk,hx⟩=>⟨k,g,o,hg _ _ hk,hx⟩⟩⟩
theorem kw {cx:Cx}{E:Env}{a:Act}{w:World}{K:AS→Hn P→Prop}:∀(h:Hn P) (s:AS),SR cx E s a w→zM h s K→∃s2 h2,K s2 h2∧SR cx E s2 a w∧Mut s s2 E E w w∧s2.us=s.us
 | .val t d d' p h,s,hs,hv=>by
  subst p
  obtain⟨h1,hv⟩:=hv
  obtain⟨s2,h2,q1,q2,q3,q4⟩:=kw h _ (hs.val h1) hv
  exact⟨s2,h2,q1,q2,⟨q3.own,q3.heap,q3.old⟩,q4⟩
 | .blk k g b b' p h,s,hs,hv=>by
  subst p
  obtain⟨h1,hv⟩:=hv
  obtain⟨r1,r2⟩:=hs.sub (s2:={s with hp:=s.hp.set k (some (g,.b b))}) rfl (fun k' x hk=>by
   rcases UX hk with⟨rfl,e⟩|⟨_,hk⟩
   ·cases e;exact AS.at_iff.1 h1
   ·exact hk) rfl rfl
  obtain⟨s2,h2,q1,q2,q3,q4⟩:=kw h _ r1 hv
  exact⟨s2,h2,q1,q2,r2.trans q3 (TD _),q4⟩
 | .nil,s,hs,hv=>⟨s,_,hv,hs,Mut.refl s E w,rfl⟩
 | .s ..,s,hs,hv=>⟨s,_,hv,hs,Mut.refl s E w,rfl⟩
 | .chk ..,s,hs,hv=>⟨s,_,hv,hs,Mut.refl s E w,rfl⟩
 | .t ..,s,hs,hv=>⟨s,_,hv,hs,Mut.refl s E w,rfl⟩
 | .f ..,s,hs,hv=>⟨s,_,hv,hs,Mut.refl s E w,rfl⟩
 | .br ..,s,hs,hv=>⟨s,_,hv,hs,Mut.refl s E w,rfl⟩
 | .opt ..,s,hs,hv=>⟨s,_,hv,hs,Mut.refl s E w,rfl⟩
 | .byt ..,s,hs,hv=>⟨s,_,hv,hs,Mut.refl s E w,rfl⟩
 | .call ..,s,hs,hv=>⟨s,_,hv,hs,Mut.refl s E w,rfl⟩
 | .loop1 ..,s,hs,hv=>⟨s,_,hv,hs,Mut.refl s E w,rfl⟩
 | .loop2 ..,s,hs,hv=>⟨s,_,hv,hs,Mut.refl s E w,rfl⟩
 | .loopE ..,s,hs,hv=>⟨s,_,hv,hs,Mut.refl s E w,rfl⟩
 | .nils ..,s,hs,hv=>⟨s,_,hv,hs,Mut.refl s E w,rfl⟩
 | .nilc ..,s,hs,hv=>⟨s,_,hv,hs,Mut.refl s E w,rfl⟩
 | .recv ..,s,hs,hv=>⟨s,_,hv,hs,Mut.refl s E w,rfl⟩
 | .em ..,s,hs,hv=>⟨s,_,hv,hs,Mut.refl s E w,rfl⟩
 | .lst ..,s,hs,hv=>⟨s,_,hv,hs,Mut.refl s E w,rfl⟩
 | .two ..,s,hs,hv=>⟨s,_,hv,hs,Mut.refl s E w,rfl⟩
 | .stab ..,s,hs,hv=>⟨s,_,hv,hs,Mut.refl s E w,rfl⟩
 | .abs p,_,_,_=>p.elim
 | .cut ..,s,hs,hv=>⟨s,_,hv,hs,Mut.refl s E w,rfl⟩
 | .out ..,s,hs,hv=>⟨s,_,hv,hs,Mut.refl s E w,rfl⟩
theorem bk {K:AS→Hn P→Prop}:∀(h:Hn P) (s:AS),zM h s K→∃s2 h2,K s2 h2∧oO s s2
 | .val t d d' p h,s,hv=>by
  subst p
  obtain⟨h1,hv⟩:=hv
  obtain⟨s2,h2,q1,q2⟩:=bk h _ hv
  exact⟨s2,h2,q1,oO.trans (fun cx E a w hs hu=>⟨E,hs.val h1,Stp.refl E w,⟨fun _ h=>h,fun _ _ _=>rfl,fun _ _ h=>h⟩,hu⟩) q2⟩
 | .blk k g b b' p h,s,hv=>by
  subst p
  obtain⟨h1,hv⟩:=hv
  obtain⟨s2,h2,q1,q2⟩:=bk h _ hv
  refine⟨s2,h2,q1,oO.trans (fun cx E a w hs hu=>?_) q2⟩
  obtain⟨r1,r2⟩:=hs.sub (s2:={s with hp:=s.hp.set k (some (g,.b b))}) rfl (fun k' x hk=>by
   rcases UX hk with⟨rfl,e⟩|⟨_,hk⟩
   ·cases e;exact AS.at_iff.1 h1
   ·exact hk) rfl rfl
  exact⟨E,r1,Stp.refl E w,r2,hu⟩
 | .nil,s,hv=>⟨s,_,hv,.refl s⟩
 | .s ..,s,hv=>⟨s,_,hv,.refl s⟩
 | .chk ..,s,hv=>⟨s,_,hv,.refl s⟩
 | .t ..,s,hv=>⟨s,_,hv,.refl s⟩
 | .f ..,s,hv=>⟨s,_,hv,.refl s⟩
 | .br ..,s,hv=>⟨s,_,hv,.refl s⟩
 | .opt ..,s,hv=>⟨s,_,hv,.refl s⟩
 | .byt ..,s,hv=>⟨s,_,hv,.refl s⟩
 | .call ..,s,hv=>⟨s,_,hv,.refl s⟩
 | .loop1 ..,s,hv=>⟨s,_,hv,.refl s⟩
 | .loop2 ..,s,hv=>⟨s,_,hv,.refl s⟩
 | .loopE ..,s,hv=>⟨s,_,hv,.refl s⟩
 | .nils ..,s,hv=>⟨s,_,hv,.refl s⟩
 | .nilc ..,s,hv=>⟨s,_,hv,.refl s⟩
 | .em ..,s,hv=>⟨s,_,hv,.refl s⟩
 | .lst ..,s,hv=>⟨s,_,hv,.refl s⟩
 | .two ..,s,hv=>⟨s,_,hv,.refl s⟩
 | .stab ..,s,hv=>⟨s,_,hv,.refl s⟩
 | .abs p,_,_=>p.elim
 | .recv ..,s,hv=>⟨s,_,hv,.refl s⟩
 | .cut ..,s,hv=>⟨s,_,hv,.refl s⟩
 | .out ..,s,hv=>⟨s,_,hv,.refl s⟩
theorem jp {K:AS→Hn P→Prop}:∀(h:Hn P) (s:AS),zO h s K→∃s2 h2,K s2 h2∧oO s s2
 | .nils t k sz elem h,s,hv=>by
  obtain⟨h1,hv⟩:=hv
  obtain⟨s2,h2,q1,q2⟩:=jp h _ hv
  exact⟨s2,h2,q1,(oO.nilS h1).trans q2⟩
 | .nilc k0 g0 b j k sz elem h,s,hv=>by
  obtain⟨h1,h2,hv⟩:=hv
  obtain⟨hc,hv⟩:=bP.1 hv
  simp only[Tw,VC]at hc
  obtain⟨⟨c1,c2⟩,c3⟩:=hc
  obtain⟨s2,h3,q1,q2⟩:=jp h _ hv
  exact⟨s2,h3,q1,(oO.nilC h1 (fun e=>by subst e;simp at c1) c2 c3 h2).trans q2⟩
 | .recv k t d d' p h,s,hv=>by
  subst p
  obtain⟨q,hq,h1,hv⟩:=aM.1 hv
  obtain⟨s2,h2,q1,q2⟩:=jp h _ hv
  exact⟨s2,h2,q1,(oO.recS hq h1).trans q2⟩
 | .val ..,s,hv=>bk _ s hv
 | .blk ..,s,hv=>bk _ s hv
 | .nil,s,hv=>bk _ s hv
 | .em ..,s,hv=>bk _ s hv
 | .lst ..,s,hv=>bk _ s hv
 | .two ..,s,hv=>bk _ s hv
 | .stab ..,s,hv=>bk _ s hv
 | .abs p,_,_=>p.elim
 | .s ..,s,hv=>bk _ s hv
 | .chk ..,s,hv=>bk _ s hv
 | .t ..,s,hv=>bk _ s hv
 | .f ..,s,hv=>bk _ s hv
 | .br ..,s,hv=>bk _ s hv
 | .opt ..,s,hv=>bk _ s hv
 | .byt ..,s,hv=>bk _ s hv
 | .call ..,s,hv=>bk _ s hv
 | .loop1 ..,s,hv=>bk _ s hv
 | .loop2 ..,s,hv=>bk _ s hv
 | .loopE ..,s,hv=>bk _ s hv
 | .cut ..,s,hv=>bk _ s hv
 | .out ..,s,hv=>bk _ s hv
theorem oQ {cx:Cx}{E:Env}{a:Act}{w:World}{K:AS→Hn P→Prop}{h:Hn P}{s:AS}(hs:SR cx E s a w)(hv:JY h s K):∃s2 h2,K s2 h2∧SR cx E s2 a w∧Mut s s2 E E w w∧s2.us=s.us:=
 Hn.go_elim hv (fun h' hv=>⟨s,h',hv,hs,Mut.refl s E w,rfl⟩) fun h' hv=>kw h' s hs hv

theorem uB {cx:Cx}{T:TT}{R:XC P}{F:Fence}{n kb:Nat}(hF:FOK F)(hT:T.ok P)(hR:B2 R){all:List Oper}{Q:Exit→Act→World→Prop}{K:AS→Hn P→Prop}:∀(l:List Oper) (i:Nat) (s:AS) (h:Hn P) (E:Env) (a:Act) (w:World),SR cx E s a w→(∀k∈s.us,k<i)→xL T R cx.nt kb all i l s h K→
  (∀s' h' E' a' w',K s' h'→SR cx E' s' a' w'→Stp E E' w w'→Mut s s' E E' w w'→(∀k∈s'.us,k<i+l.length)→Q .normal a' w')→wpListIn F n P all.toArray Q l a w
 |[],i,s,h,E,a,w,hs,hus,hv,hQ=>hQ s h E a w hv hs (Stp.refl E w) (Mut.refl s E w) (by simpa using hus)
 |o::r,i,s0,h0,E,a,w,hs0,hus0,hv,hQ=>by
  obtain⟨hd,hv⟩:=bP.1 hv
  obtain⟨s,h,hv,hs,hmut0,hus1⟩:=oQ hs0 hv
  have hus:∀k∈s.us,k<i:=by rw[hus1];exact hus0
  have hlen:i+(o::r).length=i+1+r.length:=by simp only[T3];omega
  rw[hlen]at hQ
  have hi:i∉s.us:=fun hh=>V1 _ (hus i hh)
  have hus':∀k∈i::s.us,k<i+1:=fun k hk=>by
   rcases List.mem_cons.1 hk with rfl|hk
   ·omega
   ·have:=hus k hk;omega
  have next:∀(s1:AS) (h1:Hn P) (E1:Env) (a1:Act) (w1:World),SR cx E1 s1 a1 w1→Stp E E1 w w1→Mut s s1 E E1 w w1→(∀k∈s1.us,k<i+1)→xL T R cx.nt kb all (i+1) r s1 h1 K→wpListIn F n P all.toArray Q r a1 w1:=fun s1 h1 E1 a1 w1 bY hst hmut hu1 hv1=>
   uB hF hT hR r (i+1) s1 h1 E1 a1 w1 bY hu1 hv1 fun s' h' E' a' w' hK hs' hst' hmut' hu'=>hQ s' h' E' a' w' hK hs' (hst.trans hst') ((hmut0.trans hmut (TD _)).trans hmut' hst.size) hu'
  unfold xL.xLo at hv
  unfold wpListIn
  cases hg:o.guard with
  |none=>
   rw[hg]at hv
   simp only[V3,hg,if_true]
   exact qd hF hT hs hus hd (uA (G:=fun s'=>∃h',xL T R cx.nt kb all (i+1) r s' h' K) hR hv fun s' h' hx=>⟨h',hx⟩) fun s' E' a' w' ⟨h',hK⟩ hs' hst hmut hu'=>next s' h' E' a' w' hs' hst hmut hu' hK
  |some jw=>
   obtain⟨j,want⟩:=jw
   rw[hg]at hv
   dsimp only at hv
   split at hv
   case h_2=>exact hv.elim
   case h_1 t ht=>
   split at hv
   case h_3=>cases hv
   case h_2 hb=>
    have hy:=oI hs ht hb
    simp only[V3,hg,hy]
    rw[if_neg (by simp)]
    exact⟨fun f _=>hF.fn f,next _ h E _ w (cV (s:={s with us:=i::s.us}) (hs.us i) hd (v:=some (.tup [])) oH) (Stp.refl E w) ⟨fun _ h=>h,fun _ _ _=>rfl,fun _ _ h=>h⟩ hus' hv⟩
   case h_1 b hb=>
   have hy:=kv hs ht hb
   simp only[V3,hg,hy]
   have run:∀c h,b=c→c=want→xO T R cx.nt kb i o {s with tm:=s.tm.set t (some (.v (.bool c)))} h (fun s' h'=>xL T R cx.nt kb all (i+1) r s' h' K)→(if(some b==some want)=true then o.wpIn F n P a w (wpListIn F n P all.toArray Q r) Q else(∀f,o.about P w a.eval=some f→F.fn f)∧wpListIn F n P all.toArray Q r (a.put o.dst undef) w):=fun c h hbc hcw hv=>by
    rw[if_pos (by rw[hbc,hcw];simp)]
    exact qd hF hT (hs.know hb hbc) hus hd (uA (G:=fun s'=>∃h',xL T R cx.nt kb all (i+1) r s' h' K) hR hv fun s' h' hx=>⟨h',hx⟩) fun s' E' a' w' ⟨h',hK⟩ hs' hst hmut hu'=>next s' h' E' a' w' hs' hst ⟨hmut.own,hmut.heap,hmut.old⟩ hu' hK
   have skip:∀c h,b=c→c≠want→xL T R cx.nt kb all (i+1) r {s with tm:=eK (s.tm.set t (some (.v (.bool c)))) o.dst (some (.tup [])),us:=i::s.us} h K→(if(some b==some want)=true then o.wpIn F n P a w (wpListIn F n P all.toArray Q r) Q else(∀f,o.about P w a.eval=some f→F.fn f)∧wpListIn F n P all.toArray Q r (a.put o.dst undef) w):=fun c h hbc hcw hv=>by
    rw[if_neg (by rw[hbc];simpa using hcw)]
    exact⟨fun f _=>hF.fn f,next _ h E _ w (cV (s:={s with tm:=s.tm.set t (some (.v (.bool c))),us:=i::s.us}) ((hs.know hb hbc).us i) hd (v:=some (.tup [])) oH) (Stp.refl E w) ⟨fun _ h=>h,fun _ _ _=>rfl,fun _ _ h=>h⟩ hus' hv⟩
   cases b with
   |true=>
    refine Hn.go_elim hv (fun h1 hv=>?_) fun h1 hv=>?_
    ·have hv:=(fj.1 hv).1 rfl
     cases want with
     |true=>exact run true h1 rfl rfl hv
     |false=>exact skip true h1 rfl (by simp) hv
    ·split at hv
     ·obtain⟨_,hv⟩:=hv
      cases want with
      |true=>exact run true _ rfl rfl hv
      |false=>exact skip true _ rfl (by simp) hv
     ·rename_i b' p h2
      obtain⟨e,_⟩:=hv;rw[p]at e;cases e
     ·rename_i b' ht hf
      obtain⟨e,hv,_⟩:=hv
      have hv:=hv e.symm
      cases want with
      |true=>exact run true _ rfl rfl hv
      |false=>exact skip true _ rfl (by simp) hv
     ·cases hv
   |false=>
    refine Hn.go_elim hv (fun h1 hv=>?_) fun h1 hv=>?_
    ·have hv:=(fj.1 hv).2 rfl
     cases want with
     |true=>exact skip false h1 rfl (by simp) hv
     |false=>exact run false h1 rfl rfl hv
    ·split at hv
     ·rename_i b' p h2
      obtain⟨e,_⟩:=hv;rw[p]at e;cases e
     ·obtain⟨_,hv⟩:=hv
      cases want with
      |true=>exact skip false _ rfl (by simp) hv
      |false=>exact run false _ rfl rfl hv
     ·rename_i b' ht hf
      obtain⟨e,_,hv⟩:=hv
      have hv:=hv e.symm
      cases want with
      |true=>exact skip false _ rfl (by simp) hv
      |false=>exact run false _ rfl rfl hv
     ·cases hv

def Na (K:AX→AS→Hn P→Prop)(s:AS)(h:Hn P):Option Code→Prop
 |none=>K .normal s h
 |some .ret=>K .ret s h
 |some (.exit id)=>K (.exit id) s h
 |_=>False
def JZ (R:XC P)(rd:Bool)(nt xn kb:Nat)(c:Code):Nat→AS→Hn P→(AX→AS→Hn P→Prop)→Prop
 |0,_,_,_=>Need 8 ()
 |m+1,s,h,K=>R rd nt xn kb c s h fun e s' h'=>match e with
  | .normal=>JZ R rd nt xn kb c m s' h' K
  |e=>K e s' h'
theorem oS {R:XC P}(hR:B2 R){rd:Bool}{nt xn kb:Nat}{c:Code}{K:AX→AS→Hn P→Prop}:∀(m:Nat) (s:AS) (h:Hn P),JZ R rd nt xn kb c m s h K→AWPr P rd nt xn c m s fun e s'=>∃h',K e s' h'
 |0,s,h,hv=>by cases hv
 |m+1,s,h,hv=>AWPr.step ((hR _ _ _ _ _ _ _ _ hv).ex fun e s' h' hv=>by
  cases e with
  |normal=>exact oS hR m s' h' hv
  |exit id=>exact⟨h',hv⟩
  |ret=>exact⟨h',hv⟩)
def J0 {α:Type}:List α→Bool
 |[]=>true
 |_=>false
def B5 (s:AS)(xn:Nat)(d:CutS)(X:Prop):Prop:=Lq s (κE d.es) (γE d.es) d.tm∧Lr s (κE d.es) (γE d.es) d.es∧iY (d.ok xn&&J0 s.us) X
theorem iE {s:AS}{xn:Nat}{d:CutS}{X:Prop}(h:B5 s xn d X)(hr:iA d):CutE s xn d∧X:=by
 obtain⟨h1,h2,h3⟩:=h
 obtain⟨h3,h4⟩:=bP.1 h3
 rw[Tw]at h3
 refine⟨⟨h1,h2,h3.1,hr,?_⟩,h4⟩
 cases hu:s.us with
 |nil=>rfl
 |cons x r=>rw[hu]at h3;cases h3.2

def Q4 (R:XC P)(m:Nat)(rd:Bool)(nt xn kb:Nat)(c:Code)(s:AS)(h:Hn P)(K:AX→AS→Hn P→Prop)(E:AS→Hn P→Prop):Prop:=
 h.goL (fun h'=>JZ R rd nt xn kb c m s h' K) fun h'=>zO h' s fun s h'=>match h' with
  | .loop1 rd' nt' xn' c' d _ e1 s1 _ h2=>(rd,nt,xn)=(rd',nt',xn')∧c=c'∧B5 s xn d (K e1 s1 h2)
  | .loop2 rd' nt' xn' c' d _ e1 s1 e2 s2 _ h1 h2=>(rd,nt,xn)=(rd',nt',xn')∧c=c'∧B5 s xn d (K e1 s1 h1∧K e2 s2 h2)
  | .loopE rd' nt' xn' c' d _ es _ hs=>(rd,nt,xn)=(rd',nt',xn')∧c=c'∧B5 s xn d (ut es fun i x=>K (ga es i).e ((ga es i).S x).st (hs i x))
  | .two h1 _=>E s h1∧True
  |h'=>Need 12 (((rd,nt,xn),(c,s)),h')
theorem qy {R:XC P}(hR:B2 R){m:Nat}{rd:Bool}{nt xn kb:Nat}{c:Code}{s:AS}{h:Hn P}{K:AX→AS→Hn P→Prop}{E:AS→Hn P→Prop}(hE:∀s h,E s h→AWPl P rd nt xn c s fun e s'=>∃h',K e s' h')(hv:Q4 R m rd nt xn kb c s h K E):AWPl P rd nt xn c s fun e s'=>∃h',K e s' h':=by
 refine Hn.goL_elim hv (fun h1 hv=>?_) fun h1 hv=>?_
 ·exact AWPl.rounds (oS hR m s h1 hv)
 ·obtain⟨s2,h2',hv,hret⟩:=jp _ _ hv
  refine AWPl.ret hret ?_
  split at hv
  ·rename_i rd' nt' xn' c' d rows e1 s1 hl h2
   obtain⟨he,rfl,hv⟩:=hv
   cases he
   obtain⟨hc,hv⟩:=iE hv rows
   refine AWPl.cutStart hc (hl.mono fun e s' ⟨q1,q2⟩=>?_)
   subst q1 q2;exact⟨_,hv⟩
  ·rename_i rd' nt' xn' c' d rows e1 s1 e2 s2 hl h1' h2
   obtain⟨he,rfl,hv⟩:=hv
   cases he
   obtain⟨hc,hv1,hv2⟩:=iE hv rows
   refine AWPl.cutStart hc (hl.mono fun e s' hq=>?_)
   rcases hq with⟨q1,q2⟩|⟨q1,q2⟩
   ·subst q1 q2;exact⟨_,hv1⟩
   ·subst q1 q2;exact⟨_,hv2⟩
  ·rename_i rd' nt' xn' c' d rows es hl hs'
   obtain⟨he,rfl,hv⟩:=hv
   cases he
   obtain⟨hc,hv⟩:=iE hv rows
   exact AWPl.cutStart hc (hl.mono fun e s' hq=>uv (G:=fun e s'=>∃h',K e s' h') hv (fun i x hx=>⟨_,hx⟩) hq)
  ·exact hE _ _ hv.1
  ·cases hv
section
variable {F:Fence} {n:Nat} {P:Program} {b:Frame} {a:Act} {k:List Item} {cs:List Frame} {w:World} {Q:Exit→Act→World→Prop}
theorem ek {c:Code}:step P (lone (b.atR a (.code (.scope c)::k)) cs w)= .next (lone (b.atR a (.code c:: .inScope c::k)) cs w):=
 step_lone_go (by simp[stepG,stepG.exec,Frame.atR])
theorem pF {c:Code}:step P (lone (b.atR a (.inScope c::k)) cs w)= .next (lone (b.atR a k) cs w):=
 step_lone_go (by simp[stepG,stepG.exec,Frame.atR])
def J1 (Q:Exit→Act→World→Prop):Exit→Act→World→Prop
 | .goto _,_,_=>False
 |e,a,w=>Q e a w
theorem wo {c:Code}(h:c.wpIn F n P (J1 Q) a w):(Code.scope c).wpIn F n P Q a w:=by
 intro b k cs hro hb hr
 have h0:(lone (b.atR a (.code (.scope c)::k)) cs w).fenced P F:=fenced_calm hb hr rfl
 obtain⟨e,a₁,w₁,hq,harr⟩:=h b (.inScope c::k) cs hro hb hr
 cases e with
 |normal=>exact⟨.normal,a₁,w₁,hq,.head h0 ek (StepsIn.trans harr (.one (fenced_calm hb hr rfl) pF))⟩
 |exit id=>
  have hx:exitTo id (.inScope c::k)=exitTo id k:=by simp[exitTo]
  exact⟨.exit id,a₁,w₁,hq,fun k' hk=>.head h0 ek (harr.1 k' (by rw[hx];exact hk)),
   fun hr' hk=>let⟨k₁,h1,h2⟩:=harr.2 hr' (by rw[hx];exact hk);⟨k₁,h1,.head h0 ek h2⟩⟩
 |goto l=>exact hq.elim
 |ret=>exact⟨_,a₁,w₁,hq,.of_steps (.one h0 ek) harr⟩
 |panic ch=>exact⟨_,a₁,w₁,hq,.of_steps (.one h0 ek) harr⟩
 |outgrown=>exact⟨_,a₁,w₁,hq,.of_steps (.one h0 ek) harr⟩
end
def xC (P:Program)(T:TT):Nat→XC P
 |0,_,_,_,_,_,_,_,_=>Need 8 ()
 |f+1,rd,nt,xn,kb,code,s,h,K=>bif h.isAbs then True else match code with
  | .skip=>K .normal s h
  | .region _ ops d=>bif d then iY (BM (JV ops.toList []) 0 ops.toList) (JY h s fun s h=>xD T nt kb ops.toList (JV ops.toList []) 0 ops.toList s [] h fun s' h'=>wm (s'.nx+8*ops.size) fun nx=>K .normal {tm:=s'.tm,hp:=s'.hp,nx:=nx,us:=[]} h')
   else xL T (xC P T f) nt kb ops.toList 0 ops.toList s h fun s' h'=>wm (s'.nx+8*ops.size) fun nx=>K .normal {tm:=s'.tm,hp:=s'.hp,nx:=nx,us:=[]} h'
  | .seq x y=>xC P T f rd nt xn kb x s h fun e s' h'=>match e with
   | .normal=>xC P T f rd nt xn kb y s' h' K
   |e=>K e s' h'
  | .cond c x y=>match ft s c with
   |some (.v (.bool b))=>h.go (fun h'=>qx b (xC P T f rd nt xn kb x (g8 s c true) h' K) (xC P T f rd nt xn kb y (g8 s c false) h' K)) fun h'=>match h' with
    | .t b' _ h2=>b=b'∧xC P T f rd nt xn kb x (g8 s c true) h2 K
    | .f b' _ h2=>b=b'∧xC P T f rd nt xn kb y (g8 s c false) h2 K
    | .br b' ht hf=>b=b'∧(∀p,xC P T f rd nt xn kb x (g8 s c true) (ht p) K)∧∀p,xC P T f rd nt xn kb y (g8 s c false) (hf p) K
    |_=>Need 9 b
   |_=>Need 10 c
  | .block id c=>xC P T f rd nt xn kb c s h fun e s' h'=>match e with
   | .exit id'=>bif Tx id' id then K .normal s' h' else K (.exit id') s' h'
   |e=>K e s' h'
  | .exit id=>K (.exit id) s h
  | .ret=>K .ret s h
  | .rangeFunc g ps assign body=>iY (!rd) (match ft s g with
   |some (.fn (.func f') fi ca)=>SG T (xC P T f) f' (fi++[.yl s.nx s.nx]++ca) (s.nx+8) (s.nx+8) (kb+8*(nt+2)) (s.hp.set s.nx (some (s.nx,.l {st:=.ready,pend:=none,params:=ps,assign:=assign,body:=body,nt:=nt,tm:=s.tm}))) h fun _ s' h'=>
    recP s' s.nx s.nx (fun r=>!wg r.st) (fun r=>{r with st:=.exhausted}) fun r s2=>Na K {tm:=s.tm,hp:=s2.hp,nx:=s2.nx,us:=[]} h' r.pend
   |_=>Need 11 g)
  | .loop c=>Q4 (xC P T f) f rd nt xn kb c s h K fun s h1=>xC P T f rd nt xn kb c s h1 fun e s' h'=>match e with
   | .normal=>Q4 (xC P T f) f rd nt xn kb c s' h' K fun s h'=>Need 8 (s,h')
   |e=>K e s' h'
  | .scope c=>xC P T f rd nt xn kb c s h K
  | .label _=>K .normal s h
  |_=>Need 13 h

theorem oT {T:TT}(hT:T.ok P)(hfol:P.follows .mixedOrders=true):∀f,B2 (xC P T f)
 |0=>fun rd nt xn kb c s h K hv=>by cases hv
 |f+1=>fun rd nt xn kb code s h K hv=>by
  have ih:=oT hT hfol f
  unfold xC at hv
  rw[Hn.isAbs_no,cond_false]at hv
  cases code with
  |skip=>exact⟨fun F n cx E a w Q hF hro hn hu hs hQ=>wpIn_skip (hQ .normal s E a w ⟨h,hv⟩ hu hs ((Stp.refl E w).x _) (Mut.refl s E w))⟩
  |exit id=>exact⟨fun F n cx E a w Q hF hro hn hu hs hQ=>wpIn_exit (hQ (.exit id) s E a w ⟨h,hv⟩ hu hs ((Stp.refl E w).x _) (Mut.refl s E w))⟩
  |label l=>exact⟨fun F n cx E a w Q hF hro hn hu hs hQ=>wpIn_label (hQ .normal s E a w ⟨h,hv⟩ hu hs ((Stp.refl E w).x _) (Mut.refl s E w))⟩
  |scope c=>
   refine⟨fun F n cx E a w Q hF hro hn hu hs hQ=>wo ((ih _ _ _ _ _ _ _ _ hv).run F n cx E a w _ hF hro hn hu hs fun e s' E' a' w' ⟨h',hK⟩ hu' hs' hst hmut=>?_)⟩
   cases e with
   |normal=>exact hQ .normal s' E' a' w' ⟨h',hK⟩ hu' hs' hst hmut
   |exit id=>exact hQ (.exit id) s' E' a' w' ⟨h',hK⟩ hu' hs' hst hmut
   |ret=>exact hQ .ret s' E' a' w' ⟨h',hK⟩ hu' hs' hst hmut
  |ret=>exact⟨fun F n cx E a w Q hF hro hn hu hs hQ=>wpIn_ret (hQ .ret s E a w ⟨h,hv⟩ hu hs ((Stp.refl E w).x _) (Mut.refl s E w))⟩
  |region id ops d=>
   cases d with
   |true=>
    obtain⟨hpr,hv⟩:=bP.1 hv
    refine⟨fun F n cx E a w Q hF hro hn hu hs hQ=>?_⟩
    obtain⟨s2,h2,hv,gd,hmut,hus⟩:=oQ hs hv
    have hd:=jo _ _ _ _ _ hv
    have hu2:s2.us=[]:=by rw[hus];exact hu
    refine(AWP.draw (rd:=rd) (nt:=nt) (kb:=kb) (xn:=xn) (id:=id) (ops:=ops) (K:=fun e s'=>∃h',K e s' h') hT hfol _ hpr ?_).run F n cx E a w Q hF hro hn hu2 gd fun e s' E' a' w' hK hu' hs' hst hmut'=>hQ e s' E' a' w' hK hu' hs' hst (hmut.trans hmut' (TD _))
    exact gb _ _ _ _ hd fun s' ⟨h',hK⟩=>⟨h',oP.1 hK⟩
   |false=>
    refine⟨fun F n cx E a w Q hF hro hn hu hs hQ=>?_⟩
    subst hn
    refine wpIn_region_list (uB (n:=n) hF hT ih ops.toList 0 s h E a w hs (by rw[hu];intro k hk;cases hk) hv fun s' h' E' a' w' hK hs' hst hmut hus=>?_)
    have hK:=oP.1 hK
    exact hQ .normal _ E' a' w' ⟨h',hK⟩ rfl (hs'.fin (by simpa using hus)) (hst.x _) ⟨hmut.own,hmut.heap,hmut.old⟩
  |seq x y=>
   refine⟨fun F n cx E a w Q hF hro hn hu hs hQ=>?_⟩
   refine wpIn_seq ((ih _ _ _ _ _ _ _ _ hv).run F n cx E a w _ hF hro hn hu hs fun e s' E' a' w' ⟨h',hK⟩ hu' hs' hst hmut=>?_)
   cases e with
   |normal=>exact(ih _ _ _ _ _ _ _ _ hK).run F n cx E' a' w' Q hF hro hn hu' hs' fun e s2 E2 a2 w2 hK2 hu2 gd hst2 hmut2=>hQ e s2 E2 a2 w2 hK2 hu2 gd (hst.trans hst2) (hmut.trans hmut2 hst.size)
   |exit id=>exact hQ (.exit id) s' E' a' w' ⟨h',hK⟩ hu' hs' hst hmut
   |ret=>exact hQ .ret s' E' a' w' ⟨h',hK⟩ hu' hs' hst hmut
  |cond c x y=>
   dsimp only at hv
   split at hv
   case h_2=>cases hv
   case h_1 b hc=>
   have key:(b=true→∃h2,xC P T f rd nt xn kb x (g8 s c true) h2 K)∧(b=false→∃h2,xC P T f rd nt xn kb y (g8 s c false) h2 K):=by
    refine Hn.go_elim hv (fun h1 hv=>?_) fun h1 hv=>?_
    ·exact⟨fun hb=>⟨h1,(fj.1 hv).1 hb⟩,fun hb=>⟨h1,(fj.1 hv).2 hb⟩⟩
    ·split at hv
     ·rename_i b' p h2
      obtain⟨e,hv⟩:=hv
      exact⟨fun _=>⟨_,hv⟩,fun hb=>by rw[hb,p]at e;cases e⟩
     ·rename_i b' p h2
      obtain⟨e,hv⟩:=hv
      exact⟨fun hb=>(by rw[hb,p]at e;cases e),fun _=>⟨_,hv⟩⟩
     ·rename_i b' ht hf
      obtain⟨e,hv1,hv2⟩:=hv
      exact⟨fun hb=>⟨_,hv1 (e.symm.trans hb)⟩,fun hb=>⟨_,hv2 (e.symm.trans hb)⟩⟩
     ·cases hv
   refine⟨fun F n cx E a w Q hF hro hn hu hs hQ=>?_⟩
   have hr:=hs.eval hc
   generalize huc:a.eval c=uc at hr
   cases hr
   refine wpIn_cond huc ?_
   cases b with
   |true=>
    obtain⟨h2,hx⟩:=key.1 rfl
    exact(ih _ _ _ _ _ _ _ _ hx).run F n cx E a w Q hF hro hn (by rw[(rV _ _ _).1];exact hu) (hs.know' hc) fun e s2 E2 a2 w2 hK2 hu2 gd hst2 hmut2=>hQ e s2 E2 a2 w2 hK2 hu2 gd hst2 hmut2.know
   |false=>
    obtain⟨h2,hx⟩:=key.2 rfl
    exact(ih _ _ _ _ _ _ _ _ hx).run F n cx E a w Q hF hro hn (by rw[(rV _ _ _).1];exact hu) (hs.know' hc) fun e s2 E2 a2 w2 hK2 hu2 gd hst2 hmut2=>hQ e s2 E2 a2 w2 hK2 hu2 gd hst2 hmut2.know
  |block id c=>
   refine⟨fun F n cx E a w Q hF hro hn hu hs hQ=>?_⟩
   refine wpIn_block ((ih _ _ _ _ _ _ _ _ hv).run F n cx E a w _ hF hro hn hu hs fun e s' E' a' w' ⟨h',hK⟩ hu' hs' hst hmut=>?_)
   cases e with
   |normal=>exact hQ .normal s' E' a' w' ⟨h',hK⟩ hu' hs' hst hmut
   |ret=>exact hQ .ret s' E' a' w' ⟨h',hK⟩ hu' hs' hst hmut
   |exit id'=>
    simp only[AX.ex,Exit.inBlock]
    dsimp only at hK
    split
    ·rename_i e;subst e;simp only[Uz,cond_true]at hK;exact hQ .normal s' E' a' w' ⟨h',hK⟩ hu' hs' hst hmut
    ·rename_i e
     have:Tx id' id=false:=by
      cases hb:Tx id' id with
      |false=>rfl
      |true=>exact absurd (TB hb) e
     rw[this]at hK;exact hQ (.exit id') s' E' a' w' ⟨h',hK⟩ hu' hs' hst hmut
  |rangeFunc g ps assign body=>
   obtain⟨h0,h1⟩:=bP.1 hv
   cases rd with
   |true=>cases h0
   |false=>
    split at h1
    case h_2=>cases h1
    case h_1 f' fi ca hg=>
    obtain⟨fn,hf,h1⟩:=aM.1 h1
    obtain⟨c,hb,h1⟩:=aM.1 h1
    obtain⟨hn,h1⟩:=bP.1 h1
    refine AWP.range hT hg ⟨s.nx,fn,c,fn.results.toList,hf,hb,rfl,by simpa using hn,?_⟩
    refine(ih _ _ _ _ _ _ _ _ h1).ex fun e s' h2 hv=>?_
    obtain⟨he,hv⟩:=bP.1 hv
    refine⟨me he,gc (k8 hv) fun l ⟨_,hl⟩=>mf hl fun r s2 hx=>?_⟩
    cases hp:r.pend with
    |none=>rw[hp]at hx;exact⟨_,hx⟩
    |some c=>
     rw[hp]at hx
     cases c with
     |ret=>exact⟨_,hx⟩
     |exit id=>exact⟨_,hx⟩
     |_=>exact hx.elim
  |loop c=>
   refine(qy ih (fun s h hv=>AWPl.peel ((ih _ _ _ _ _ _ _ _ hv).mono fun e s' ⟨h',hv⟩=>?_)) hv).awp
   cases e with
   |normal=>exact qy ih (fun s h hv=>by cases hv) hv
   |exit id=>exact⟨h',hv⟩
   |ret=>exact⟨h',hv⟩
  |_=>cases hv
end
end Go.Vx
namespace Go.Vx
open Go.RowKit Go.Bw
def Qb (κ γ:Nat→Nat):List (Nat×D)→Prop
 |[]=>True
 |p::r=>some (dp κ γ p.2)=some (dp κ γ p.2)∧Qb κ γ r
theorem mg (κ γ:Nat→Nat):∀l,Qb κ γ l
 |[]=>trivial
 |_::r=>⟨rfl,mg κ γ r⟩
def SH (κ γ:Nat→Nat)(e:Ent):Prop:=
 match e.o with
 | .b x=>some (e.g,b7 κ γ x)=some (e.g,b7 κ γ x)
 | .c x=>some (e.g,x)=some (e.g,x)
 | .r x=>some (e.g,x)=some (e.g,x)
 | .l st pend params assign body nt tm=>(e.g,st,pend,params,assign,body,nt)=(e.g,st,pend,params,assign,body,nt)∧Qb κ γ tm
def Q5 (κ γ:Nat→Nat):List Ent→Prop
 |[]=>True
 |e::r=>SH κ γ e∧Q5 κ γ r
theorem oU (κ γ:Nat→Nat):∀l,Q5 κ γ l
 |[]=>trivial
 |e::r=>⟨by unfold SH;split<;>first|rfl|exact⟨rfl,mg κ γ _⟩,oU κ γ r⟩
def EV (d:CutS)(X:Prop):Prop:=Qb (κE d.es) (γE d.es) d.tm∧Q5 (κE d.es) (γE d.es) d.es∧X
def J2 (κ γ:Nat→Nat):List Nat→List Blk→Prop
 |g::gs,b::bs=>some (g,b7 κ γ b)=some (g,b7 κ γ b)∧J2 κ γ gs bs
 |_,_=>True
theorem xW (κ γ:Nat→Nat):∀gs bs,J2 κ γ gs bs
 |g::gs,b::bs=>⟨rfl,xW κ γ gs bs⟩
 |[],_=>trivial
 |_::_,[]=>trivial
def J3 (s:AS)(κ γ:Nat→Nat):List Nat→List Nat→List Blk→Prop
 |k::ks,g::gs,b::bs=>s.at k=some (g,b7 κ γ b)∧J3 s κ γ ks gs bs
 |_,_,_=>True

theorem qz:∀(es:List Endl) (F:(i:Nat)→(ga es i).κ→Prop),(∀i x,F i x)→ut es F
 |[],_,_=>trivial
 |_::r,F,h=>⟨fun x=>h 0 x,qz r (fun i x=>F (i+1) x) fun i x=>h (i+1) x⟩
section
variable {P:Program}
def Hn.T:Hn P→Prop
 | .nil=>True
 | .s _ h=>h.T
 | .chk b _ h=>b=b∧h.T
 | .t b _ h=>b=b∧h.T
 | .f b _ h=>b=b∧h.T
 | .br b ht hf=>b=b∧(∀p,(ht p).T)∧∀p,(hf p).T
 | .opt o _ _ h=>o=o∧h.T
 | .byt cs _ _ h=>cs=cs∧h.T
 | .lst cs _ _ h=>cs=cs∧h.T
 | .two a b=>a.T∧b.T
 | .stab l h=>l.map (fun c=>(c,c))=l.map (fun c=>(c,c))∧h.T
 | .abs _=>True
 | .val _ d _ _ h=>some d=some d∧h.T
 | .blk _ g b _ _ h=>some (g,b)=some (g,b)∧h.T
 | .em _ ht hf=>(∀p,(ht p).T)∧∀p,(hf p).T
 | .recv _ _ d _ _ h=>some d=some d∧h.T
 | .nils _ _ _ _ h=>some kj=some kj∧h.T
 | .nilc _ g0 b _ _ _ _ h=>some (g0,b)=some (g0,b)∧some kj=some kj∧h.T
 | .call f0 _ _ b1 _ q _ _ b2 _ hin _ _ _ h=>f0=f0∧some (b1,q)=some (b1,q)∧some (b2,hin)=some (b2,hin)∧h.T
 | .loop1 rd nt xn c d _ _ _ _ h=>(rd,nt,xn)=(rd,nt,xn)∧c=c∧EV d h.T
 | .loop2 rd nt xn c d _ _ _ _ _ _ h1 h2=>(rd,nt,xn)=(rd,nt,xn)∧c=c∧EV d (h1.T∧h2.T)
 | .loopE rd nt xn c d _ es _ hs=>(rd,nt,xn)=(rd,nt,xn)∧c=c∧EV d (ut es fun i x=>(hs i x).T)
 | .cut e d _ Q _=>e=e∧EV d (Q=Q)
 | .out ks gs r bs R _=>rL (fun j=>ks.getD j 0) (fun j=>gs.getD j 0) bs r=rL (fun j=>ks.getD j 0) (fun j=>gs.getD j 0) bs r∧J2 (fun j=>ks.getD j 0) (fun j=>gs.getD j 0) gs bs∧R=R
theorem Hn.T_ok:∀h:Hn P,h.T
 | .nil=>trivial
 | .s _ h=>h.T_ok
 | .chk _ _ h=>⟨rfl,h.T_ok⟩
 | .t _ _ h=>⟨rfl,h.T_ok⟩
 | .f _ _ h=>⟨rfl,h.T_ok⟩
 | .br _ ht hf=>⟨rfl,fun p=>(ht p).T_ok,fun p=>(hf p).T_ok⟩
 | .opt _ _ _ h=>⟨rfl,h.T_ok⟩
 | .byt _ _ _ h=>⟨rfl,h.T_ok⟩
 | .lst _ _ _ h=>⟨rfl,h.T_ok⟩
 | .two a b=>⟨a.T_ok,b.T_ok⟩
 | .stab _ h=>⟨rfl,h.T_ok⟩
 | .abs _=>trivial
 | .val _ _ _ _ h=>⟨rfl,h.T_ok⟩
 | .blk _ _ _ _ _ h=>⟨rfl,h.T_ok⟩
 | .em _ ht hf=>⟨fun p=>(ht p).T_ok,fun p=>(hf p).T_ok⟩
 | .recv _ _ _ _ _ h=>⟨rfl,h.T_ok⟩
 | .nils _ _ _ _ h=>⟨rfl,h.T_ok⟩
 | .nilc _ _ _ _ _ _ _ h=>⟨rfl,rfl,h.T_ok⟩
 | .call _ _ _ _ _ _ _ _ _ _ _ _ _ _ h=>⟨rfl,rfl,rfl,h.T_ok⟩
 | .loop1 _ _ _ _ d _ _ _ _ h=>⟨rfl,rfl,mg _ _ _,oU _ _ _,h.T_ok⟩
 | .loop2 _ _ _ _ d _ _ _ _ _ _ h1 h2=>⟨rfl,rfl,mg _ _ _,oU _ _ _,h1.T_ok,h2.T_ok⟩
 | .loopE _ _ _ _ d _ es _ hs=>⟨rfl,rfl,mg _ _ _,oU _ _ _,qz es _ fun i x=>(hs i x).T_ok⟩
 | .cut _ d _ _ _=>⟨rfl,mg _ _ _,oU _ _ _,rfl⟩
 | .out _ _ _ _ _ _=>⟨rfl,xW _ _ _ _,rfl⟩

def B6 (xn:Nat)(Q:AX→AS→Prop)(e:AX)(s:AS)(h:Hn P):Prop:=
 h.go (fun h'=>Need 21 (e,s,h')) fun h'=>zO h' s fun s h=>match h with
  | .cut e' d _ Q' _=>e=e'∧B5 s xn d (Q=Q')
  |h'=>Need 21 (e,s,h')
theorem wp {xn:Nat}{Q:AX→AS→Prop}{e:AX}{s:AS}{h:Hn P}(hv:B6 xn Q e s h):∃(s2:AS) (d:CutS),oO s s2∧CutE s2 xn d∧Q e d.st:=by
 refine Hn.go_elim hv (fun h' hv=>by cases hv) fun h' hv=>?_
 obtain⟨s2,h2,hv,hs⟩:=jp _ _ hv
 split at hv
 ·rename_i e' d rows Q' p
  obtain⟨rfl,hv⟩:=hv
  obtain⟨hc,rfl⟩:=iE hv rows
  exact⟨s2,d,hs,hc,p⟩
 ·cases hv

def Q6 (T:TT)(rs:List ResultVar)(al:Bool)(m n:Nat)(R:D→List Blk→Prop)(e:AX)(s:AS)(h:Hn P):Prop:=
 iY (B3 e) (B4 T s rs h fun l h=>h.go (fun h'=>Need 22 h') fun h'=>match h' with
  | .out ks gs r bs R' _=>ud l=rL (fun j=>ks.getD j 0) (fun j=>gs.getD j 0) bs r∧J3 s (fun j=>ks.getD j 0) (fun j=>gs.getD j 0) ks gs bs∧iY (f8 ks&&jQ 0 m gs&&Tx bs.length n&&Tx ks.length n&&Tx gs.length n) (R=R')
  | .abs _=>True
  |_=>Need 23 (s,l))
def wq (al:Bool)(n:Nat):List Blk→Prop
 |[]=>True
 |b::r=>M7 al n b=true∧wq al n r

theorem qD {al:Bool}{n:Nat}{κ γ:Nat→Nat}{s:AS}:∀{ks gs:List Nat} {bs:List Blk},ks.length=bs.length→gs.length=bs.length→J3 s κ γ ks gs bs→wq al n bs→ER al n κ γ s ks gs bs
 |[],[],[],_,_,_,_=>trivial
 |k::ks,g::gs,b::bs,h1,h2,h3,h4=>⟨h3.1,h4.1,qD (by simpa using h1) (by simpa using h2) h3.2 h4.2⟩
 |[],_::_,_,h1,h2,_,_=>by simp only[Vj,T3]at h1 h2;omega
 |_::_,[],_,h1,h2,_,_=>by simp only[Vj,T3]at h1 h2;omega
 |[],[],_::_,h1,_,_,_=>by simp at h1
 |_::_,_::_,[],h1,_,_,_=>by simp at h1

mutual
theorem oV {al:Bool}{κ γ:Nat→Nat}:∀(d:D),nc al 0 d=true→dp κ γ d=d
 | .v _,_=>rfl
 | .sl _ _ _ _,_=>rfl
 | .ep _ _,_=>rfl
 | .agg cs,h=>congrArg UA (g9 cs h)
 | .tup cs,h=>congrArg Uw (g9 cs h)
 | .ifc t x,h=>congrArg (D.ifc t) (oV x h)
 | .fn f fi ca,h=>by
  have h:(eY al 0 fi&&eY al 0 ca)=true:=h
  rw[Tw]at h
  show U9 f (f7 κ γ fi) (f7 κ γ ca)=_
  rw[g9 fi h.1,g9 ca h.2]
 | .ref _ g _ _ _,h=>absurd (TC h) (W4 g)
 | .ptr _ g _,h=>absurd (TC h) (W4 g)
 | .yl _ g,h=>absurd (TC h) (W4 g)
theorem g9 {al:Bool}{κ γ:Nat→Nat}:∀(l:List D),eY al 0 l=true→f7 κ γ l=l
 |[],_=>rfl
 |d::r,h=>by
  have h:(nc al 0 d&&eY al 0 r)=true:=h
  rw[Tw]at h
  show dp κ γ d::f7 κ γ r=_
  rw[oV d h.1,g9 r h.2]
end
theorem zR {al:Bool}{κ γ:Nat→Nat}{bs:List Blk}{r:D}(h:nc al bs.length r=true):rL κ γ bs r=dp κ γ r:=by
 cases bs with
 |nil=>exact(oV r h).symm
 |cons _ _=>rfl
mutual
theorem B7 {al:Bool}{n:Nat}:∀(d:D),d.pl=true→nc al n d=true
 | .v _,_=>rfl
 | .agg cs,h=>xX cs h
 | .ifc _ x,h=>B7 x h
 | .sl ..,h=>by cases h
 | .ep ..,h=>by cases h
 | .tup ..,h=>by cases h
 | .fn ..,h=>by cases h
 | .ref ..,h=>by cases h
 | .ptr ..,h=>by cases h
 | .yl ..,h=>by cases h
theorem xX {al:Bool}{n:Nat}:∀(l:List D),xS l=true→eY al n l=true
 |[],_=>rfl
 |d::r,h=>by
  have h:(d.pl&&xS r)=true:=h
  rw[Tw]at h
  show(nc al n d&&eY al n r)=true
  rw[B7 d h.1,xX r h.2];rfl
end
theorem rY {α:Type}(f:α→D)(h:∀x,(f x).pl=true)(xs:List α):xS (xs.map f)=true:=jP.2 fun d hd=>by
 obtain⟨x,_,rfl⟩:=List.mem_map.1 hd;exact h x
theorem SpecH.run {al:Bool}{T:TT}(hT:T.ok P)(hfol:P.follows .mixedOrders=true){f:FuncId}{fn:Func}{c:Code}{rs:List ResultVar}{ds:List D}{hin:List Blk}{r:D}{bs:List Blk}(hf:P.funcs[f]? =some fn)(hb:fn.body=some c)(hrs:fn.results=⟨rs⟩)
  (hle:Tz hin.length bs.length=true) (hok:wq al bs.length bs) (hro:nc al bs.length r=true) (fuel kb:Nat) (h0:∀R:D→List Blk→Prop,(∀r' bs',r'=r→bs'=bs→R r' bs')→Hn P)
  (hE:xC P T fuel false fn.ntmps hin.length kb c (s0 ds hin) (h0 (fun r' bs'=>r'=r∧bs'=bs) fun _ _ h1 h2=>⟨h1,h2⟩) (Q6 T rs al hin.length bs.length fun r' bs'=>r'=r∧bs'=bs)=(h0 (fun r' bs'=>r'=r∧bs'=bs) fun _ _ h1 h2=>⟨h1,h2⟩).T):SpecH al P f ds hin r bs:=by
 obtain⟨h,hh⟩:∃h,h=h0 (fun r' bs'=>r'=r∧bs'=bs) fun _ _ h1 h2=>⟨h1,h2⟩:=⟨_,rfl⟩
 rw[←hh]at hE
 clear hh h0
 refine SpecH.of hT hf hb hrs hle ((oT hT hfol fuel _ _ _ _ _ _ _ _ (hE.mpr h.T_ok)).ex fun e s' h' hv=>?_)
 obtain⟨he,hv⟩:=bP.1 hv
 refine⟨me he,gc (k8 hv) fun l ⟨_,hv⟩=>?_⟩
 refine Hn.go_elim hv (fun h' hv=>by cases hv) fun h' hv=>?_
 split at hv
 ·rename_i ks gs r' bs' R' p
  obtain⟨h1,h2,h3⟩:=hv
  obtain⟨q3,q4⟩:=bP.1 h3
  clear h3
  subst q4
  obtain⟨rfl,rfl⟩:=p
  simp only[Tw]at q3
  obtain⟨⟨⟨⟨a1,a2⟩,a4⟩,a5⟩,a6⟩:=q3
  have a5:=TB a5
  have a6:=TB a6
  exact⟨ks,gs,qD a5 a6 h2 hok,a1,a2,(zR hro).symm.trans h1.symm,hro⟩
 ·rename_i p;exact p.elim
 ·cases hv

def k9 (K:AX→AS→Prop):AX→AS→Prop
 | .normal,_=>False
 |e,s=>K e s
theorem AWPl.runLoop {T:TT}(hT:T.ok P)(hfol:P.follows .mixedOrders=true){rd:Bool}{nt xn:Nat}{c:Code}{K:AX→AS→Prop}{ι:Type}(S:ι→CutS)(μ:ι→Nat)(fuel kb:Nat)(h0:∀(i:ι) (Q:AX→AS→Prop),(∀i',μ i'<μ i→Q .normal (S i').st)→(∀e s,k9 K e s→Q e s)→Hn P)
  (hE:∀i,xC P T fuel rd nt xn kb c (S i).st (h0 i (fun e s'=>(e= .normal∧∃i',s'=(S i').st∧μ i'<μ i)∨k9 K e s') (fun i' hm=>.inl ⟨rfl,i',rfl,hm⟩) fun _ _ hk=>.inr hk) (B6 xn fun e s'=>(e= .normal∧∃i',s'=(S i').st∧μ i'<μ i)∨k9 K e s')=
   (h0 i (fun e s'=>(e= .normal∧∃i',s'=(S i').st∧μ i'<μ i)∨k9 K e s') (fun i' hm=>.inl ⟨rfl,i',rfl,hm⟩) fun _ _ hk=>.inr hk).T) (i0:ι):AWPl P rd nt xn c (S i0).st K:=
 AWPl.loopI (fun i=>(S i).st) (fun _=>rfl) μ (fun i=>(AWP.cutEndR (Q:=fun e s'=>(e= .normal∧∃i',s'=(S i').st∧μ i'<μ i)∨k9 K e s') ((oT hT hfol fuel _ _ _ _ _ _ _ _ ((hE i).mpr (Hn.T_ok _))).ex fun e s' h' hv=>wp hv)).mono fun e s' hq=>by
  cases e with
  |normal=>
   rcases hq with⟨_,hq⟩|hq
   ·exact hq
   ·exact hq.elim
  |exit id=>
   rcases hq with⟨hq,_⟩|hq
   ·cases hq
   ·exact hq
  |ret=>
   rcases hq with⟨hq,_⟩|hq
   ·cases hq
   ·exact hq) i0
end
def fu:Code→List Code
 | .seq x y=>fu x++fu y
 | .cond _ x y=>fu x++fu y
 | .block _ c=>fu c
 | .scope c=>fu c
 | .loop c=>c::fu c
 | .rangeFunc _ _ a b=>fu a++fu b
 |_=>[]
end Go.Vx
namespace Go.Vx
open Go.RowKit Go.Bw
theorem aq {α:Type}{f:α→D}(xs:List α){e:Nat}(d:α)(h:e<xs.length):(xs.map f)[e]? =some (f (xs.getD e d)):=by
 rw[TN,Ts h,To,Ts h];rfl
theorem Q7 (cells:List D)(a b:Nat):eh cells a b=(cells.drop a).take b:=kZ ..
theorem fk {x:Int}(h:-9223372036854775808≤x∧x≤9223372036854775807):ar .i64 x=some (.v (.int .i64 x)):=by rw[aL,XW x h]
theorem bB {x:Int}(h:0≤x∧x≤255):ar .u8 x=some (.v (.int .u8 x)):=by rw[aL,Ye x h]
theorem aE {x:Int}(h:0≤x∧x≤4294967295):ar .u32 x=some (.v (.int .u32 x)):=by rw[aL,X0 x h]
theorem bC {x:Int}(h:0≤x∧x≤18446744073709551615):ar .u64 x=some (.v (.int .u64 x)):=by rw[aL,IntWalk.u64_in x h]
theorem rZ {α β:Type}(f:α→β)(xs:List α):(xs.map f).take xs.length=xs.map f:=by rw[←TH (f:=f) (as:=xs),Uy]
theorem EW {k:IntKind}{m n x:Int}(h:x=min m n):lU k false m n=some (.v (.int k x)):=by
 rw[q8,cond_false,show(if n<m then n else m)=x by split<;>omega]
theorem EX {k:IntKind}{m n x:Int}(h:x=max m n):lU k true m n=some (.v (.int k x)):=by
 rw[q8,cond_true,show(if n>m then n else m)=x by split<;>omega]
theorem BH.nilSplit {P:Program}{f:FuncId}{n size sz:Nat}{cells cells':List D}{t:TypeId}(h0:BH P f [.v (.slice none 0 0)] (.v (.slice none 0 0)) [])(h1:BH P f [.sl true n size cells] (.ref 0 0 0 n sz) [⟨cells',t,true⟩])
  (hc:cells=[]→cells'=[]):BH P f [.sl false n size cells] (.ref 0 0 0 n sz) [⟨cells',t,true⟩]:=by
 refine⟨h1.1,fun O φ0 w args hO hhb hinj hl ha=>?_⟩
 cases args with
 |nil=>cases hl
 |cons u r=>
  have hr:r=[]:=Ua (by simpa using hl)
  subst hr
  have hr:=ha 0 _ u rfl rfl
  cases hr with
  |sl _ _ _ _ a c us hlen hd h1' hn hs hcc hnil hr=>
  cases a with
  |none=>
   obtain⟨rfl,_⟩:=hnil rfl
   have hn0:n=0:=Nat.le_zero.1 hcc.1
   subst hn0
   have hcl:cells=[]:=Ua (by rw[hn,Vd])
   refine(h0.2 O φ0 w [_] hO hhb hinj rfl fun j d u hj hu=>?_).mono ?_
   ·cases j with
    |zero=>simp at hj hu;subst hj hu;exact .v _ rfl
    |succ j=>simp at hj
   ·rintro e w' ⟨u,rfl,hb,φ,_,hrd,_⟩
    refine⟨u,rfl,hb,fun _=>none,fun j hj=>(by cases hj),?_,fun j b hj=>?_,fun i j x _ _ _ h=>(by cases h),fun j x _ _ h=>(by cases h)⟩
    ·cases hrd with
     |v c h=>exact .refn 0 0 sz VW rfl
    ·cases j with
     |zero=>simp at hj;subst hj;rw[hc hcl];exact⟨⟨VW,rfl,rfl⟩,fun _=>rfl⟩
     |succ j=>simp at hj
  |some a=>
   refine h1.2 O φ0 w [_] hO hhb hinj rfl fun j d u hj hu=>?_
   cases j with
   |zero=>simp at hj hu;subst hj hu;exact .sl _ _ _ _ _ c us hlen hd h1' hn hs hcc (fun h=>by cases h) hr
   |succ j=>simp at hj
theorem cu {α:Type}(f:α→D)(h:∀x,(f x).closed=true)(xs:List α):af (xs.map f)=true:=bL.2 fun d hd=>by
 obtain⟨x,_,rfl⟩:=List.mem_map.1 hd;exact h x
def Qc:List Ent→List (Nat×Nat)→List Ent
 |e::r,p::l=>⟨e.k',e.g',p.1,p.2,e.o⟩::Qc r l
 |r,_=>r
def CutS.re (c:CutS)(l:List (Nat×Nat)):CutS:=⟨c.tm,Qc c.es l,c.nx⟩
def ap (P:Program)(f n:Nat):Code:=(fu ((P.funcs[f]?.bind (·.body)).getD .skip)).getD n .skip
def dZ:Code→List (Array Tmp×Code×Code)
 | .seq x y=>dZ x++dZ y
 | .cond _ x y=>dZ x++dZ y
 | .block _ c=>dZ c
 | .scope c=>dZ c
 | .loop c=>dZ c
 | .rangeFunc _ ps a b=>(ps,a,b)::(dZ a++dZ b)
 |_=>[]
def rangeAt (P:Program)(f n:Nat):Array Tmp×Code×Code:=(dZ ((P.funcs[f]?.bind (·.body)).getD .skip)).getD n (#[],.skip,.skip)
theorem B8:∀(es:List Ent) (l:List (Nat×Nat)),(Qc es l).map (fun e=>(e.k',(e.g',e.o.ob)))=es.map fun e=>(e.k',(e.g',e.o.ob))
 |[],[]=>rfl
 |[],_::_=>rfl
 |_::_,[]=>rfl
 |e::r,p::l=>by simp only[Qc,Vq,B8 r l]
theorem B9 (d:CutS)(l:List (Nat×Nat)):(d.re l).st=d.st:=by unfold CutS.st CutS.re;simp only[B8]
section
variable {P:Program}
def Nx {ι:Type}(S:ι→CutS)(μ:ι→Nat)(Q:AX→AS→Prop)(i:ι):Prop:=∀i',μ i'<μ i→Q .normal (S i').st
def SI (es:List Endl)(Q:AX→AS→Prop):Prop:=∀e s,k9 (uu es) e s→Q e s
def Hn.next {ι:Type}{S:ι→CutS}{Q:AX→AS→Prop}{μ:ι→Nat}{i:ι}(next:Nx S μ Q i)(i':ι)(h:μ i'<μ i)(l:List (Nat×Nat))(rows:iA ((S i').re l)):Hn P:=.cut .normal ((S i').re l) rows Q (by rw[B9];exact next i' h)
def Hn.last {es:List Endl}{Q:AX→AS→Prop}(last:SI es Q)(n:Nat)(x:(ga es n).κ)(h:g7 (ga es n).e=false)(l:List (Nat×Nat))(rows:iA (((ga es n).S x).re l)):Hn P:=
 .cut (ga es n).e (((ga es n).S x).re l) rows Q (by
  rw[B9]
  refine last _ _ ?_
  have hk:=uw es n x
  cases he:(ga es n).e with
  |normal=>rw[he]at h;cases h
  |exit id=>rw[he]at hk;exact hk
  |ret=>rw[he]at hk;exact hk)
def Hn.inl {T:TT}(hT:T.ok P)(hfol:P.follows .mixedOrders=true)(rd:Bool)(nt xn:Nat)(c:Code){ι:Type}(S:ι→CutS)(μ:ι→Nat)(es:List Endl)(fuel kb:Nat)(h0:∀(i:ι) (Q:AX→AS→Prop),Nx S μ Q i→SI es Q→Hn P)
  (hE:∀i,xC P T fuel rd nt xn kb c (S i).st (h0 i (fun e s'=>(e= .normal∧∃i',s'=(S i').st∧μ i'<μ i)∨k9 (uu es) e s') (fun i' hm=>.inl ⟨rfl,i',rfl,hm⟩) fun _ _ hk=>.inr hk) (B6 xn fun e s'=>(e= .normal∧∃i',s'=(S i').st∧μ i'<μ i)∨k9 (uu es) e s')=
   (h0 i (fun e s'=>(e= .normal∧∃i',s'=(S i').st∧μ i'<μ i)∨k9 (uu es) e s') (fun i' hm=>.inl ⟨rfl,i',rfl,hm⟩) fun _ _ hk=>.inr hk).T) (i0:ι) (l:List (Nat×Nat)) (rows:iA ((S i0).re l)) (hs:(i:Nat)→(ga es i).κ→Hn P):Hn P:=
 .loopE rd nt xn c ((S i0).re l) rows es (by rw[B9];exact AWPl.runLoop hT hfol S μ fuel kb h0 hE i0) hs
def bY {e:Endl}(h:e.κ→Hn P):(i:Nat)→(ga [e] i).κ→Hn P
 |0,x=>h x
 |_+1,x=>nomatch x
def gd {e1 e2:Endl}(h1:e1.κ→Hn P)(h2:e2.κ→Hn P):(i:Nat)→(ga [e1,e2] i).κ→Hn P
 |0,x=>h1 x
 |1,x=>h2 x
 |_+2,x=>nomatch x
def qE {e1 e2 e3:Endl}(h1:e1.κ→Hn P)(h2:e2.κ→Hn P)(h3:e3.κ→Hn P):(i:Nat)→(ga [e1,e2,e3] i).κ→Hn P
 |0,x=>h1 x
 |1,x=>h2 x
 |2,x=>h3 x
 |_+3,x=>nomatch x
def GO {e1 e2 e3 e4:Endl}(h1:e1.κ→Hn P)(h2:e2.κ→Hn P)(h3:e3.κ→Hn P)(h4:e4.κ→Hn P):(i:Nat)→(ga [e1,e2,e3,e4] i).κ→Hn P
 |0,x=>h1 x
 |1,x=>h2 x
 |2,x=>h3 x
 |3,x=>h4 x
 |_+4,x=>nomatch x
end
end Go.Vx
namespace Go.Vx
open Go.RowKit Go.Bw
theorem aS {k:IntKind}{v r:Int}(h:v=r):b4 k v=some (.v (.int k r)):=by rw[de,h]
theorem jS (n:Nat)(x:Int)(hx:0≤x):TA n x=BitVec.ofNat n x.toNat:=by
 obtain⟨m,rfl⟩:=UI hx
 simp
theorem xY {n:Nat}{x y:Int}(hx:0≤x∧x.toNat<2^n)(hy:0≤y∧y.toNat<2^n):(TA n x|||TA n y).toNat=x.toNat|||y.toNat:=by
 rw[jS n x hx.1,jS n y hy.1,BitVec.toNat_or,WE,WE,UZ hx.2,UZ hy.2]
theorem oW {n:Nat}{x y:Int}(hx:0≤x∧x.toNat<2^n)(hy:0≤y∧y.toNat<2^n):(TA n x&&&TA n y).toNat=x.toNat&&&y.toNat:=by
 rw[jS n x hx.1,jS n y hy.1,BitVec.toNat_and,WE,WE,UZ hx.2,UZ hy.2]
theorem fm {x y:Int}(h:0≤x):x.tmod y=x%y:=Int.tmod_eq_emod_of_nonneg h
theorem iF {x y:Int}(h:0≤y):x.fdiv y=x/y:=Vi x h
theorem J4 {x y:Nat}(m:Nat)(hx:x%2^m=0)(hy:y<2^m):x|||y=x+y:=by
 have e:x=2^m*(x/2^m):=by have:=YR x (2^m);omega
 rw[e,←VZ hy]
theorem uC {x y:Int}(hx:0≤x∧x≤255)(hy:0≤y∧y≤255):TM .u8 ((TA 8 x|||TA 8 y).toNat:Int)=((x.toNat|||y.toNat:Nat):Int):=by
 rw[xY ⟨hx.1,by omega⟩ ⟨hy.1,by omega⟩]
 have:x.toNat|||y.toNat<2^8:=Yq (by omega) (by omega)
 exact Ye _ (by omega)
theorem zT {x y:Int}(hx:0≤x∧x≤255)(hy:0≤y∧y≤255):TM .u8 ((TA 8 x&&&TA 8 y).toNat:Int)=((x.toNat&&&y.toNat:Nat):Int):=by
 rw[oW ⟨hx.1,by omega⟩ ⟨hy.1,by omega⟩]
 have:x.toNat&&&y.toNat≤x.toNat:=XJ
 exact Ye _ (by omega)
theorem wt (m:Nat)(N:Int){x y:Int}(hx:0≤x∧x≤255)(hy:0≤y∧y≤255)(hN:y+1=N)(hm:((2^m:Nat):Int)=N):TM .u8 ((TA 8 x&&&TA 8 y).toNat:Int)=x%N:=by
 rw[zT hx hy,show y.toNat=2^m-1 from by omega,Wa,←hm]
 rw[WT,Vc hx.1]
theorem uE (m:Nat)(N:Int){x y:Int}(hx:0≤x∧x≤255)(hy:0≤y∧y≤255)(hm:((2^m:Nat):Int)=N)(h1:x%N=0)(h2:y<N):TM .u8 ((TA 8 x|||TA 8 y).toNat:Int)=x+y:=by
 rw[uC hx hy,J4 m (by have e:=congrArg zK h1;rw[←hm,←Vc hx.1,←WT,Vf]at e;exact e) (by omega)]
 omega
theorem qF {x y:Int}(hx:0≤x∧x≤4294967295)(hy:0≤y∧y≤4294967295):TM .u32 ((TA 32 x|||TA 32 y).toNat:Int)=((x.toNat|||y.toNat:Nat):Int):=by
 rw[xY ⟨hx.1,by omega⟩ ⟨hy.1,by omega⟩]
 have:x.toNat|||y.toNat<2^32:=Yq (by omega) (by omega)
 exact X0 _ (by omega)
theorem wu {x y:Int}(hx:0≤x∧x≤4294967295)(hy:0≤y∧y≤4294967295):TM .u32 ((TA 32 x&&&TA 32 y).toNat:Int)=((x.toNat&&&y.toNat:Nat):Int):=by
 rw[oW ⟨hx.1,by omega⟩ ⟨hy.1,by omega⟩]
 have:x.toNat&&&y.toNat≤x.toNat:=XJ
 exact X0 _ (by omega)
theorem mV (m:Nat)(N:Int){x y:Int}(hx:0≤x∧x≤4294967295)(hy:0≤y∧y≤4294967295)(hN:y+1=N)(hm:((2^m:Nat):Int)=N):TM .u32 ((TA 32 x&&&TA 32 y).toNat:Int)=x%N:=by
 rw[wu hx hy,show y.toNat=2^m-1 from by omega,Wa,←hm]
 rw[WT,Vc hx.1]
theorem wv {x y:Int}(hx:0≤x∧x≤18446744073709551615)(hy:0≤y∧y≤18446744073709551615):TM .u64 ((TA 64 x&&&TA 64 y).toNat:Int)=((x.toNat&&&y.toNat:Nat):Int):=by
 rw[oW ⟨hx.1,by omega⟩ ⟨hy.1,by omega⟩]
 have:x.toNat&&&y.toNat≤x.toNat:=XJ
 exact IntWalk.u64_in _ (by omega)
theorem mW (m:Nat)(N:Int){x y:Int}(hx:0≤x∧x≤18446744073709551615)(hy:0≤y∧y≤18446744073709551615)(hN:y+1=N)(hm:((2^m:Nat):Int)=N):TM .u64 ((TA 64 x&&&TA 64 y).toNat:Int)=x%N:=by
 rw[wv hx hy,show y.toNat=2^m-1 from by omega,Wa,←hm]
 rw[WT,Vc hx.1]
theorem dv {x y:Int}(hx:0≤x∧x≤9223372036854775807)(hy:0<y):TM .i64 (x.tdiv y)=x/y:=by
 rw[Int.tdiv_eq_ediv_of_nonneg hx.1]
 have h1:=Int.ediv_nonneg hx.1 (Yo hy)
 have h2:=Int.ediv_le_self y hx.1
 exact XW _ (by omega)
end Go.Vx

/- Part 3. -/
import Derived.Test.YtefjnofhgkjpmaaTm2
set_option linter.unusedVariables false
set_option linter.unusedSimpArgs false
set_option maxRecDepth 100000
set_option maxHeartbeats 4000000
open Array renaming ext' → Vl, foldl_toList → Yg, getD_eq_getD_getElem? → VY, getElem?_eq_getElem → Va, getElem?_eq_none → VX, getElem?_setIfInBounds_ne → U7, replicate → W7, toArray_toList → U0, toList_map → VH
open Bool renaming and_eq_true → Tw, false_eq_true → Vh, false_or → Yd, not_eq_false' → Yj, or_eq_false_iff → Wt, or_eq_true → VF
open Classical renaming byContradiction → Wx
open Go.Addr renaming add_mid → U8
open Go.Builtin renaming append_ → WB, firstCells → WD, nextslicecap → VP, zeroCells → VS
open Go.Code renaming roundsIn → Xu
open Go.Deferred renaming ofValue → Ww
open Go.Fence renaming wide → Y1
open Go.Oper renaming semAt_eq → Wz
open Go.Region renaming wanted → V3
open Go.Result renaming andThen_ok → TE
open Go.RowKit.Below renaming heap_alloc → Vk
open Go.Sem renaming run → WX, run_bind → TS, run_pure → TV
open Go.Value renaming func → Yi
open Go.Vx.D renaming agg → UA, ptr → TF, ref → Tu
open Go.Vx.Tr renaming get_set → Wu, ofL → XZ, of_ofL → Xh, of_set → UX, okK → XX
open Go.World renaming putObj_heap_other → VT, putObj_heap_same → WL, shape? → Xc
open List renaming all_cons → WY, all_eq_true → WS, any_eq_true → Xx, append_assoc → TG, append_nil → Ue, cons_append → V5, drop_zero → U4, eq_nil_of_length_eq_zero → Ua, filterMap_cons → X7, foldl_cons → W5, getElem?_append_left → TQ, getElem?_append_right → TO, getElem?_cons_succ → Vg, getElem?_eq_getElem → Ts, getElem?_map → TN, getElem_mem → Uo, length_append → Tt, length_cons → T3, length_map → TH, mapM_cons → XV, mem_append_left → U2, mem_append_right → Wj, mem_cons_of_mem → TU, mem_cons_self → TP, mem_filter → WC, mem_of_getElem? → UB, mem_range → XQ, mem_reverse → YE, mem_singleton → Wd, nil_append → VV, pairwise_append → W0, pairwise_lt_range → XG, range → Uv, range_succ → Wf, take_length → Uy, take_succ_eq_append_getElem → T8, zip_cons_cons → Yh
open List.Pairwise renaming filter → XY, nil → Yp
open Nat renaming add_mul → UN, add_sub_cancel_left → Vz, beq → Tx, ble → Tz, blt → VL, eq_of_beq_eq_true → TB, eq_zero_or_pos → VI, le_mul_of_pos_right → WH, le_of_ble_eq_true → TC, le_refl → TD, le_trans → T6, lt_irrefl → V1, lt_of_lt_of_le → Ug, lt_or_ge → T5, lt_trichotomy → VR, mul_assoc → UU, mul_le_mul_right → Ur, zero_add → T0, zero_mul → Vd
open Ne renaming symm → WW
open Option renaming bind_some → YD
namespace Go.Vx
open Go.RowKit Go.Bw

inductive AX
 |normal
 |exit (id:Nat)
 |ret
def AX.ex:AX→Exit
 | .normal=>.normal
 | .exit id=>.exit id
 | .ret=>.ret

structure AWP (P:Program)(rd:Bool)(nt xn:Nat)(c:Code)(s:AS)(K:AX→AS→Prop):Prop where
 run:∀(F:Fence) (n:Nat) (cx:Cx) (E:Env) (a:Act) (w:World) (Q:Exit→Act→World→Prop),FOK F→((rd=false→F.round=none)∧cx.xn≤xn)→cx.nt=nt→s.us=[]→SR cx E s a w→
  (∀e s' E' a' w',K e s'→s'.us=[]→SR cx E' s' a' w'→StpX cx.xn E E' w w'→Mut s s' E E' w w'→Q e.ex a' w')→c.wpIn F n P Q a w

def jj (T:TT)(s:AS):List ResultVar→(List D→Prop)→Prop
 |[],K=>K []
 | .tmp t::r,K=>jZ (s.tm.get t) fun d=>jj T s r fun l=>K (d::l)
 | .cell t ty::r,K=>(ie T s ty (.tmp t)).vc fun v _=>jZ v fun d=>jj T s r fun l=>K (d::l)
def ud:List D→D
 |[d]=>d
 |l=>.tup l


section
variable {P:Program} {T:TT} {rd:Bool} {nt kb xn:Nat}

theorem AWP.mono {c:Code}{s:AS}{K K':AX→AS→Prop}(h:AWP P rd nt xn c s K)(hk:∀e s',K e s'→K' e s'):AWP P rd nt xn c s K':=
 ⟨fun F n cx E a w Q hF hr hn hu hs hQ=>h.run F n cx E a w Q hF hr hn hu hs fun e s' E' a' w' hK=>hQ e s' E' a' w' (hk e s' hK)⟩

theorem rP (hT:T.ok P){cx:Cx}{E:Env}{s:AS}{a:Act}{w:World}(h:SR cx E s a w):∀(rs:List ResultVar) (K:List D→Prop),jj T s rs K→
  ∃l vs,K l∧vs.length=l.length∧(∀(j:Nat) d u,l[j]? =some d→vs[j]? =some u→RD E w d u)∧
   (rs.mapM (fun x:ResultVar=>match x with| .tmp t=>(pure (a.tmps.getD t undef):Sem Value)| .cell p t=>do loadVar t (←asAddr (a.tmps.getD p undef)))).run P w= .ok vs w
 |[],K,hv=>⟨[],[],hv,rfl,fun j d u hj=>by simp at hj,rfl⟩
 | .tmp t::r,K,hv=>by
  obtain⟨d,hd,hv⟩:=aM.1 hv
  obtain⟨l,vs,h1,h2,h3,h4⟩:=rP hT h r _ hv
  obtain⟨u,hu,hr⟩:=h.fr t d hd
  refine⟨d::l,u::vs,h1,by simp[h2],fun j d' u' a1 a2=>?_,?_⟩
  ·cases j with
   |zero=>simp at a1 a2;subst a1 a2;exact hr
   |succ j=>exact h3 j d' u' (by simpa using a1) (by simpa using a2)
  ·have e:a.tmps.getD t undef=u:=by simp[hu]
   rw[XV]
   simp only[TS,TV,TE,e,h4]
 | .cell t ty::r,K,hv=>by
  obtain⟨v,up,he,hv⟩:=Ev.vc_run hv
  obtain⟨d,rfl,hv⟩:=aM.1 hv
  obtain⟨l,vs,h1,h2,h3,h4⟩:=rP hT h r _ hv
  obtain⟨E',w',_,_,_,u,hu,hr⟩:=nU (i:=0) (o:=⟨none,.load ty (.tmp t),0, "",#[],none⟩) hT h rfl he
  -- a load leaves the world as it is
  unfold ie at he
  split at he
  case h_2=>exact he.elim
  case h_1 ti dx hti hx=>
  split at he
  case h_2=>exact he.elim
  case h_1 p hp=>
  obtain⟨c,cells,off⟩:=p
  obtain⟨hc,he⟩:=he
  obtain⟨b,ob,hu',hv'⟩:=nT h (h.eval hx) hp hc
  have hex:a.tmps.getD t undef= .pointer (some ⟨b,ob+off,none⟩):=hu'
  have hld:∃u,(loadVar ty ⟨b,ob+off,none⟩).run P w= .ok u w∧RD E w d u:=by
   unfold ng at he
   cases hrow:ti.desc.isRow with
   |true=>
    simp only[hrow,cond_true]at he
    obtain⟨hle,h5,rfl⟩:=he
    cases h5
    have hle:=TC hle
    obtain⟨us,hl,hrg,h6,hd⟩:=hv'.seg hle
    exact⟨_,run_loadVar_mid w b _ ty us ti.desc hrg (TT.info hT hti).1 hrow (by rw[(TT.info hT hti).2,hl]),.agg _ _ (by simp[hl];omega) hd h6⟩
   |false=>
    simp only[hrow,cond_false]at he
    obtain⟨d',hd',h5,rfl⟩:=he
    cases h5
    obtain⟨u,hu,_,hr⟩:=hv' off _ hd'
    refine⟨u,?_,hr⟩
    simp only[loadVar,TS,gT hT hti w,TE,hrow,Vh,if_false]
    simp[Go.load,WX,hu]
  obtain⟨u,hu,hr⟩:=hld
  refine⟨d::l,u::vs,h1,by simp[h2],fun j d' u' a1 a2=>?_,?_⟩
  ·cases j with
   |zero=>simp at a1 a2;subst a1 a2;exact hr
   |succ j=>exact h3 j d' u' (by simpa using a1) (by simpa using a2)
  ·have has:(asAddr (a.tmps.getD t undef)).run P w= .ok ⟨b,ob+off,none⟩ w:=by rw[hex];rfl
   rw[XV]
   simp only[TS,TV,TE,has,hu,h4]


theorem SR.unmark {cx:Cx}{E:Env}{s:AS}{a:Act}{w:World}(h:SR cx E s a w){b:Nat}{bs:List Nat}(hn:(b::bs).Nodup)
  (hb:∀x∈b::bs,cx.B≤x∧E.own x∧w.heap[x]? =some (.deferred (some []))):
  SR cx E s {a with defers:=bs.map (fun b=>{target:=.collected b,args:=#[]})} (w.putObj b (.deferred none))∧Stp E E w (w.putObj b (.deferred none))∧∀x∈bs,cx.B≤x∧E.own x∧(w.putObj b (.deferred none)).heap[x]? =some (.deferred (some [])):=by
 obtain⟨h1,h2,h3⟩:=hb b TP
 have hnk:¬bG s E.φ b:=h.unmarked h3
 have hsh:∀x,(w.putObj b (.deferred none)).shape? x=w.shape? x:=fun x=>by
  by_cases e:x=b
  ·subst e
   have hlt:=(Array.getElem?_eq_some_iff.1 h3).1
   unfold Xc;rw[WL hlt,h3]
  ·exact cI (VT e)
 have hst:Stp E E w (w.putObj b (.deferred none)):=⟨fun _ h=>h,fun _ _=>rfl,by simp,fun x _ hx=>⟨hx,VT (fun e=>by subst e;exact hx h2)⟩,fun x _=>hsh x⟩
 have hrest:∀x∈bs,cx.B≤x∧E.own x∧(w.putObj b (.deferred none)).heap[x]? =some (.deferred (some [])):=fun x hx=>by
  obtain⟨c1,c2,c3⟩:=hb x (TU _ hx)
  refine⟨c1,c2,?_⟩
  rw[VT (fun e=>by subst e;exact(List.nodup_cons.1 hn).1 hx)];exact c3
 have hob:∀{k g o},s.gat k=some (g,o)→OB E (w.putObj b (.deferred none)) g o:=fun{k g o} hk=>(h.ob hk).step hst fun x hx=>⟨h.own_of ⟨k,g,o,hk,hx⟩,VT (fun e=>by subst e;exact hnk ⟨k,g,o,hk,hx⟩)⟩
 refine⟨?_,hst,hrest⟩
 exact{
  fr:=fun t d hd=>by obtain⟨u,hu,hr⟩:=h.fr t d hd;exact⟨u,hu,hr.step hst⟩
  sz:=h.sz
  df:=⟨bs,rfl,(List.nodup_cons.1 hn).2,hrest⟩
  hp:=fun k g b' hk=>hob (AS.at_iff.1 hk)
  lp:=fun k g r hk=>hob (AS.lat_iff.1 hk)
  inj:=h.inj
  lt:=fun x hx=>by simpa using h.lt x hx
  low:=h.low
  base:=h.base
  bel:=h.bel.trans ⟨rfl,rfl,rfl,by simp,fun k hk hm=>VT (fun e=>by subst e;exact hm (cx.hM _ h1)),fun k _=>hsh k⟩
  nm:=h.nm
  szB:=by simpa using h.szB}

theorem GK {cx:Cx}{E:Env}{s:AS}{fn:Func}{F:Fence}{n:Nat}{R:Ending→World→Prop}:∀(bs:List Nat) (a:Act) (w:World),SR cx E s a w→a.defers=bs.map (fun b=>{target:=.collected b,args:=#[]})→bs.Nodup→(∀x∈bs,cx.B≤x∧E.own x∧w.heap[x]? =some (.deferred (some [])))→
  (∀w',SR cx E s {a with defers:=[]} w'→Stp E E w w'→∃v,(results fn a.tmps).run P w'= .ok v w'∧R (.returned v) w')→LeavesInM F n P fn a.tmps R a.defers .returning w
 |[],a,w,h,hd,hn,hb,hR=>by
  rw[hd]
  have:a={a with defers:=[]}:=by cases a;simp at hd;subst hd;rfl
  exact hR w (this▸h) (Stp.refl E w)
 |b::bs,a,w,h,hd,hn,hb,hR=>by
  rw[hd]
  obtain⟨h1,h2,h3⟩:=h.unmark hn hb
  refine⟨by simp,.inl ⟨b,_,rfl,run_takeDeferred (hb b TP).2.2,?_⟩⟩
  exact GK bs {a with defers:=bs.map (fun b=>{target:=.collected b,args:=#[]})} _ h1 rfl (List.nodup_cons.1 hn).2 h3 fun w' hs hst=>hR w' hs (h2.trans hst)

theorem rQ (hT:T.ok P){f:FuncId}{fn:Func}{c:Code}(hf:P.funcs[f]? =some fn)(hb:fn.body=some c){rs:List ResultVar}(hrs:fn.results=⟨rs⟩){s0:AS}{Φ:List D→AS→Prop}
  (h:AWP P false fn.ntmps xn c s0 fun e s'=>(e= .normal∨e= .ret)∧jj T s' rs fun l=>Φ l s') {cx:Cx} {E:Env} {w:World} {args:List Value} (hn:cx.nt=fn.ntmps) (hx:cx.xn≤xn) (hu:s0.us=[])
  (hs:SR cx E s0 {tmps:=args.toArray++W7 (fn.ntmps-args.toArray.size) undef,defers:=[]} w):
  Calls P f args.toArray w fun e w'=>∃l s' E' a' v,e= .returned v∧Φ l s'∧s'.us=[]∧SR cx E' s' a' w'∧a'.defers=[]∧StpX cx.xn E E' w w'∧(∀b,E.own b→E'.own b)∧(∀x,x<w.heap.size→bG s' E'.φ x→bG s0 E.φ x)∧RD E' w' (ud l) v:=by
 refine callsIn_wide.1 (callsIn_of_wp_marks (n:=0) hf hb trivial (h.run Y1 0 cx E _ w _ FOK.wide ⟨fun _=>rfl,hx⟩ hn hu hs ?_))
 rintro e s' E' a' w' ⟨he,hv⟩ hu' hs' hst hmut
 obtain⟨bs,d1,d2,d3⟩:=hs'.df
 have goal:LeavesInM Y1 0 P fn a'.tmps (fun e w'=>∃l s' E' a' v,e= .returned v∧Φ l s'∧s'.us=[]∧SR cx E' s' a' w'∧a'.defers=[]∧StpX cx.xn E E' w w'∧(∀b,E.own b→E'.own b)∧(∀x,x<w.heap.size→bG s' E'.φ x→bG s0 E.φ x)∧RD E' w' (ud l) v) a'.defers .returning w':=by
  refine GK bs a' w' hs' d1 d2 d3 fun w2 gd hst2=>?_
  obtain⟨l,vs,hK,hl,hrd,hrun⟩:=rP hT gd _ _ hv
  refine⟨if h:vs.toArray.size=1 then vs.toArray[0]else .tuple vs.toArray,?_,l,s',E',_,_,rfl,hK,hu',gd,rfl,hst.trans (hst2.x _),hmut.own,hmut.old,?_⟩
  ·unfold results
   rw[Array.mapM_eq_mapM_toList,hrs]
   simp only[TS,Sem.run_map]
   change ((WX P (List.mapM (fun x:ResultVar=>match x with| .tmp t=>(pure (a'.tmps.getD t undef):Sem Value)| .cell p t=>do loadVar t (←asAddr (a'.tmps.getD p undef))) rs) w2).andThen _).andThen _=_
   rw[hrun]
   rfl
  ·cases vs with
   |nil=>
    have:l=[]:=Ua hl.symm
    subst this;exact .tup [] [] rfl (by simp)
   |cons v vs=>
    cases vs with
    |nil=>
     cases l with
     |nil=>simp at hl
     |cons d l=>
      have:l=[]:=Ua (by simpa using hl.symm)
      subst this
      exact hrd 0 d v rfl rfl
    |cons v2 vs=>
     cases l with
     |nil=>simp at hl
     |cons d l=>cases l with
      |nil=>simp at hl
      |cons d2 l=>
       rw[dif_neg (by simp)]
       exact .tup _ _ hl hrd
 rcases he with rfl|rfl<;>exact goal
end
end Go.Vx
namespace Go.Vx
open Go.RowKit Go.Bw
section
variable {P:Program} {cx:Cx} {E:Env} {s:AS} {a:Act} {w:World} {i:Nat} {o:Oper} {T:TT}

def EI (T:TT)(s:AS)(nm ky:Nat)(ts:Array TypeId)(xs:Array Operand):Option (Bool×(D×Up)×(D×Up)):=
 match ts.toList,xs.toList with
 |[t,tx],[x,y]=>match T.get t,T.get tx,ft s x,ft s y with
  |some ⟨.slice e,_,_,_,_⟩,some ti,some (.ref k g off n' sz),some dy=>match T.get e,s.at k with
   |some ei,some p=>match im s ei.size ti.desc dy with
    |some (c2,n,news)=>
     some (Tx g p.1&&Tx sz ei.size&&Tx off 0&&Tx (n'*ei.size) p.2.cells.length&&Tx p.2.elem e&&c2&&decide (0<ei.size)&&decide (0<ei.bytes)&&Tz ((n'+n)*ei.bytes) 140737488355328&&VL 0 n'&&XX k&&XX ky,
      (.ref k g 0 (n'+n) ei.size,[(k,some (g,.b ⟨p.2.cells++news,e,true⟩)),(ky,none)]),
      (.ref ky nm 0 (n'+n) ei.size,[(ky,some (nm,.b ⟨p.2.cells++news,e,true⟩))]))
    |none=>none
   |_,_=>none
  |_,_,_,_=>none
 |_,_=>none

theorem SR.swap {s2 s3:AS}(q:SR cx E s2 a w){k ky g nm:Nat}{nb:Blk}(hk:s2.gat ky=some (nm,.b nb))(hg:E.nm g)(hφ:E.φ g=E.φ nm)(htm:s3.tm=s2.tm)(hnx:s3.nx=s2.nx)(hus:s3.us=s2.us)
  (hat:∀{k' g' o'},s3.gat k'=some (g',o')→(k'=k∧g'=g∧o'= .b nb)∨(k'≠k∧k'≠ky∧s2.gat k'=some (g',o'))):SR cx E s3 a w∧∀x,bG s3 E.φ x→bG s2 E.φ x:=by
 have own:∀x,bG s3 E.φ x→bG s2 E.φ x:=fun x ⟨k',g',o',h1,h2⟩=>by
  rcases hat h1 with⟨_,rfl,_⟩|⟨_,_,h3⟩
  ·exact⟨ky,nm,_,hk,hφ▸h2⟩
  ·exact⟨k',g',o',h3,h2⟩
 refine⟨{q with
  fr:=fun t d hd=>q.fr t d (htm▸hd)
  hp:=fun k' g' b' h1=>?_
  lp:=fun k' g' r h1=>?_
  inj:=fun k1 k2 g1 g2 o1 o2 hne h1 h2 x hx=>?_
  low:=fun x hx=>q.low x (own x hx)
  nm:=fun g' hg'=>by rw[hnx,hus];exact q.nm g' hg'},own⟩
 ·rcases hat (AS.at_iff.1 h1)with⟨_,rfl,h3⟩|⟨_,_,h3⟩
  ·cases h3
   have:=q.hp ky nm nb (AS.at_iff.2 hk)
   exact⟨hg,hφ▸this.2⟩
  ·exact q.hp _ _ _ (AS.at_iff.2 h3)
 ·rcases hat (AS.lat_iff.1 h1)with⟨_,rfl,h3⟩|⟨_,_,h3⟩
  ·cases h3
  ·exact q.lp _ _ _ (AS.lat_iff.2 h3)
 ·rcases hat h1 with⟨rfl,rfl,_⟩|⟨n1,n2,h3⟩<;>rcases hat h2 with⟨rfl,rfl,_⟩|⟨n3,n4,h4⟩
  ·exact absurd rfl hne
  ·exact q.inj ky k2 nm g2 _ _ (WW n4) hk h4 x (hφ▸hx)
  ·rw[hφ];exact q.inj k1 ky g1 nm _ _ n2 h3 hk x hx
  ·exact q.inj k1 k2 g1 g2 _ _ hne h3 h4 x hx

theorem pE (hT:T.ok P)(h:SR cx E s a w)(hi:i∉s.us){nm ky:Nat}(hg:s.nx+8*i≤nm∧nm<s.nx+8*i+8){c:Call}(ho:o.op= .call c)(hc:c.callee= .builtin .append){v1 v2:D}{up1 up2:Up}(he:EI T s nm ky c.argTypes c.args=some (true,(v1,up1),(v2,up2))):
  ce P cx E s a w i o (some v1) up1∨ce P cx E s a w i o (some v2) up2:=by
 unfold EI at he
 split at he
 case h_2=>cases he
 case h_1 t tx x y hts hxs=>
 split at he
 case h_2=>cases he
 case h_1 e z1 z2 z3 z4 ti k g off n' sz dy hti htx hx hy=>
 split at he
 case h_2=>cases he
 case h_1 ei p hei hk=>
 split at he
 case h_2=>cases he
 case h_1 c2 n news hsrc=>
 obtain⟨g',blk⟩:=p
 have he:=Option.some.inj he
 injection he with hcond he
 injection he with he1 he2
 injection he1 with hv1 hu1
 injection he2 with hv2 hu2
 subst hv1 hu1 hv2 hu2
 simp only[Tw,decide_eq_true_eq]at hcond
 obtain⟨⟨⟨⟨⟨⟨⟨⟨⟨⟨⟨hgg,hsz⟩,hof⟩,hlen⟩,hel⟩,hc2⟩,hsz0⟩,hby0⟩,hfit⟩,hm0⟩,hok⟩,hoky⟩:=hcond
 have hfit:=TC hfit
 have hm0:0<n':=TC hm0
 have e1:c.argTypes= #[t,tx]:=by apply Vl;simpa using hts
 have e2:c.args.map a.eval= #[a.eval x,a.eval y]:=by apply Vl;rw[VH,hxs];rfl
 have run0:∀{u:Value} {w':World},(WB #[t,tx] o.type #[a.eval x,a.eval y]).run P w= .ok u w'→(execOp a.eval o).run P w= .ok (.value u) w':=fun hu=>by
  unfold execOp
  simp only[ho,resolve,hc,TS,TV,TE,invoke,builtin,e1,e2,hu]
 have hrx:=h.eval hx
 have hry:=h.eval hy
 generalize hux:a.eval x=ux at hrx run0
 generalize huy:a.eval y=uy at hry run0
 obtain⟨hu1,hzl,⟨j0,hj1,hj2,hj3,hj4⟩,_⟩:=hT e ei hei
 have hu0:=(hT t _ hti).1
 obtain⟨vs,hS,hvl,hvd⟩:=l6 hT h hry hsrc hc2 htx
 have hS':Src P j0.size tx uy n vs w:=by rw[hj3];exact hS
 have hmax:n'+n≤fY:=by
  have:n'+n≤(n'+n)*ei.bytes:=WH _ hby0
  unfold fY;omega
 have hgrow:∀cap,cap<n'+n→VP (n'+n) cap*j0.bytes≤281474976710656:=fun cap hcap=>by
  rw[hj4]
  have h1:=nextslicecap_le (need:=n'+n) (old:=cap) hcap
  have h2:VP (n'+n) cap*ei.bytes≤2*(n'+n)*ei.bytes:=Ur _ h1
  rw[UU]at h2
  omega
 have hcap:=grownCap_ge w (n'+n)
 have hcapm:=fun cap=>grownCap_le_maxLen w (n'+n) cap e (by unfold maxLen;unfold fY at hmax;omega)
 cases hrx with
 |refn=>exact absurd hm0 (by omega)
 |ref _ _ _ _ _ c' b off' tt mm hg' hb hc3 hoff hsh hmm=>
  obtain rfl:g=g':=TB hgg
  obtain rfl:sz=ei.size:=TB hsz
  obtain rfl:off=0:=TB hof
  have hlen:=TB hlen
  have hel:blk.elem=e:=TB hel
  obtain⟨hlt,hown,cur,fr,hcur,hfz,hcl,_,hcell⟩:=h.block hk hb
  have hshm:mm=cur.size:=by rw[aN hcur]at hsh;cases hsh;rfl
  by_cases hroom:n'+n≤c'
  ·-- there is room
   have hcells:∀j,j<vs.length→(off'+n'*j0.size+j)<cur.size:=fun j hj=>by
    rw[hS'.newsLen]at hj
    have h1:n'*j0.size+n*j0.size≤c'*ei.size:=by rw[hj3,←UN];exact Ur _ hroom
    omega
   have hr:=run_append_room_src (P:=P) w t tx o.type e j0 (by rw[hu0]) hj1 b off' n' c' uy n vs hS' hroom
    (fun j hj=>by rw[cell_of_row w b _ cur blk.elem fr hcur,Va (hcells j hj)];rfl) (fun j hj=>jF w b _ cur blk.elem fr hcur hfz (hcells j hj))
   have hoff0:off'=0∨(n'=0∧n=0):=by
    rcases hoff with h1|⟨h1,h2⟩
    ·exact .inl h1
    ·exact .inr ⟨h1,by omega⟩
   have hvlen:vs.length=n*ei.size:=by rw[hS.newsLen]
   have hfitc:off'+n'*j0.size+vs.length≤cur.size:=by
    rw[hvlen,hj3]
    have h1:n'*ei.size+n*ei.size≤c'*ei.size:=by rw[←UN];exact Ur _ hroom
    omega
   obtain⟨cur',hcur',hsz',hget'⟩:=fO w b (off'+n'*j0.size) cur blk.elem fr vs hcur hfitc
   obtain⟨hgr,hz⟩:=dm b vs (off'+n'*j0.size) w
   obtain⟨q1,q2,q3,q4,q5⟩:=h.rename (ky:=ky) (k:=k) hi hg (some b) (fun b' hb'=>by cases hb';exact⟨g,blk,hk,hb⟩) ⟨blk.cells++news,e,true⟩ hgr hz
    (fun x hx=>by
     by_cases e1:x=b
     ·subst e1;rw[aN hcur,aN hcur',hsz']
     ·exact cI (hgr.block x hx (fun e2=>by cases e2;exact e1 rfl)))
    ⟨cur',fr,by rw[←hel];exact hcur',by rw[hsz'];exact hfz,by
     rw[Tt,←hvl,←hlen,hvlen,hsz',←hshm,←UN]
     exact T6 (Ur _ hroom) (by omega),(fun hh=>by cases hh),fun j d hj=>by
     rcases T5 j blk.cells.length with hjl|hjl
     ·rw[TQ hjl]at hj
      obtain⟨u,h1,h2,h3⟩:=hcell j d hj
      refine⟨u,?_,h2,h3⟩
      rw[hget',if_neg (fun hh=>?_)]
      ·exact h1
      ·rcases hoff0 with h0|⟨h0,h0'⟩
       ·rw[hj3]at hh;omega
       ·rw[hvlen,h0',Vd]at hh;omega
     ·rw[TO hjl]at hj
      have hjn:=(List.getElem?_eq_some_iff.1 hj).1
      have hjv:j-blk.cells.length<vs.length:=by omega
      have h0:off'=0:=by
       rcases hoff0 with h0|⟨h0,h0'⟩
       ·exact h0
       ·rw[hvlen,h0',Vd]at hjv;omega
      refine⟨vs[j-blk.cells.length],?_,hS.one _ (Uo hjv),hvd _ d _ hj (by simp[hjv])⟩
      rw[hget',if_pos (by rw[hj3];omega)]
      have:j-(off'+n'*j0.size)=j-blk.cells.length:=by rw[hj3];omega
      rw[this];simp[hjv]⟩
   have hat:∀{k' g':Nat} {o':Ob},AS.gat {s with hp:=gm [(k,some (g,.b ⟨blk.cells++news,e,true⟩)),(ky,none)] s.hp,us:=i::s.us} k'=some (g',o')→(k'=k∧g'=g∧o'= .b ⟨blk.cells++news,e,true⟩)∨(k'≠k∧k'≠ky∧AS.gat {s with hp:=(s.hp.set k none).set ky (some (nm,.b ⟨blk.cells++news,e,true⟩)),us:=i::s.us} k'=some (g',o')):=fun{k' g' o'} hh=>by
    rcases UX hh with⟨e1,hv⟩|⟨e1,hh⟩
    ·cases hv;exact .inl ⟨e1,rfl,rfl⟩
    ·rcases UX hh with⟨_,hv⟩|⟨e2,hh⟩
     ·cases hv
     ·exact .inr ⟨e1,e2,(by show((s.hp.set k none).set ky (some (nm,.b ⟨blk.cells++news,e,true⟩))).get k'=_;rw[Wu _ _ _ hoky,if_neg e2,Wu _ _ _ hok,if_neg e1];exact hh)⟩
   obtain⟨r1,r2⟩:=q1.swap (k:=k) (ky:=ky) (g:=g) (nm:=nm) (nb:=⟨blk.cells++news,e,true⟩) (s3:={s with hp:=gm [(k,some (g,.b ⟨blk.cells++news,e,true⟩)),(ky,none)] s.hp,us:=i::s.us})
    (by show((s.hp.set k none).set ky (some (nm,.b ⟨blk.cells++news,e,true⟩))).get ky=_;rw[Wu _ _ _ hoky,if_pos rfl]) (q2.nm g hg') ((q2.φ g hg').trans (hb.trans q4.symm)) rfl rfl rfl hat
   refine .inl ⟨_,_,q2,r1,⟨q5.own,q5.heap,fun x hx hw=>q5.old x hx (r2 x hw)⟩,_,run0 hr,.ref k g 0 (n'+n) ei.size c' b off' blk.elem cur.size (q2.nm g hg') ((q2.φ g hg').trans hb) ⟨hroom,hc3.2⟩ ?_ ?_ (by omega)⟩
   ·rcases hoff with h1|⟨h1,h2⟩
    ·exact .inl h1
    ·exact .inr ⟨by omega,h2⟩
   ·rw[aN hcur',hsz']
  ·-- there is none
   have hv:Vw E w b 0 blk.cells:=fun j d hj=>by
    obtain⟨v,hv1,hv2,hv3⟩:=hcell j d hj
    exact⟨v,by rw[T0,cell_of_row w b j cur blk.elem fr hcur];exact hv1,hv2,hv3⟩
   obtain⟨us,hl,hrg,h1,hd⟩:=hv.seg (off:=0) (m:=blk.cells.length) (by omega)
   have hfc:(WD j0.size n' (.slice (some ⟨b,off',none⟩) n' c')).run P w.drew= .ok us.toArray w.drew:=by
    refine run_firstCells_some w.drew _ _ _ _ _ us (by rw[hl,hj3,hlen]) (fun j v hj=>?_)
    rw[U8]
    rcases hoff with rfl|⟨h0,h0'⟩
    ·exact hrg j v hj
    ·omega
   have hlt2:c'<n'+n:=by omega
   have hr:=run_append_grow_src (P:=P) w t tx o.type e j0 ei.zero (by rw[hu0]) hj1 hj2 (some ⟨b,off',none⟩) n' c' us hfc uy n vs hS' hlt2 (by unfold fY at hmax;omega) (hgrow c' hlt2)
   obtain⟨q1,q2,q3,q4,q5⟩:=h.drew.new (ky:=ky) hi hg e (blk.cells++news) (us++vs++(VS ei.zero.cells (grownCap w (n'+n) c' e-(n'+n))).toList) true (0,0) (gS.zero _) (by simp[hl,hvl]) (fun hh=>by cases hh)
    (fun j d hj=>by
     obtain⟨u,a1,a2,a3⟩:=xz (E:=E) (w:=w) hl hvl (fun j d v hj hv'=>hd j d v (by rw[U4,Uy];exact hj) hv') hvd h1 hS.one _ j d hj
     exact⟨u,a1,a2,a3.step (Stp.drew _ w)⟩)
   refine .inr ⟨_,_,(Stp.drew _ w).trans q2,q1,⟨fun b hb=>q5.own b hb,fun b hb _=>Vk w.drew _ b hb,fun x hx hw=>q5.old x hx hw⟩,.slice (some ⟨w.heap.size,0,none⟩) (n'+n) (grownCap w (n'+n) c' e),?_,?_⟩
   ·rw[run0 hr]
    congr 2
    simp
   ·have hc2:=hcap c' e
    have hc3:=hcapm c'
    refine .ref ky nm 0 (n'+n) ei.size _ w.heap.size 0 e _ q3 q4 ⟨hc2,by unfold maxLen at hc3;unfold fY;omega⟩ (.inl rfl) (aN (b9 w.drew _)) ?_
    simp[VS,hl,hlen,hS.newsLen,hzl]
    rw[←hlen,←UN,←UN]
    exact Ur _ (by omega)
end
end Go.Vx
namespace Go.Vx
open Go.RowKit Go.Bw

def mT:Nat→List D→Tr D
 |_,[]=>.e
 |i,d::r=>(mT (i+1) r).set i (some d)
theorem qb:∀(ds:List D) (i t:Nat) (d:D),(mT i ds).get t=some d→i≤t∧ds[t-i]? =some d
 |[],i,t,d,h=>by cases h
 |x::r,i,t,d,h=>by
  rcases UX h with⟨rfl,hv⟩|⟨e,h⟩
  ·cases hv;exact⟨TD _,by simp⟩
  ·obtain⟨h1,h2⟩:=qb r (i+1) t d h
   exact⟨by omega,by rw[show t-i=(t-(i+1))+1 by omega,Vg];exact h2⟩

def Cx.sub (cx:Cx)(E:Env)(s:AS)(w:World)(nt xn:Nat):Cx:=⟨w.heap.size,w,nt,cx.O,fun x=>w.heap.size≤x∨bG s E.φ x,fun _ h=>.inl h,xn⟩

section
variable {P:Program} {cx:Cx} {E E':Env} {s:AS} {a:Act} {w:World} {i:Nat} {o:Oper} {T:TT} {F:Fence} {n:Nat} {rd:Bool} {nt kb:Nat}

theorem SR.enter (h:SR cx E s a w){tm:Tr D}{nx nt xn:Nat}{a':Act}(hnx:∀g,E.nm g→g<nx)(hfr:∀t d,tm.get t=some d→∃u,a'.tmps[t]? =some u∧RD E w d u)(hsz:nt≤a'.tmps.size)(hdf:a'.defers=[]):
  SR (cx.sub E s w nt xn) E {tm:=tm,hp:=s.hp,nx:=nx,us:=[]} a' w:=
 {fr:=hfr,sz:=hsz,df:=hdf▸mI.nil _ _ _,hp:=h.hp,lp:=h.lp,inj:=h.inj,lt:=h.lt,low:=fun x hx=>.inr hx,base:=h.base,bel:=Fr.refl _ _,nm:=fun g hg=>.inl (hnx g hg),szB:=TD _}
theorem SR.below (h:SR cx E s a w){i:Nat}(hus:∀k∈s.us,k<i):∀g,E.nm g→g<s.nx+8*(i+1):=fun g hg=>by
 rcases h.nm g hg with h1|⟨j,hj,h1,h2⟩
 ·omega
 ·have:=hus j hj;omega
theorem SR.back (h:SR cx E s a w){s':AS}{a':Act}{w':World}{nt xn:Nat}(h':SR (cx.sub E s w nt xn) E' s' a' w')(hst:Stp E E' w w')(hown:∀b,E.own b→E'.own b)(hold:∀x,x<w.heap.size→bG s' E'.φ x→bG s E.φ x)(hu:s'.us=[]):
  SR cx E' {tm:=s.tm,hp:=s'.hp,nx:=s'.nx,us:=[]} a w'∧Mut s {tm:=s.tm,hp:=s'.hp,nx:=s'.nx,us:=[]} E E' w w':=by
 have hheap:∀b,b<w.heap.size→¬bG s E.φ b→w'.heap[b]? =w.heap[b]?:=fun b hb hn=>h'.bel.block b hb fun hm=>by
  rcases hm with hm|hm
  ·exact absurd hb (Nat.not_lt_of_le hm)
  ·exact hn hm
 have hmc:∀x,(cx.sub E s w nt xn).M x→cx.M x:=fun x hx=>by
  rcases hx with hx|hx
  ·exact cx.hM x (T6 h.szB hx)
  ·exact h.low x hx
 refine⟨{
      fr:=fun t d hd=>by obtain⟨u,hu,hr⟩:=h.fr t d hd;exact⟨u,hu,hr.step hst⟩
      sz:=h.sz
      df:=h.df.step hown fun b hb hd=>hheap b (h.lt b hb) (h.unmarked hd)
      hp:=h'.hp,lp:=h'.lp,inj:=h'.inj,lt:=h'.lt
      low:=fun x hx=>hmc x (h'.low x hx)
      base:=fun x hx=>hown x (h.base x hx)
      bel:=h.bel.trans (h'.bel.mono hmc)
      nm:=fun g hg=>.inl (by
       rcases h'.nm g hg with h1|⟨j,hj,_⟩
       ·exact h1
       ·rw[hu]at hj;cases hj)
      szB:=T6 h.szB hst.size},hown,hheap,hold⟩

structure inlP (P:Program)(T:TT)(s:AS)(i:Nat)(ds:List D)(f:FuncId)(K:D→AS→Prop):Prop where
 h:∃fn c rs,P.funcs[f]? =some fn∧fn.body=some c∧fn.results=⟨rs⟩∧(fn.name== "runtime.NumGoroutine")=false∧
  AWP P false fn.ntmps (s.nx+8*(i+1)) c {tm:=mT 0 ds,hp:=s.hp,nx:=s.nx+8*(i+1),us:=[]} fun e s'=>(e= .normal∨e= .ret)∧jj T s' rs fun l=>K (ud l) {tm:=s.tm,hp:=s'.hp,nx:=s'.nx,us:=[]}

theorem rR {ds:List D}{args:List Value}{ntm:Nat}(hl:args.length=ds.length)(ha:∀(j:Nat) d u,ds[j]? =some d→args[j]? =some u→RD E w d u):
  ∀t d,(mT 0 ds).get t=some d→∃u,(args.toArray++W7 ntm undef)[t]? =some u∧RD E w d u:=fun t d hd=>by
 obtain⟨_,h2⟩:=qb ds 0 t d hd
 have hlt:t<args.length:=by rw[hl];have:=(List.getElem?_eq_some_iff.1 h2).1;simpa using this
 refine⟨args[t],?_,ha t d _ (by simpa using h2) (Ts hlt)⟩
 rw[Array.getElem?_append_left (by simpa using hlt)]
 simp[hlt]

theorem zD (hT:T.ok P)(h:SR cx E s a w)(hus:∀k∈s.us,k<i){ds:List D}{f:FuncId}{K:D→AS→Prop}(hv:inlP P T s i ds f K){args:List Value}(hl:args.length=ds.length)(ha:∀(j:Nat) d u,ds[j]? =some d→args[j]? =some u→RD E w d u):
  az P f∧Calls P f args.toArray w fun e w'=>∃r s' E' v,e= .returned v∧K r s'∧s'.us=[]∧s'.tm=s.tm∧SR cx E' s' a w'∧Stp E E' w w'∧Mut s s' E E' w w'∧RD E' w' r v:=by
 obtain⟨fn,c,rs,h1,h2,h3,h4,h5⟩:=hv.h
 refine⟨⟨fn,h1,by rw[h2];rfl,h4⟩,?_⟩
 refine(rQ (Φ:=fun l s'=>K (ud l) {tm:=s.tm,hp:=s'.hp,nx:=s'.nx,us:=[]}) hT h1 h2 h3 h5 (cx:=cx.sub E s w fn.ntmps (s.nx+8*(i+1))) (E:=E) rfl (TD _) rfl (h.enter (h.below hus) (rR hl ha) (by simp;omega) rfl)).mono ?_
 rintro e w' ⟨l,s',E',a',v,rfl,hK,hu,hs',_,hst,hown,hold,hr⟩
 have hst:=hst.full (h.below hus)
 obtain⟨b1,b2⟩:=h.back hs' hst hown hold hu
 exact⟨_,_,E',v,rfl,hK,rfl,rfl,b1,hst,b2,hr⟩

def k7:LoopState→Bool
 | .ready=>true
 |_=>false
def wg:LoopState→Bool
 | .busy=>true
 |_=>false
def l9:AX→Option Code
 | .normal=>none
 | .ret=>some .ret
 | .exit id=>some (.exit id)
def g7:AX→Bool
 | .normal=>true
 |_=>false
def recP (s:AS)(k g:Nat)(ok:LRec→Bool)(to:LRec→LRec)(K:LRec→AS→Prop):Prop:=
 jZ (s.lat k) fun p=>we (Tx p.1 g&&ok p.2) (K p.2 {s with hp:=s.hp.set k (some (g,.l (to p.2)))})
def xG:List Tmp→List D→Tr D→Tr D
 |t::ts,d::ds,tm=>xG ts ds (tm.set t (some d))
 |_,_,tm=>tm
def M4 (P:Program)(s:AS)(i k g:Nat)(ds:List D)(K:D→AS→Prop):Prop:=
 jZ (s.lat k) fun p=>we (Tx p.1 g&&k7 p.2.st&&Tx ds.length p.2.params.size&&p.2.params.toList.all fun t=>VL t p.2.nt) (AWP P true p.2.nt (s.nx+8*(i+1)) p.2.assign {tm:=xG p.2.params.toList ds p.2.tm,hp:=s.hp,nx:=s.nx+8*(i+1),us:=[]} fun e s1=>e= .normal∧
  recP s1 k g (fun r=>k7 r.st) (fun r=>{r with st:=.busy}) fun _ s2=>AWP P true p.2.nt (s.nx+8*(i+1)) p.2.body s2 fun e s3=>
   recP s3 k g (fun _=>true) (fun r=>{r with st:=bif g7 e then .ready else .done,pend:=l9 e}) fun _ s4=>K (.v (.bool (g7 e))) {tm:=s.tm,hp:=s4.hp,nx:=s4.nx,us:=[]})

theorem ku (h:SR cx E s a w){k g:Nat}{ok:LRec→Bool}{to:LRec→LRec}{K:LRec→AS→Prop}(hv:recP s k g ok to K):∃r b L,ok r=true∧E.nm g∧E.φ g=some b∧w.heap[b]? =some (.loop L)∧L.state=r.st∧L.pending=r.pend∧
  ((∀r,(to r).params=r.params∧(to r).assign=r.assign∧(to r).body=r.body∧(to r).nt=r.nt∧(to r).tm=r.tm)→∀(L':Loop),L'.state=(to r).st→L'.pending=(to r).pend→L'.params=L.params→L'.assign=L.assign→L'.body=L.body→L'.tmps=L.tmps→
   ∃s' E',s'={s with hp:=s.hp.set k (some (g,.l (to r)))}∧K r s'∧SR cx E' s' a (w.putObj b (.loop L'))∧Stp E E' w (w.putObj b (.loop L'))∧Mut s s' E E' w (w.putObj b (.loop L'))):=by
 obtain⟨p,hp,hv⟩:=aM.1 hv
 obtain⟨hc,hK⟩:=bA.1 hv
 obtain⟨g',r⟩:=p
 rw[Tw]at hc
 obtain⟨hg,hok⟩:=hc
 obtain rfl:g'=g:=TB hg
 obtain⟨h1,b,L,h2,h3,h4,h5,h6,h7,h8,h9,h10,h11,h12⟩:=h.lp k g' r hp
 refine⟨r,b,L,hok,h1,h2,h5,h6,h7,fun hto L' e1 e2 e3 e4 e5 e6=>?_⟩
 obtain⟨t1,t2,t3,t4,t5⟩:=hto r
 have hsh:(w.putObj b (.loop L')).shape? b=w.shape? b:=by
  unfold Xc;rw[WL h4,h5]
 obtain⟨q1,q2,q3⟩:=h.storeG (i:=0) (o':= .l (to r)) (AS.lat_iff.1 hp) h2 s.us (fun x hx=>hx) (grownBy_putObj' w b (.loop L')) (by simp) hsh fun E' hst hnm hφ hown=>⟨hnm _ h1,b,L',by rw[hφ];exact h2,hown,by simpa using h4,WL h4,e1,e2,by rw[e3,h8,t1],by rw[e4,h9,t2],by rw[e5,h10,t3],by rw[e6,t4];exact h11,fun t d hd=>by
  rw[t5]at hd
  obtain⟨u,hu,hr⟩:=h12 t d hd
  exact⟨u,by rw[e6];exact hu,hr.step hst⟩⟩
 exact⟨_,_,rfl,hK,q1,q2,q3⟩

theorem ue:∀(ts:List Tmp) (ds:List D) (us:List Value) (tm:Tr D) (tmps:Array Value),us.length=ds.length→ds.length=ts.length→(∀t∈ts,t<tmps.size)→(∀(j:Nat) d u,ds[j]? =some d→us[j]? =some u→RD E w d u)→(∀t d,tm.get t=some d→∃u,tmps[t]? =some u∧RD E w d u)→
  ((ts.zip us).foldl (fun(tmps:Array Value) (p:Tmp×Value)=>tmps.setIfInBounds p.1 p.2) tmps).size=tmps.size∧∀t d,(xG ts ds tm).get t=some d→∃u,((ts.zip us).foldl (fun(tmps:Array Value) (p:Tmp×Value)=>tmps.setIfInBounds p.1 p.2) tmps)[t]? =some u∧RD E w d u
 |[],ds,us,tm,tmps,h1,h2,h3,h4,h5=>by
  have:ds=[]:=Ua h2
  subst this
  exact⟨rfl,h5⟩
 |t::ts,[],us,tm,tmps,h1,h2,h3,h4,h5=>by simp at h2
 |t::ts,d::ds,[],tm,tmps,h1,h2,h3,h4,h5=>by simp at h1
 |t::ts,d::ds,u::us,tm,tmps,h1,h2,h3,h4,h5=>by
  have ht:=h3 t TP
  obtain⟨q1,q2⟩:=ue ts ds us (tm.set t (some d)) (tmps.setIfInBounds t u) (by simpa using h1) (by simpa using h2) (fun x hx=>by simpa using h3 x (TU _ hx)) (fun j d' u' a1 a2=>h4 (j+1) d' u' (by simpa using a1) (by simpa using a2)) (fun t' d' hd=>by
   rcases UX hd with⟨rfl,hv⟩|⟨e,hd⟩
   ·cases hv
    exact⟨u,by simp[ht],h4 0 d u rfl rfl⟩
   ·obtain⟨u',hu',hr⟩:=h5 t' d' hd
    exact⟨u',by rw[U7 (WW e)];exact hu',hr⟩)
  exact⟨by rw[Yh,W5];simpa using q1,by rw[Yh,W5];exact q2⟩

theorem zE (ts:Array Tmp)(us:Array Value)(tmps:Array Value):(ts.zip us).foldl (fun tmps (t,a)=>tmps.setIfInBounds t a) tmps=(ts.toList.zip us.toList).foldl (fun(tmps:Array Value) (p:Tmp×Value)=>tmps.setIfInBounds p.1 p.2) tmps:=by
 rw[←Yg,Array.toList_zip]

theorem qc (hF:FOK F)(h:SR cx E s a w)(hus:∀k∈s.us,k<i){k g:Nat}{ds:List D}{K:D→AS→Prop}(hv:M4 P s i k g ds K){us:List Value}(hl:us.length=ds.length)(ha:∀(j:Nat) d u,ds[j]? =some d→us[j]? =some u→RD E w d u){b:Nat}(hb:E.φ g=some b):
  ∃f tmps assign body,(Instr.yield b us.toArray).run P w= .ok (.round b f tmps assign body) w∧RoundIn F n P b f tmps assign body w fun e w'=>∃r s' E' v,e= .returned v∧K r s'∧s'.us=[]∧s'.tm=s.tm∧SR cx E' s' a w'∧Stp E E' w w'∧Mut s s' E E' w w'∧RD E' w' r v:=by
 obtain⟨p,hp,hv⟩:=aM.1 hv
 obtain⟨hc,hv⟩:=bA.1 hv
 obtain⟨g',r⟩:=p
 simp only[Tw]at hc
 obtain⟨⟨⟨hg,hrdy⟩,hlen⟩,hps⟩:=hc
 obtain rfl:g'=g:=TB hg
 have hlen:=TB hlen
 obtain⟨h1,b',L,h2,h3,h4,h5,h6,h7,h8,h9,h10,h11,h12⟩:=h.lp k g' r hp
 rw[hb]at h2;cases h2
 dsimp only at hv hlen hps
 have hsz:us.toArray.size=L.params.size:=by rw[h8];simpa[hl]using hlen
 refine⟨L.fn,_,L.assign,L.body,run_yield h5 hsz,roundIn_of_wpIn (hF.fn _) ?_⟩
 rw[zE]
 rw[h8,h9,h10]
 obtain⟨q1,q2⟩:=ue r.params.toList ds us r.tm L.tmps hl (by simpa using hlen) (fun t ht=>by
  have:=List.all_eq_true.1 hps t ht
  exact Ug (TC this) h11) ha h12
 have e0:=h.enter (nt:=r.nt) (xn:=s.nx+8*(i+1)) (nx:=s.nx+8*(i+1)) (a':={tmps:=(r.params.toList.zip us).foldl (fun(tmps:Array Value) (p:Tmp×Value)=>tmps.setIfInBounds p.1 p.2) L.tmps,defers:=[]}) (h.below hus) q2 (by rw[q1];exact h11) rfl
 refine hv.run (F.inRound b) n (cx.sub E s w r.nt (s.nx+8*(i+1))) E _ w _ (hF.inRound b) ⟨fun hh=>(by cases hh),TD _⟩ rfl rfl e0 ?_
 rintro e s1 E1 a1 w1 ⟨rfl,hK⟩ hu1 bY hst1 hmut1
 show∃w₂,_
 obtain⟨r1,b1,L1,hok1,hn1,hφ1,hb1,hL1,hL1',hgo⟩:=ku bY hK
 have hg':g'<s.nx+8*(i+1):=h.below hus g' h1
 have hφ1':E1.φ g'=some b:=(hst1.φ g' hg' h1).trans hb
 rw[hφ1']at hφ1;cases hφ1
 have hr1:L1.state= .ready:=by
  rw[hL1]
  revert hok1
  cases r1.st<;>simp[k7]
 obtain⟨s2,E2,hs2e,hK2,gd,hst2,hmut2⟩:=hgo (fun _=>⟨rfl,rfl,rfl,rfl,rfl⟩) {L1 with state:=.busy} rfl hL1' rfl rfl rfl rfl
 refine⟨_,run_beginRound hb1 hr1,?_⟩
 have hu2:s2.us=[]:=by rw[hs2e];exact hu1
 refine hK2.run (F.inRound b) n (cx.sub E s w r.nt (s.nx+8*(i+1))) E2 a1 _ _ (hF.inRound b) ⟨fun hh=>(by cases hh),TD _⟩ rfl hu2 gd ?_
 intro e s3 E3 a3 w3 hK3 hu3 qE hst3 hmut3
 obtain⟨r3,b3,L3,_,hn3,hφ3,hb3,hL3,hL3',hgo3⟩:=ku qE hK3
 have hst13:StpX (s.nx+8*(i+1)) E E3 w w3:=(hst1.trans (hst2.x _)).trans hst3
 have hφ3':E3.φ g'=some b:=(hst13.φ g' hg' h1).trans hb
 rw[hφ3']at hφ3;cases hφ3
 obtain⟨s4,E4,hs4e,hK4,GO,hst4,hmut4⟩:=hgo3 (fun _=>⟨rfl,rfl,rfl,rfl,rfl⟩) {L3 with state:=if(l9 e).isNone then .ready else .done,pending:=l9 e} (by cases e<;>rfl) rfl rfl rfl rfl rfl
 have hu4:s4.us=[]:=by rw[hs4e];exact hu3
 have hM:=(((hmut1.trans hmut2 hst1.size).trans hmut3 (hst1.trans (hst2.x _)).size)).trans hmut4 hst13.size
 have hstf:Stp E E4 w _:=(hst13.trans (hst4.x _)).full (h.below hus)
 obtain⟨c1,c2⟩:=h.back GO hstf hM.own (fun x hx ho=>hM.old x hx ho) hu4
 have fin:∃v w',(Instr.endRound b (l9 e)).run P w3= .ok v w'∧∃r s' E' v',Ending.returned v= .returned v'∧K r s'∧s'.us=[]∧s'.tm=s.tm∧SR cx E' s' a w'∧Stp E E' w w'∧Mut s s' E E' w w'∧RD E' w' r v':=
  ⟨_,_,run_endRound (l9 e) hb3,_,_,E4,_,rfl,hK4,rfl,rfl,c1,hstf,c2,by
   cases e<;>exact .v _ rfl⟩
 cases e<;>exact fin
end
end Go.Vx
namespace Go.Vx
open Go.RowKit Go.Bw

def xH (s:AS)(o:Oper):Option (Nat×Nat×List D):=
 match o.op with
 | .call c=>match c.callee with
  | .value x=>match ft s x,gH s c.args.toList with
   |some (.yl k g),some ds=>some (k,g,ds)
   |_,_=>none
  |_=>none
 |_=>none
structure callX (P:Program)(T:TT)(nt kb i:Nat)(o:Oper)(s:AS)(ds:List D)(f:FuncId)(K:AS→Prop):Prop where
 h:callP P s ds f (s.nx+8*i) (s.nx+8*i) (fun v up=>K {s with tm:=eK s.tm o.dst v,hp:=gm up s.hp,us:=i::s.us})∨inlP P T s i ds f fun d s'=>K {s' with tm:=eK s'.tm o.dst (some d)}
structure ap2P (T:TT)(i:Nat)(o:Oper)(s:AS)(K:AS→Prop):Prop where
 h:∃c v1 u1 v2 u2,o.op= .call c∧c.callee= .builtin .append∧EI T s (s.nx+8*i) (s.nx+8*i) c.argTypes c.args=some (true,(v1,u1),(v2,u2))∧K {s with tm:=eK s.tm o.dst (some v1),hp:=gm u1 s.hp,us:=i::s.us}∧K {s with tm:=eK s.tm o.dst (some v2),hp:=gm u2 s.hp,us:=i::s.us}
def P8 (P:Program)(T:TT)(nt kb i:Nat)(o:Oper)(s:AS)(K:AS→Prop):Prop:=
 match xH s o with
 |some p=>M4 P s i p.1 p.2.1 p.2.2 fun d s'=>K {s' with tm:=eK s'.tm o.dst (some d)}
 |none=>match eJ s o with
  |some p=>callX P T nt kb i o s p.2 p.1 K
  |none=>ap2P T i o s K∨(ev T s (s.nx+8*i) (s.nx+8*i) o).vc fun v up=>K {s with tm:=eK s.tm o.dst v,hp:=gm up s.hp,us:=i::s.us}

def AS.fin (s:AS)(n:Nat):AS:={s with nx:=s.nx+8*n,us:=[]}

section
variable {P:Program} {cx:Cx} {E E':Env} {s:AS} {a:Act} {w:World} {i:Nat} {o:Oper} {T:TT} {F:Fence} {n:Nat} {rd:Bool} {nt kb xn:Nat}

theorem SR.know (h:SR cx E s a w){t:Nat}{b c:Bool}(ht:s.tm.get t=some (.v (.bool b)))(hb:b=c):SR cx E {s with tm:=s.tm.set t (some (.v (.bool c)))} a w:=by
 subst hb
 refine{h with fr:=fun t' d hd=>?_}
 rcases UX hd with⟨rfl,hv⟩|⟨_,hd⟩
 ·cases hv;exact h.fr t' _ ht
 ·exact h.fr t' d hd

theorem kv (h:SR cx E s a w){all:List Oper}{j t:Nat}{b:Bool}(hj:(all[j]?).bind (·.dst)=some t)(ht:s.tm.get t=some (.v (.bool b))):yielded all.toArray a.tmps j=some b:=by
 obtain⟨u,hu,hr⟩:=h.fr t _ ht
 cases hr
 unfold yielded
 have e1:((all.toArray[j]?).bind (·.dst))=some t:=by simpa using hj
 rw[e1]
 simp only[YD,hu]

theorem Mut.tm {s s':AS}{E E':Env}{w w':World}(h:Mut s s' E E' w w')(tm tm':Tr D)(us us':List Nat)(nx nx':Nat):Mut {tm:=tm,hp:=s.hp,nx:=nx,us:=us} {tm:=tm',hp:=s'.hp,nx:=nx',us:=us'} E E' w w':=⟨h.own,h.heap,h.old⟩

theorem qd (hF:FOK F)(hT:T.ok P)(h:SR cx E s a w)(hus:∀k∈s.us,k<i)(hdst:ji cx.nt o=true){K:AS→Prop}(hv:P8 P T cx.nt kb i o s K){next:Act→World→Prop}{Q:Exit→Act→World→Prop}
  (hn:∀s' E' a' w',K s'→SR cx E' s' a' w'→Stp E E' w w'→Mut s s' E E' w w'→(∀k∈s'.us,k<i+1)→next a' w'):o.wpIn F n P a w next Q:=by
 have hi:i∉s.us:=fun hh=>V1 _ (hus i hh)
 have hus':∀k∈i::s.us,k<i+1:=fun k hk=>by
  rcases List.mem_cons.1 hk with rfl|hk
  ·omega
  ·have:=hus k hk;omega
 unfold P8 at hv
 split at hv
 case h_1 p hp=>
  obtain⟨k,g,ds⟩:=p
  unfold xH at hp
  split at hp
  case h_2=>cases hp
  case h_1 c ho=>
  split at hp
  case h_2=>cases hp
  case h_1 x hc=>
  split at hp
  case h_2=>cases hp
  case h_1 k g ds hx hds=>
  cases hp
  have hrx:=h.eval hx
  obtain⟨hl1,hl2⟩:=fg h _ _ hds
  generalize hux:a.eval x=ux at hrx
  cases hrx with
  |yl _ _ b hg hb=>
  obtain⟨f,tmps,assign,body,hy,hrnd⟩:=qc (n:=n) hF h hus hv (us:=c.args.toList.map a.eval) (by rw[hl1]) hl2 hb
  refine⟨fun f _=>hF.fn f,?_⟩
  have hrun:(o.semAt F.round a.eval).run P w= .ok (.round b f tmps assign body) w:=by
   rw[Wz _ _ _ (fun c' hc'=>by rw[ho]at hc';cases hc')]
   unfold execOp
   have e1:#[]++c.args.map a.eval=(c.args.toList.map a.eval).toArray:=by apply Vl;simp
   simp only[ho,resolve,hc,TS,Ww,hux,TV,TE,invoke,e1,hy]
  rw[hrun]
  have hnd:∀{n},(F.depth.isSome=true→1≤n):=fun{n} hd=>by rw[hF.dep]at hd;cases hd
  refine⟨hnd,(qc (n:=n-1) hF h hus hv (us:=c.args.toList.map a.eval) (by rw[hl1]) hl2 hb|>fun⟨f',tmps',assign',body',hy',hrnd'⟩=>?_)⟩
  have he:=hy.symm.trans hy'
  injection he with he _
  injection he with e1 e2 e3 e4 e5
  subst e2 e3 e4 e5
  refine hrnd'.mono ?_
  rintro e w' ⟨r,s',E',v,rfl,hK,hu,htm,hs',hst,hmut,hr⟩
  refine hn _ E' _ w' hK (cV hs' hdst (v:=some r) hr) hst ⟨hmut.own,hmut.heap,hmut.old⟩ (fun k hk=>?_)
  have hk:k∈s'.us:=hk
  rw[hu]at hk;cases hk
 case h_2 hnone=>
 split at hv
 case h_1 p hp=>
  rcases hv.h with hv|hv
  ·have hv':dY P T s (s.nx+8*i) (s.nx+8*i) o fun v up=>K {s with tm:=eK s.tm o.dst v,hp:=gm up s.hp,us:=i::s.us}:=by unfold dY;rw[hp];exact hv
   exact rO hF hT h hi hv' fun v up E' w' u hK s1 s2 s3 hr=>hn _ E' _ w' hK (cV (s:={s with hp:=gm up s.hp,us:=i::s.us}) s2 hdst hr) s1 ⟨s3.own,s3.heap,s3.old⟩ hus'
  ·obtain⟨f,dsall⟩:=p
   unfold eJ at hp
   split at hp
   case h_2=>cases hp
   case h_1 c ho=>
   split at hp
   case h_2=>cases hp
   case h_1 x hc=>
   split at hp
   case h_2=>cases hp
   case h_1 f fi ca ds hx hds=>
   cases hp
   have hrx:=h.eval hx
   obtain⟨hl1,hl2⟩:=fg h _ _ hds
   generalize hux:a.eval x=ux at hrx
   cases hrx with
   |fn _ _ _ us vs hu1 hu2 hu3 hu4=>
   have hargs:(us++c.args.toList.map a.eval++vs).length=(fi++ds++ca).length∧∀(j:Nat) d u,(fi++ds++ca)[j]? =some d→(us++c.args.toList.map a.eval++vs)[j]? =some u→RD E w d u:=by
    have app:∀{l1 l2:List D} {m1 m2:List Value},m1.length=l1.length→m2.length=l2.length→(∀(j:Nat) d u,l1[j]? =some d→m1[j]? =some u→RD E w d u)→(∀(j:Nat) d u,l2[j]? =some d→m2[j]? =some u→RD E w d u)→
      (m1++m2).length=(l1++l2).length∧∀(j:Nat) d u,(l1++l2)[j]? =some d→(m1++m2)[j]? =some u→RD E w d u:=by
     intro l1 l2 m1 m2 e1 e2 r1 r2
     refine⟨by simp[e1,e2],fun j d u hd hu=>?_⟩
     by_cases hj:j<l1.length
     ·rw[TQ hj]at hd
      rw[TQ (by omega)]at hu
      exact r1 j d u hd hu
     ·rw[TO (by omega)]at hd
      rw[TO (by omega),e1]at hu
      exact r2 _ d u hd hu
    obtain⟨q1,q2⟩:=app hu1 hl1 hu3 hl2
    exact app q1 hu2 q2 hu4
   obtain⟨hfok,hcalls⟩:=zD hT h hus hv hargs.1 hargs.2
   refine⟨fun f _=>hF.fn f,?_⟩
   have hrun:(o.semAt F.round a.eval).run P w= .ok (.enter f (us++c.args.toList.map a.eval++vs).toArray) w:=by
    rw[Wz _ _ _ (fun c' hc'=>by rw[ho]at hc';cases hc')]
    unfold execOp
    have e1:(us.toArray++c.args.map a.eval)++vs.toArray=(us++c.args.toList.map a.eval++vs).toArray:=by apply Vl;simp
    simp only[ho,resolve,hc,TS,Ww,hux,TV,TE,invoke,e1,ir hfok]
   rw[hrun]
   refine⟨fun hd=>(by rw[hF.dep]at hd;cases hd),(hF.call hcalls).mono ?_⟩
   rintro e w' ⟨r,s',E',v,rfl,hK,hu,htm,hs',hst,hmut,hr⟩
   refine hn _ E' _ w' hK (cV hs' hdst (v:=some r) hr) hst ⟨hmut.own,hmut.heap,hmut.old⟩ (fun k hk=>?_)
   have hk:k∈s'.us:=hk
   rw[hu]at hk;cases hk
 case h_2 hp=>
  rcases hv with hv|hv
  ·obtain⟨c,v1,u1,v2,u2,ho,hc,he,k1,k2⟩:=hv.h
   have fin:∀{v:D} {up:Up},ce P cx E s a w i o (some v) up→K {s with tm:=eK s.tm o.dst (some v),hp:=gm up s.hp,us:=i::s.us}→o.wpIn F n P a w next Q:=fun{v up} hp hK=>by
    obtain⟨E',w',s1,s2,s4,u,hu,hr⟩:=hp
    refine⟨fun f _=>hF.fn f,?_⟩
    rw[Wz _ _ _ (fun c' hc'=>by rw[ho]at hc';cases hc'),hu]
    exact hn _ E' _ w' hK (cV (s:={s with hp:=gm up s.hp,us:=i::s.us}) s2 hdst (v:=some v) hr) s1 ⟨s4.own,s4.heap,s4.old⟩ hus'
   rcases pE hT h hi ⟨TD _,by omega⟩ ho hc he with hp|hp
   ·exact fin hp k1
   ·exact fin hp k2
  have hv':dY P T s (s.nx+8*i) (s.nx+8*i) o fun v up=>K {s with tm:=eK s.tm o.dst v,hp:=gm up s.hp,us:=i::s.us}:=by unfold dY;rw[hp];exact hv
  exact rO hF hT h hi hv' fun v up E' w' u hK s1 s2 s3 hr=>hn _ E' _ w' hK (cV (s:={s with hp:=gm up s.hp,us:=i::s.us}) s2 hdst hr) s1 ⟨s3.own,s3.heap,s3.old⟩ hus'

theorem SR.fin (h:SR cx E s a w){n:Nat}(hus:∀k∈s.us,k<n):SR cx E (s.fin n) a w:=
 {h with nm:=fun g hg=>.inl (by
   show g<s.nx+8*n
   rcases h.nm g hg with h1|⟨j,hj,h1,h2⟩
   ·omega
   ·have:=hus j hj;omega)}

theorem SR.mark (h:SR cx E s a w):SR cx ⟨E.φ,fun b=>E.own b∨b=w.heap.size,E.nm⟩ s {a with defers:={target:=.collected w.heap.size,args:=#[]}::a.defers} (w.alloc (.deferred (some [])))∧
  Stp E ⟨E.φ,fun b=>E.own b∨b=w.heap.size,E.nm⟩ w (w.alloc (.deferred (some [])))∧Mut s s E ⟨E.φ,fun b=>E.own b∨b=w.heap.size,E.nm⟩ w (w.alloc (.deferred (some []))):=by
 have hb:∀b,b<w.heap.size→(w.alloc (.deferred (some []))).heap[b]? =w.heap[b]?:=fun b hb=>Vk w _ b hb
 have hst:Stp E ⟨E.φ,fun b=>E.own b∨b=w.heap.size,E.nm⟩ w (w.alloc (.deferred (some []))):=⟨fun _ h=>h,fun _ _=>rfl,by simp,fun b hlt ho=>⟨fun hh=>hh.elim ho (fun e=>by omega),hb b hlt⟩,fun b hlt=>cI (hb b hlt)⟩
 have hob:∀{k g o},s.gat k=some (g,o)→OB ⟨E.φ,fun b=>E.own b∨b=w.heap.size,E.nm⟩ (w.alloc (.deferred (some []))) g o:=fun{k g o} hk=>(h.ob hk).step hst fun x hx=>⟨.inl (h.own_of ⟨k,g,o,hk,hx⟩),hb x ((h.ob hk).lt hx)⟩
 refine⟨?_,hst,⟨fun b hb=>.inl hb,fun b hlt _=>hb b hlt,fun x _ h=>h⟩⟩
 obtain⟨bs,d1,d2,d3⟩:=h.df
 exact{
  fr:=fun t d hd=>by obtain⟨u,hu,hr⟩:=h.fr t d hd;exact⟨u,hu,hr.step hst⟩
  sz:=h.sz
  df:=by
   refine⟨w.heap.size::bs,by simp[d1],List.nodup_cons.2 ⟨fun hm=>?_,d2⟩,fun x hx=>?_⟩
   ·have:=h.lt _ (d3 _ hm).2.1;omega
   ·rcases List.mem_cons.1 hx with rfl|hx
    ·exact⟨h.szB,.inr rfl,World.alloc_heap_new w _⟩
    ·obtain⟨c1,c2,c3⟩:=d3 x hx
     exact⟨c1,.inl c2,(hb x (h.lt x c2)).trans c3⟩
  hp:=fun k g b hk=>hob (AS.at_iff.1 hk)
  lp:=fun k g r hk=>hob (AS.lat_iff.1 hk)
  inj:=h.inj
  lt:=fun x hx=>by
   rcases hx with hx|rfl
   ·have:=h.lt x hx;simp;omega
   ·simp
  low:=h.low
  base:=fun x hx=>.inl (h.base x hx)
  bel:=h.bel.trans ⟨rfl,rfl,rfl,by simp,fun k hk _=>hb k hk,hst.shape⟩
  nm:=h.nm
  szB:=T6 h.szB (by simp)}

def GL (K:AX→AS→Prop)(s:AS):Option Code→Prop
 |none=>K .normal s
 |some .ret=>K .ret s
 |some (.exit id)=>K (.exit id) s
 |_=>False
structure rngP (P:Program)(T:TT)(nt:Nat)(s:AS)(f:FuncId)(fi ca:List D)(ps:Array Tmp)(assign body:Code)(K:AX→AS→Prop):Prop where
 h:∃kl fn c rs,P.funcs[f]? =some fn∧fn.body=some c∧fn.results=⟨rs⟩∧(fn.name== "runtime.NumGoroutine")=false∧
  AWP P false fn.ntmps (s.nx+8) c {tm:=mT 0 (fi++[.yl kl s.nx]++ca),hp:=s.hp.set kl (some (s.nx,.l {st:=.ready,pend:=none,params:=ps,assign:=assign,body:=body,nt:=nt,tm:=s.tm})),nx:=s.nx+8,us:=[]} fun e s'=>(e= .normal∨e= .ret)∧jj T s' rs fun _=>
   recP s' kl s.nx (fun r=>!wg r.st) (fun r=>{r with st:=.exhausted}) fun r s2=>GL K {tm:=s.tm,hp:=s2.hp,nx:=s2.nx,us:=[]} r.pend

theorem AWP.range (hT:T.ok P){g:Operand}{ps:Array Tmp}{assign body:Code}{K:AX→AS→Prop}{f:FuncId}{fi ca:List D}(hg:ft s g=some (.fn (.func f) fi ca))(hv:rngP P T nt s f fi ca ps assign body K):AWP P false nt xn (.rangeFunc g ps assign body) s K:=by
 refine⟨fun F n cx E a w Q hF hro hn hu hs hQ=>?_⟩
 subst hn
 obtain⟨kl,fn,c,rs,f1,f2,f3,f4,f5⟩:=hv.h
 have hfok:az P f:=⟨fn,f1,by rw[f2];rfl,f4⟩
 refine wpIn_rangeFunc fun fnid hfn=>?_
 rw[hro.1 rfl]
 -- the mark,the record
 obtain⟨m1,m2,m3⟩:=hs.mark
 let L:Loop:={state:=.ready,pending:=none,fn:=fnid,tmps:=a.tmps,params:=ps,assign:=assign,body:=body,defers:=w.heap.size}
 obtain⟨r1,r2,r3,r4,r5⟩:=m1.newG (g:=s.nx) (ky:=kl) (i:=0) (by rw[hu];simp) ⟨by omega,by omega⟩ (.l {st:=.ready,pend:=none,params:=ps,assign:=assign,body:=body,nt:=cx.nt,tm:=s.tm}) (.loop L) fun E' hst hnm hφ hown=>
  ⟨hnm,_,L,hφ,hown,by simp,b9 _ _,rfl,rfl,rfl,rfl,rfl,hs.sz,fun t d hd=>by
   obtain⟨u,hu,hr⟩:=m1.fr t d hd
   exact⟨u,hu,hr.step hst⟩⟩
 have hev:=hs.eval hg
 generalize hux:a.eval g=ux at hev
 cases hev with
 |fn _ _ _ us vs hl1 hl2 hd1 hd2=>
 have hst1:=m2.trans r2
 have hmut1:=m3.trans r5 m2.size
 have hsz1:(w.alloc (.deferred (some []))).heap.size=w.heap.size+1:=by simp
 refine⟨w.heap.size+1,[{target:=.collected w.heap.size,args:=#[]}],(w.alloc (.deferred (some []))).alloc (.loop L),{target:=.fn (.func f) vs.toArray,args:=us.toArray++ #[Yi (.yield (w.heap.size+1)) #[] #[]]},(w.alloc (.deferred (some []))).alloc (.loop L),f,
  (us++[Yi (.yield (w.heap.size+1)) #[] #[]]++vs).toArray,(w.alloc (.deferred (some []))).alloc (.loop L),run_enterLoop_outer _ _ _ _ _,?_,?_,?_,?_,?_⟩
 ·simp only[resolve,TS,Ww,hux,TV,TE]
  simp[Act.eval]
 ·intro f' _;exact hF.fn f'
 ·have e1:(us.toArray++ #[Yi (.yield (w.heap.size+1)) #[] #[]])++vs.toArray=(us++[Yi (.yield (w.heap.size+1)) #[] #[]]++vs).toArray:=by apply Vl;simp
  simp only[invoke,e1,ir hfok]
 ·intro hd;rw[hF.dep]at hd;cases hd
 have hnx8:∀g,_→g<s.nx+8:=fun g hg=>by
  rcases r1.nm g hg with h1|⟨j,hj,h1,h2⟩
  ·have h1:g<s.nx:=h1
   omega
  ·have hj:j∈0::s.us:=hj
   rw[hu]at hj
   simp at hj;subst hj
   have h2:g<s.nx+8*0+8:=h2
   omega
 refine(hF.call (rQ (Φ:=fun _ s'=>recP s' kl s.nx (fun r=>!wg r.st) (fun r=>{r with st:=.exhausted}) fun r s2=>GL K {tm:=s.tm,hp:=s2.hp,nx:=s2.nx,us:=[]} r.pend) hT f1 f2 f3 f5 (cx:=cx.sub _ _ _ fn.ntmps (s.nx+8)) rfl (TD _) rfl (r1.enter (nt:=fn.ntmps) (xn:=s.nx+8) (nx:=s.nx+8) hnx8 (rR ?_ ?_) (by simp;omega) rfl))).mono ?_
 ·simp[hl1,hl2]
 ·intro j d u hd hu
  rcases T5 j fi.length with h1|h1
  ·rw[TG,TQ h1]at hd
   rw[TG,TQ (by omega)]at hu
   exact(hd1 j d u hd hu).step hst1
  ·rw[TG,TO h1]at hd
   rw[TG,TO (by omega),hl1]at hu
   rcases VI (j-fi.length)with h2|h2
   ·rw[h2]at hd hu
    simp at hd hu
    subst hd hu
    refine .yl kl s.nx _ r3 ?_
    rw[r4,hsz1]
   ·rw[show j-fi.length=(j-fi.length-1)+1 by omega]at hd hu
    simp only[V5,VV,Vg]at hd hu
    exact(hd2 _ d u hd hu).step hst1
 ·rintro e w' ⟨l,s',E',a',v,rfl,hK,hu',hs',hdf,hst,hown,hold,hr⟩
  have hst:=hst.full hnx8
  obtain⟨r,b,L3,hok,hn3,hφ3,hb3,hL3,hL3',hgo⟩:=ku hs' hK
  have hφ:E'.φ s.nx=some (w.heap.size+1):=by
   rw[hst.φ _ r3,r4,hsz1]
  rw[hφ]at hφ3;cases hφ3
  obtain⟨s4,E4,hs4e,hK4,GO,hst4,hmut4⟩:=hgo (fun _=>⟨rfl,rfl,rfl,rfl,rfl⟩) {L3 with state:=.exhausted} rfl hL3' rfl rfl rfl rfl
  have hnb:L3.state≠ .busy:=fun hh=>by
   rw[hL3]at hh
   rw[hh]at hok;cases hok
  refine⟨r.pend,w'.putObj (w.heap.size+1) (.loop {L3 with state:=.exhausted}),?_,?_⟩
  ·rw[←hL3'];exact run_endLoop hb3 hnb
  have hu4:s4.us=[]:=by rw[hs4e];exact hu'
  obtain⟨c1,c2⟩:=r1.back GO (hst.trans hst4) (fun x hx=>hmut4.own x (hown x hx)) (fun x hx ho=>hold x hx (hmut4.old x (Ug hx hst.size) ho)) hu4
  have hfin:=(hst1.trans hst).trans hst4
  have hfm:=hmut1.trans c2 hst1.size
  cases hp:r.pend with
  |none=>rw[hp]at hK4;exact hQ .normal _ _ _ _ hK4 rfl c1 (hfin.x _) hfm
  |some c=>
   rw[hp]at hK4
   cases c with
   |ret=>exact wpIn_ret (hQ .ret _ _ _ _ hK4 rfl c1 (hfin.x _) hfm)
   |exit id=>exact wpIn_exit (hQ (.exit id) _ _ _ _ hK4 rfl c1 (hfin.x _) hfm)
   |_=>exact hK4.elim
end
end Go.Vx
namespace Go.Vx
open Go.RowKit Go.Bw
section
variable {P:Program} {cx:Cx} {E:Env} {s:AS} {a:Act} {w:World} {i:Nat} {o:Oper} {T:TT} {F:Fence} {n:Nat}

structure Sub (s S:AS):Prop where
 tm:∀t d,s.tm.get t=some d→S.tm.get t=some d
 hp:∀k g o,s.gat k=some (g,o)→S.gat k=some (g,o)
 nx:s.nx=S.nx

theorem SR.part {S:AS}(h:SR cx E S a w)(hs:Sub s S):SR cx E {s with us:=S.us} a w:=
 {
  fr:=fun t d hd=>h.fr t d (hs.tm t d hd),sz:=h.sz,df:=h.df,hp:=fun k g b hk=>h.hp k g b (AS.at_iff.2 (hs.hp k g _ (AS.at_iff.1 hk))),lp:=fun k g b hk=>h.lp k g b (AS.lat_iff.2 (hs.hp k g _ (AS.lat_iff.1 hk)))
  inj:=fun k k' g g' b b' hkk h1 h2=>h.inj k k' g g' b b' hkk (hs.hp _ _ _ h1) (hs.hp _ _ _ h2)
  lt:=h.lt,low:=fun x ⟨k,g,b,hk,hx⟩=>h.low x ⟨k,g,b,hs.hp k g b hk,hx⟩,base:=h.base,bel:=h.bel,szB:=h.szB,nm:=fun g hg=>by
   have:=h.nm g hg
   rw[←hs.nx]at this;exact this}

def lk:Up→Nat→Option (Option (Nat×Ob))
 |[],_=>none
 |p::r,k=>if p.1=k then some p.2 else lk r k
def ov (up:Up):Bool:=up.all fun p=>XX p.1
theorem iu:∀{up:Up} (hp:Tr (Nat×Ob)) (k:Nat),ov up=true→(gm up hp).get k=(lk up k).getD (hp.get k)
 |[],hp,k,_=>rfl
 |p::r,hp,k,h=>by
  simp only[ov,WY,Tw]at h
  show((gm r hp).set p.1 p.2).get k=_
  rw[Wu _ _ _ h.1]
  simp only[lk]
  by_cases e:p.1=k
  ·rw[if_pos e.symm,if_pos e];rfl
  ·rw[if_neg (fun h=>e h.symm),if_neg e];exact iu hp k h.2

theorem SR.extend {S:AS}(h:SR cx E S a w)(hs:Sub s S){E':Env}{w':World}{up:Up}(hok:ov up=true){i:Nat}(st:Stp E E' w w')(h':SR cx E' {s with hp:=gm up s.hp,us:=i::S.us} a w')
  (mu:Mut {s with us:=S.us} {s with hp:=gm up s.hp,us:=i::S.us} E E' w w'):SR cx E' {S with hp:=gm up S.hp,us:=i::S.us} a w':=by
 have cases2:∀{k g b},AS.gat {S with hp:=gm up S.hp,us:=i::S.us} k=some (g,b)→AS.gat {s with hp:=gm up s.hp,us:=i::S.us} k=some (g,b)∨(S.gat k=some (g,b)∧s.gat k=none):=fun{k g b} hk=>by
  have hk:(gm up S.hp).get k=some (g,b):=hk
  show(gm up s.hp).get k=some (g,b)∨_
  rw[iu _ _ hok]at hk ⊢
  cases hu:lk up k with
  |some v=>rw[hu]at hk;exact .inl hk
  |none=>
   rw[hu]at hk
   simp only[Option.getD_none]at hk ⊢
   cases hsk:s.hp.get k with
   |none=>exact .inr ⟨hk,hsk⟩
   |some p=>
    obtain⟨g',b'⟩:=p
    have hSk:S.gat k=some (g',b'):=hs.hp k g' b' hsk
    have hSk':S.hp.get k=some (g',b'):=hSk
    rw[hSk']at hk;exact .inl hk
 have own_s:∀{x},bG {s with us:=S.us} E.φ x→∃k g b,s.gat k=some (g,b)∧E.φ g=some x:=fun h=>h
 have notown:∀{k g b x},S.gat k=some (g,b)→s.gat k=none→E.φ g=some x→¬bG {s with us:=S.us} E.φ x:=fun{k g b x} hk hsk hx ho=>by
  obtain⟨k',g',b',h1,h2⟩:=own_s ho
  refine h.inj k k' g g' b b' (fun e=>?_) hk (hs.hp _ _ _ h1) x hx h2
  subst e;rw[hsk]at h1;cases h1
 have ltS:∀{k g b x},S.gat k=some (g,b)→E.φ g=some x→x<w.heap.size:=fun hk hx=>(h.ob hk).lt hx
 have hob:∀{k g b},AS.gat {S with hp:=gm up S.hp,us:=i::S.us} k=some (g,b)→OB E' w' g b:=fun{k g b} hk=>by
  rcases cases2 hk with h1|⟨h1,h2⟩
  ·exact h'.ob h1
  ·exact(h.ob h1).step st fun x hx=>⟨mu.own x (h.own_of ⟨k,g,b,h1,hx⟩),mu.heap x (ltS h1 hx) (notown h1 h2 hx)⟩
 refine{h' with
  fr:=fun t d hd=>by obtain⟨u,hu,hr⟩:=h.fr t d hd;exact⟨u,hu,hr.step st⟩
  df:=h.df.step mu.own fun b hb hd=>mu.heap b (h.lt b hb) fun⟨k,g,o,hk,hx⟩=>h.unmarked hd ⟨k,g,o,hs.hp _ _ _ hk,hx⟩
  hp:=fun k g b hk=>hob (AS.at_iff.1 hk)
  lp:=fun k g b hk=>hob (AS.lat_iff.1 hk)
  inj:=fun k1 k2 g1 g2 b1 b2 hkk h1 h2 x hx1 hx2=>?_
  nm:=fun g hg=>?_
  low:=fun x ⟨k,g,b,hk,hx⟩=>?_}
 ·have mix:∀{k1 k2 g1 g2 b1 b2 x},AS.gat {s with hp:=gm up s.hp,us:=i::S.us} k1=some (g1,b1)→S.gat k2=some (g2,b2)→s.gat k2=none→E'.φ g1=some x→E'.φ g2=some x→False:=fun{k1 k2 g1 g2 b1 b2 x} h1 h2 h3 hx1 hx2=>by
   have e2:=st.φ g2 (h.ob h2).nm
   rw[e2]at hx2
   exact notown h2 h3 hx2 (mu.old x (ltS h2 hx2) ⟨k1,g1,b1,h1,hx1⟩)
  rcases cases2 h1 with a1|⟨a1,a2⟩<;>rcases cases2 h2 with c1|⟨c1,c2⟩
  ·exact h'.inj k1 k2 g1 g2 b1 b2 hkk a1 c1 x hx1 hx2
  ·exact mix a1 c1 c2 hx1 hx2
  ·exact mix c1 a1 a2 hx2 hx1
  ·have e1:=st.φ g1 (h.ob a1).nm
   have e2:=st.φ g2 (h.ob c1).nm
   rw[e1]at hx1
   rw[e2]at hx2
   exact h.inj k1 k2 g1 g2 b1 b2 hkk a1 c1 x hx1 hx2
 ·rcases cases2 hk with h1|⟨h1,h2⟩
  ·exact h'.low x ⟨k,g,b,h1,hx⟩
  ·have e2:=st.φ g (h.ob h1).nm
   rw[e2]at hx;exact h.low x ⟨k,g,b,h1,hx⟩
 ·have:=h'.nm g hg
  dsimp only at this ⊢
  rw[hs.nx]at this;exact this

theorem zF {S:AS}(hF:FOK F)(hT:T.ok P)(h:SR cx E S a w)(hs:Sub s S)(hi:i∉S.us){ky:Nat}(hdst:ji cx.nt o=true){K:Option D→Up→Prop}(hv:dY P T {s with us:=S.us} (s.nx+8*i) ky o K)(hok:∀v up,K v up→ov up=true){next:Act→World→Prop}{Q:Exit→Act→World→Prop}
  (hn:∀v up E' a' w',K v up→SR cx E' {S with tm:=eK S.tm o.dst v,hp:=gm up S.hp,us:=i::S.us} a' w'→Stp E E' w w'→Mut S {S with tm:=eK S.tm o.dst v,hp:=gm up S.hp,us:=i::S.us} E E' w w'→next a' w'):o.wpIn F n P a w next Q:=
 rO hF hT (h.part hs) hi hv fun v up E' w' u hK s1 s2 s3 hr=>hn v up E' _ w' hK (cV (s:={S with hp:=gm up S.hp,us:=i::S.us}) (h.extend hs (hok v up hK) s1 s2 s3) hdst hr) s1
  ⟨s3.own,fun b hb hno=>s3.heap b hb fun⟨k,g,ob,hk,hx⟩=>hno ⟨k,g,ob,hs.hp _ _ _ hk,hx⟩,fun x hx ⟨k,g,ob,hk,hx'⟩=>by
   have hk:(gm up S.hp).get k=some (g,ob):=hk
   rw[iu _ _ (hok v up hK)]at hk
   cases hu:lk up k with
   |some vv=>
    have hk2:AS.gat {s with hp:=gm up s.hp,us:=i::S.us} k=some (g,ob):=by
     show(gm up s.hp).get k=_
     rw[iu _ _ (hok v up hK)]
     rw[hu]at hk ⊢
     exact hk
    obtain⟨k',g',o',h1,h2⟩:=s3.old x hx ⟨k,g,ob,hk2,hx'⟩
    exact⟨k',g',o',hs.hp _ _ _ h1,h2⟩
   |none=>
    rw[hu]at hk
    have hk:S.gat k=some (g,ob):=hk
    refine⟨k,g,ob,hk,?_⟩
    rw[←s1.φ g (h.ob hk).nm];exact hx'⟩

def gJ:List Operand→List Nat
 |[]=>[]
 | .tmp t::r=>t::gJ r
 |_::r=>gJ r
def ug (tm:Tr D):List Nat→Tr D
 |[]=>.e
 |t::r=>match tm.get t with
  |some d=>(ug tm r).set t (some d)
  |none=>ug tm r
def xI (tm:Tr D):List Nat→List Nat
 |[]=>[]
 |t::r=>match tm.get t with
  |some d=>BG d++xI tm r
  |none=>xI tm r
def uh (hp:Tr (Nat×Ob)):List Nat→Tr (Nat×Ob)
 |[]=>.e
 |k::r=>match hp.get k with
  |some v=>(uh hp r).set k (some v)
  |none=>uh hp r
theorem jN (tm:Tr D):∀(ts:List Nat) (t:Nat) (d:D),(ug tm ts).get t=some d→t∈ts∧tm.get t=some d
 |[],t,d,h=>by cases h
 |x::r,t,d,h=>by
  simp only[ug]at h
  cases hx:tm.get x with
  |none=>rw[hx]at h;obtain⟨h1,h2⟩:=jN tm r t d h;exact⟨TU _ h1,h2⟩
  |some v=>
   rw[hx]at h
   rcases UX h with⟨rfl,hv⟩|⟨_,h⟩
   ·cases hv;exact⟨TP,hx⟩
   ·obtain⟨h1,h2⟩:=jN tm r t d h;exact⟨TU _ h1,h2⟩
theorem jO (hp:Tr (Nat×Ob)):∀(ks:List Nat) (k:Nat) v,(uh hp ks).get k=some v→k∈ks∧hp.get k=some v
 |[],t,d,h=>by cases h
 |x::r,t,d,h=>by
  simp only[uh]at h
  cases hx:hp.get x with
  |none=>rw[hx]at h;obtain⟨h1,h2⟩:=jO hp r t d h;exact⟨TU _ h1,h2⟩
  |some v=>
   rw[hx]at h
   rcases UX h with⟨rfl,hv⟩|⟨_,h⟩
   ·cases hv;exact⟨TP,hx⟩
   ·obtain⟨h1,h2⟩:=jO hp r t d h;exact⟨TU _ h1,h2⟩
def xJ (s:AS):Nat→List Nat→List Nat
 |0,ks=>ks
 |f+1,ks=>ks++xJ s f (ks.flatMap fun k=>match s.at k with
  |some p=>bif p.2.row then[]else pY p.2.cells
  |none=>[])
def JP (o:Oper):Bool:=match o.op with
 | .call c=>match c.callee with
  | .builtin _=>false
  |_=>true
 |_=>false
def JQ (o:Oper):Bool:=match o.op with
 | .move _=>true
 | .assign _=>true
 | .nilCheck _=>true
 | .fieldAddr _ _ _=>true
 |_=>false
def GM:Option D→Bool
 |some (.ref _ _ _ _ _)=>true
 |some (.sl _ _ _ _)=>true
 |_=>false
def M5 (s:AS)(o:Oper):Bool:=match o.op with
 | .slice _ (.tmp t) _ _ _=>GM (s.tm.get t)
 | .call c=>match c.callee,c.args.toList with
  | .builtin .len,[.tmp t]=>GM (s.tm.get t)
  |_,_=>false
 |_=>false
def zG (s:AS)(o:Oper):List Nat:=bif JQ o||M5 s o then[]else bif JP o then xJ s 5 (xI s.tm (gJ o.op.operands.toList))else xI s.tm (gJ o.op.operands.toList)

structure Rec where
 rt:List Nat
 rk:List Nat
 dst:Option Nat
 v:Option D
 up:Up
 ld:Option (Nat×Nat×Nat×Option D)
def EJ (T:TT)(s:AS)(o:Oper):Option (Nat×Nat×Nat×Option D):=
 match o.op with
 | .load ty (.tmp t)=>match T.get ty,s.tm.get t with
  |some ti,some (.ptr k _ off)=>match s.at k with
   |some p=>bif ti.desc.isRow|| !((zG s o).any fun x=>Tx x k)|| !((gJ o.op.operands.toList).any fun x=>Tx x t)then none else some (k,off,p.1,p.2.cells[off]?)
   |none=>none
  |_,_=>none
 |_=>none
def AS.eff (s:AS)(i:Nat)(r:Rec):AS:={s with tm:=eK s.tm r.dst r.v,hp:=gm r.up s.hp,us:=i::s.us}
def BL (s:AS)(ts ks:List Nat):AS:={tm:=ug s.tm ts,hp:=uh s.hp ks,nx:=s.nx,us:=[]}


def eM (o:Oper):List Nat:=(o.after.toList.filter (Region.binds .any)).map (·.on)
def BM (pr:List (List Nat)):Nat→List Oper→Bool
 |_,[]=>true
 |i,o::r=>(eM o).all (fun e=>VL e i)&&(pr.getD i []).all (fun j=>(eM o).any fun e=>Tx e j||(pr.getD e []).any fun x=>Tx x j)&&BM pr (i+1) r
theorem qe {pr:List (List Nat)}:∀(l:List Oper) (i:Nat),BM pr i l=true→∀(j:Nat) o,l[j]? =some o→(∀e∈eM o,e<i+j)∧∀x∈pr.getD (i+j) [],∃e∈eM o,e=x∨x∈pr.getD e []
 |[],i,_,j,o,h=>by simp at h
 |o'::r,i,h,j,o,hj=>by
  simp only[BM,Tw,WS,Xx,VF]at h
  obtain⟨⟨h1,h2⟩,h3⟩:=h
  cases j with
  |zero=>
   simp at hj;subst hj
   refine⟨fun e he=>TC (h1 e he),fun x hx=>?_⟩
   obtain⟨e,he,h4⟩:=h2 x hx
   refine⟨e,he,?_⟩
   rcases h4 with h4|⟨y,hy,h4⟩
   ·exact .inl (TB h4)
   ·have:=TB h4;subst this;exact .inr hy
  |succ j=>
   have:=qe r (i+1) h3 j o (by simpa using hj)
   rw[show i+1+j=i+(j+1) by omega]at this
   exact this

def dr (r:Rec):Bool:=(match r.dst with|some t=>XX t|none=>true)&&ov r.up
def qf:Up→List Nat
 |[]=>[]
 |p::r=>p.1::qf r
def uj (a b:List Nat):Bool:=a.all fun x=>b.all fun y=>!Tx x y
theorem dK {a b:List Nat}(h:uj a b=true){x:Nat}(h1:x∈a)(h2:x∈b):False:=by
 simp only[uj,WS]at h
 have:=h x h1 x h2
 simp at this
def fI (a b:Rec):Bool:=
 uj a.dst.toList b.rt&&uj b.dst.toList a.rt&&uj a.dst.toList b.dst.toList&&uj (qf a.up) b.rk&&uj (qf a.up) (qf b.up)
def dt (a b:Rec):Bool:=fI a b&&uj (qf b.up) a.rk
theorem jk {a b:Rec}(h:dt a b=true):fI a b=true:=by rw[dt,Tw]at h;exact h.1
def qg (a b:Rec):Prop:=∃k off g c b2,a.ld=some (k,off,g,c)∧lk b.up k=some (some (g,.b b2))∧b2.cells[off]? =c
def JR (a b:Rec):Bool:=match a.ld with
 |some p=>match lk b.up p.1 with
  |some (some (g,.b _))=>Tx g p.2.2.1
  |_=>false
 |none=>false
def wh (a b:Rec):Option D:=match a.ld with
 |some p=>match lk b.up p.1 with
  |some (some (_,.b b2))=>b2.cells[p.2.1]?
  |_=>none
 |none=>none
def wi (a:Rec):Option D:=match a.ld with
 |some p=>p.2.2.2
 |none=>none
theorem BN {a b:Rec}(h:JR a b=true)(e:wh a b=wi a):qg a b:=by
 unfold JR at h
 unfold wh wi at e
 split at h
 case h_2=>cases h
 case h_1 p hp=>
 rw[hp]at e
 dsimp only at e
 split at h
 case h_2=>cases h
 case h_1 g b2 hb=>
 rw[hb]at e
 have:=TB h
 subst this
 exact⟨p.1,p.2.1,p.2.2.1,p.2.2.2,b2,hp,hb,e⟩
def xK (pr:List (List Nat))(i:Nat)(a:Rec):Nat→List Rec→Bool
 |_,[]=>true
 |j,b::r=>((pr.getD j []).any (fun x=>Tx x i)||dt a b)&&xK pr i a (j+1) r
def wj (pr:List (List Nat)):Nat→List Rec→Bool
 |_,[]=>true
 |i,a::r=>xK pr i a (i+1) r&&wj pr (i+1) r
theorem ox {pr:List (List Nat)}{i:Nat}{a:Rec}:∀(l:List Rec) (j:Nat),xK pr i a j l=true→∀(k:Nat) b,l[k]? =some b→i∈pr.getD (j+k) []∨dt a b=true
 |[],j,_,k,b,h=>by simp at h
 |b'::r,j,h,k,b,hk=>by
  simp only[xK,Tw,VF,Xx]at h
  cases k with
  |zero=>
   simp at hk;subst hk
   rcases h.1 with⟨x,hx,h4⟩|h4
   ·have:=TB h4;subst this;exact .inl hx
   ·exact .inr h4
  |succ k=>
   have:=ox r (j+1) h.2 k b (by simpa using hk)
   rw[show j+1+k=j+(k+1) by omega]at this
   exact this
theorem qh {pr:List (List Nat)}:∀(l:List Rec) (i:Nat),wj pr i l=true→∀(j k:Nat) a b,j<k→l[j]? =some a→l[k]? =some b→(i+j)∈pr.getD (i+k) []∨dt a b=true
 |[],i,_,j,k,a,b,_,h,_=>by simp at h
 |a'::r,i,h,j,k,a,b,hjk,hj,hk=>by
  simp only[wj,Tw]at h
  cases k with
  |zero=>omega
  |succ k=>
   cases j with
   |zero=>
    simp at hj;subst hj
    have:=ox r (i+1) h.1 k b (by simpa using hk)
    rw[show i+1+k=i+(k+1) by omega]at this
    exact this
   |succ j=>
    have:=qh r (i+1) h.2 j k a b (by omega) (by simpa using hj) (by simpa using hk)
    rw[show i+1+k=i+(k+1) by omega,show i+1+j=i+(j+1) by omega]at this
    exact this

def CF (pr:List (List Nat))(l:List Rec):Prop:=∀(i j:Nat) a b,i<j→l[i]? =some a→l[j]? =some b→i∈pr.getD j []∨dt a b=true∨(fI a b=true∧qg a b)
theorem CF.of_ok {pr:List (List Nat)}{l:List Rec}(h:wj pr 0 l=true):CF pr l:=fun i j a b hij ha hb=>by
 have:=qh l 0 h i j a b hij ha hb
 rw[T0,T0]at this
 exact this.imp id .inl
def xM (pr:List (List Nat))(i:Nat)(a:Rec):Nat→List Rec→Bool
 |_,[]=>true
 |j,b::r=>((pr.getD j []).any (fun x=>Tx x i)||dt a b||(fI a b&&JR a b))&&xM pr i a (j+1) r
def wk (pr:List (List Nat)):Nat→List Rec→Bool
 |_,[]=>true
 |i,a::r=>xM pr i a (i+1) r&&wk pr (i+1) r
def zH (pr:List (List Nat))(i:Nat)(a:Rec):Nat→List Rec→List (Option D×Option D)
 |_,[]=>[]
 |j,b::r=>bif (pr.getD j []).any (fun x=>Tx x i)||dt a b then zH pr i a (j+1) r else(wh a b,wi a)::zH pr i a (j+1) r
def GN (pr:List (List Nat)):Nat→List Rec→List (Option D×Option D)
 |_,[]=>[]
 |i,a::r=>zH pr i a (i+1) r++GN pr (i+1) r
theorem oy {pr:List (List Nat)}{i:Nat}{a:Rec}:∀(l:List Rec) (j:Nat),xM pr i a j l=true→(∀p∈zH pr i a j l,p.1=p.2)→∀(k:Nat) b,l[k]? =some b→i∈pr.getD (j+k) []∨dt a b=true∨(fI a b=true∧qg a b)
 |[],j,_,_,k,b,h=>by simp at h
 |b'::r,j,h,hs,k,b,hk=>by
  rw[xM,Tw]at h
  rw[zH]at hs
  cases k with
  |zero=>
   simp at hk;subst hk
   cases hc:((pr.getD j []).any (fun x=>Tx x i)||dt a b')with
   |true=>
    rw[VF]at hc
    rcases hc with hc|hc
    ·obtain⟨x,hx,h4⟩:=List.any_eq_true.1 hc
     have:=TB h4;subst this;exact .inl hx
    ·exact .inr (.inl hc)
   |false=>
    rw[hc,Yd,Tw]at h
    rw[hc,cond_false]at hs
    exact .inr (.inr ⟨h.1.1,BN h.1.2 (hs _ TP)⟩)
  |succ k=>
   have hs':∀p∈zH pr i a (j+1) r,p.1=p.2:=fun p hp=>hs p (by cases((pr.getD j []).any (fun x=>Tx x i)||dt a b')<;>simp[hp])
   have:=oy r (j+1) h.2 hs' k b (by simpa using hk)
   rw[show j+1+k=j+(k+1) by omega]at this
   exact this
theorem qi {pr:List (List Nat)}:∀(l:List Rec) (i:Nat),wk pr i l=true→(∀p∈GN pr i l,p.1=p.2)→∀(j k:Nat) a b,j<k→l[j]? =some a→l[k]? =some b→(i+j)∈pr.getD (i+k) []∨dt a b=true∨(fI a b=true∧qg a b)
 |[],i,_,_,j,k,a,b,_,h,_=>by simp at h
 |a'::r,i,h,hs,j,k,a,b,hjk,hj,hk=>by
  rw[wk,Tw]at h
  rw[GN]at hs
  cases k with
  |zero=>omega
  |succ k=>
   cases j with
   |zero=>
    simp at hj;subst hj
    have:=oy r (i+1) h.1 (fun p hp=>hs p (U2 _ hp)) k b (by simpa using hk)
    rw[show i+1+k=i+(k+1) by omega]at this
    exact this
   |succ j=>
    have:=qi r (i+1) h.2 (fun p hp=>hs p (Wj _ hp)) j k a b (by omega) (by simpa using hj) (by simpa using hk)
    rw[show i+1+k=i+(k+1) by omega,show i+1+j=i+(j+1) by omega]at this
    exact this
theorem CF.of_rx {pr:List (List Nat)}{l:List Rec}(h:wk pr 0 l=true)(hs:∀p∈GN pr 0 l,p.1=p.2):CF pr l:=fun i j a b hij ha hb=>by
 have:=qi l 0 h hs i j a b hij ha hb
 rwa [T0,T0]at this

def aX:Rec:=⟨[],[],none,none,[],none⟩
def iv (recs:List Rec)(s:AS)(π:List Nat):AS:=π.foldl (fun S i=>S.eff i (recs.getD i aX)) s
theorem oz (recs:List Rec)(s:AS)(π:List Nat)(i:Nat):iv recs s (π++[i])=(iv recs s π).eff i (recs.getD i aX):=by simp[iv]

theorem fh {β:Type}(f:AS→β)(wr:Nat→Option β)(recs:List Rec)(hf:∀S i,f (S.eff i (recs.getD i aX))=(wr i).getD (f S)):∀(π:List Nat) (S:AS),f (iv recs S π)=((π.filterMap wr).getLast?).getD (f S)
 |[],S=>rfl
 |i::π,S=>by
  have ih:=fh f wr recs hf π (S.eff i (recs.getD i aX))
  show f (iv recs (S.eff i (recs.getD i aX)) π)=_
  rw[ih,hf]
  cases hw:wr i with
  |none=>simp[hw]
  |some v=>
   simp only[X7,hw]
   rw[List.getLast?_cons]
   cases(π.filterMap wr).getLast?<;>rfl

def Lp (recs:List Rec)(t i:Nat):Option (Option D):=if(recs.getD i aX).dst=some t then some (recs.getD i aX).v else none
def rS (recs:List Rec)(k i:Nat):Option (Option (Nat×Ob)):=lk (recs.getD i aX).up k
theorem wl {recs:List Rec}(h:recs.all dr=true)(i:Nat):dr (recs.getD i aX)=true:=by
 rcases T5 i recs.length with hi|hi
 ·have e:recs.getD i aX=recs[i]:=by simp[hi]
  rw[e];exact List.all_eq_true.1 h _ (Uo hi)
 ·have e:recs.getD i aX=aX:=by simp[hi]
  rw[e];rfl
theorem JS (recs:List Rec)(hok:recs.all dr=true)(t:Nat)(S:AS)(i:Nat):(S.eff i (recs.getD i aX)).tm.get t=(Lp recs t i).getD (S.tm.get t):=by
 have h:=wl hok i
 show(eK S.tm (recs.getD i aX).dst (recs.getD i aX).v).get t=_
 unfold Lp
 cases hd:(recs.getD i aX).dst with
 |none=>rfl
 |some x=>
  rw[dr,hd,Tw]at h
  simp only[eK,Option.some.injEq]
  rw[Wu _ _ _ h.1]
  by_cases e:x=t
  ·rw[if_pos e.symm,if_pos e];rfl
  ·rw[if_neg (fun h=>e h.symm),if_neg e];rfl
theorem rT (recs:List Rec)(hok:recs.all dr=true)(k:Nat)(S:AS)(i:Nat):(S.eff i (recs.getD i aX)).hp.get k=(rS recs k i).getD (S.hp.get k):=by
 have h:=wl hok i
 rw[dr,Tw]at h
 exact iu _ _ h.2

theorem oD:∀(l m:List Nat),l.Pairwise (· < ·)→m.Pairwise (· < ·)→(∀x,x∈l↔x∈m)→l=m
 |[],[],_,_,_=>rfl
 |[],y::m,_,_,h=>by have:=(h y).2 TP;cases this
 |x::l,[],_,_,h=>by have:=(h x).1 TP;cases this
 |x::l,y::m,h1,h2,h=>by
  rw[List.pairwise_cons]at h1 h2
  have e:x=y:=by
   rcases List.mem_cons.1 ((h x).1 TP)with e|hx
   ·exact e
   ·rcases List.mem_cons.1 ((h y).2 TP)with e|hy
    ·exact e.symm
    ·have:=h1.1 y hy;have:=h2.1 x hx;omega
  subst e
  rw[oD l m h1.2 h2.2 fun z=>?_]
  have:=h z
  constructor
  ·intro hz
   rcases List.mem_cons.1 (this.1 (TU _ hz))with e|hz'
   ·have:=h1.1 z hz;omega
   ·exact hz'
  ·intro hz
   rcases List.mem_cons.1 (this.2 (TU _ hz))with e|hz'
   ·have:=h2.1 z hz;omega
   ·exact hz'

theorem cH {β:Type}(wr:Nat→Option β)(l:List Nat):l.filterMap wr=(l.filter fun i=>(wr i).isSome).filterMap wr:=by
 induction l with
 |nil=>rfl
 |cons x l ih=>
  cases h:wr x with
  |none=>simp[h,ih]
  |some v=>simp[h,ih]

structure Ord (pr:List (List Nat))(recs:List Rec)(π:List Nat):Prop where
 lin:π.Pairwise fun x y=>y∉pr.getD x []∧x≠y
 cl:∀x∈π,∀y∈pr.getD x [],y∈π
 lt:∀x∈π,x<recs.length

section
variable {pr:List (List Nat)} {recs:List Rec} {π:List Nat}

theorem oE (hcf:CF pr recs)(ho:Ord pr recs π){m:Nat}(W:Nat→Bool)(hW:∀x y,x<recs.length→y<recs.length→x<y→W x=true→W y=true→fI (recs.getD x aX) (recs.getD y aX)=false)
  (hmem:∀x,W x=true→(x∈π↔x<m)):π.filter W=(Uv m).filter W:=by
 refine oD _ _ ?_ (XY _ (XG)) fun x=>?_
 ·have h1:=ho.lin.filter W
  refine h1.imp_of_mem fun{x y} hx hy ⟨h2,h3⟩=>?_
  rw[WC]at hx hy
  rcases VR x y with h|h|h
  ·exact h
  ·exact absurd h h3
  ·have hxl:=ho.lt x hx.1
   have hyl:=ho.lt y hy.1
   have:=hcf y x (recs.getD y aX) (recs.getD x aX) h (by simp[hyl]) (by simp[hxl])
   rcases this with h4|h4|h4
   ·exact absurd h4 h2
   ·have h4:=jk h4;rw[hW y x hyl hxl h hy.2 hx.2]at h4;cases h4
   ·have h4:=h4.1;rw[hW y x hyl hxl h hy.2 hx.2]at h4;cases h4
 ·rw[WC,WC,XQ]
  constructor
  ·rintro⟨h1,h2⟩;exact⟨(hmem x h2).1 h1,h2⟩
  ·rintro⟨h1,h2⟩;exact⟨(hmem x h2).2 h1,h2⟩

theorem JT {a b:Rec}{t:Nat}(ha:a.dst=some t)(hb:b.dst=some t):fI a b=false:=by
 cases h:fI a b with
 |false=>rfl
 |true=>
  simp only[fI,Tw]at h
  exact(dK h.1.1.2 (x:=t) (by simp[ha]) (by simp[hb])).elim
theorem dL {up:Up}{k:Nat}(h:(lk up k).isSome=true):k∈qf up:=by
 induction up with
 |nil=>simp[lk]at h
 |cons p r ih=>
  simp only[lk]at h
  by_cases e:p.1=k
  ·subst e;exact TP
  ·rw[if_neg e]at h;exact TU _ (ih h)
theorem BO {a b:Rec}{k:Nat}(ha:(lk a.up k).isSome=true)(hb:(lk b.up k).isSome=true):fI a b=false:=by
 cases h:fI a b with
 |false=>rfl
 |true=>
  simp only[fI,Tw]at h
  exact(dK h.2 (dL ha) (dL hb)).elim

theorem xN (hcf:CF pr recs)(ho:Ord pr recs π){m:Nat}(hm:m≤recs.length){β:Type}(f:AS→β)(wr:Nat→Option β)(hf:∀S i,f (S.eff i (recs.getD i aX))=(wr i).getD (f S))
  (hww:∀x y,x<recs.length→y<recs.length→(wr x).isSome=true→(wr y).isSome=true→fI (recs.getD x aX) (recs.getD y aX)=false)
  (hout:∀x,recs.length≤x→wr x=none)
  (hread:m=recs.length∧(∀x,x<m→x∈π)∨(m∉π∧(∀y∈pr.getD m [],y∈π)∧m<recs.length∧∀x,x<recs.length→(wr x).isSome=true→fI (recs.getD x aX) (recs.getD m aX)=false∧dt (recs.getD m aX) (recs.getD x aX)=false∧(fI (recs.getD m aX) (recs.getD x aX)=true→¬qg (recs.getD m aX) (recs.getD x aX)))) (s:AS):
  f (iv recs s π)=f (iv recs s (Uv m)):=by
 rw[fh f wr recs hf,fh f wr recs hf,cH wr π,cH wr (Uv m),
  oE hcf ho (m:=m) (fun i=>(wr i).isSome) (fun x y hx hy _ h1 h2=>hww x y hx hy h1 h2) fun x hx=>?_]
 have hxl:x<recs.length:=by
  rcases T5 x recs.length with h|h
  ·exact h
  ·rw[hout x h]at hx;cases hx
 rcases hread with⟨rfl,hall⟩|⟨hmn,hpr,hml,hr⟩
 ·exact⟨fun _=>hxl,fun _=>hall x hxl⟩
 ·obtain⟨r1,r2,r3⟩:=hr x hxl hx
  constructor
  ·intro hxp
   rcases VR x m with h|h|h
   ·exact h
   ·subst h;exact absurd hxp hmn
   ·have:=hcf m x (recs.getD m aX) (recs.getD x aX) h (by simp[hml]) (by simp[hxl])
    rcases this with h4|h4|h4
    ·exact absurd (ho.cl x hxp m h4) hmn
    ·rw[r2]at h4;cases h4
    ·exact absurd h4.2 (r3 h4.1)
  ·intro h
   have:=hcf x m (recs.getD x aX) (recs.getD m aX) h (by simp[hxl]) (by simp[hml])
   rcases this with h4|h4|h4
   ·exact hpr x h4
   ·have h4:=jk h4;rw[r1]at h4;cases h4
   ·have h4:=h4.1;rw[r1]at h4;cases h4

theorem qj (hok:recs.all dr=true)(hcf:CF pr recs)(ho:Ord pr recs π){m t:Nat}(hm:m≤recs.length)
  (hread:m=recs.length∧(∀x,x<m→x∈π)∨(m∉π∧(∀y∈pr.getD m [],y∈π)∧m<recs.length∧t∈(recs.getD m aX).rt)) (s:AS):(iv recs s π).tm.get t=(iv recs s (Uv m)).tm.get t:=by
 have dst:∀{x},(Lp recs t x).isSome=true→(recs.getD x aX).dst=some t:=fun{x} h=>by
  unfold Lp at h;split at h
  ·assumption
  ·cases h
 refine xN hcf ho hm (fun S=>S.tm.get t) (Lp recs t) (fun S i=>JS recs hok t S i) (fun x y _ _ h1 h2=>JT (dst h1) (dst h2)) (fun x hx=>by simp[Lp,aX,hx]) (hread.imp id fun⟨h1,h2,h3,h4⟩=>⟨h1,h2,h3,fun x _ hx=>⟨?_,?_,fun q=>absurd q ?_⟩⟩) s
 ·cases h:fI (recs.getD x aX) (recs.getD m aX)with
  |false=>rfl
  |true=>
   simp only[fI,Tw]at h
   exact(dK h.1.1.1.1 (x:=t) (by rw[dst hx];exact TP) h4).elim
 ·cases h:dt (recs.getD m aX) (recs.getD x aX)with
  |false=>rfl
  |true=>
   have h:=jk h
   simp only[fI,Tw]at h
   exact(dK h.1.1.1.2 (x:=t) (by rw[dst hx];exact TP) h4).elim
 ·intro h
  simp only[fI,Tw]at h
  exact(dK h.1.1.1.2 (x:=t) (by rw[dst hx];exact TP) h4).elim
theorem qk (hok:recs.all dr=true)(hcf:CF pr recs)(ho:Ord pr recs π){m k:Nat}(hm:m≤recs.length)
  (hread:m=recs.length∧(∀x,x<m→x∈π)∨(m∉π∧(∀y∈pr.getD m [],y∈π)∧m<recs.length∧k∈(recs.getD m aX).rk∧(recs.getD m aX).ld=none)) (s:AS):(iv recs s π).hp.get k=(iv recs s (Uv m)).hp.get k:=by
 refine xN hcf ho hm (fun S=>S.hp.get k) (rS recs k) (fun S i=>rT recs hok k S i) (fun x y _ _ h1 h2=>BO h1 h2) (fun x hx=>by simp[rS,aX,hx,lk]) (hread.imp id fun⟨h1,h2,h3,h4,h5⟩=>⟨h1,h2,h3,fun x _ hx=>⟨?_,?_,fun _ ⟨k',off,g,c,b2,h6,_⟩=>by rw[h5]at h6;cases h6⟩⟩) s
 ·cases h:fI (recs.getD x aX) (recs.getD m aX)with
  |false=>rfl
  |true=>
   simp only[fI,Tw]at h
   exact(dK h.1.2 (dL hx) h4).elim
 ·cases h:dt (recs.getD m aX) (recs.getD x aX)with
  |false=>rfl
  |true=>
   rw[dt,Tw]at h
   exact(dK h.2 (dL hx) h4).elim
theorem ql {α:Type}(Q:α→Prop)[DecidablePred Q]:∀l:List α,(∃x∈l,Q x)→∃l1 z l2,l=l1++z::l2∧Q z∧∀x∈l2,¬Q x
 |[],⟨x,h,_⟩=>by cases h
 |y::l,⟨x,h,hq⟩=>by
  by_cases hl:∃x∈l,Q x
  ·obtain⟨l1,z,l2,rfl,h1,h2⟩:=ql Q l hl
   exact⟨y::l1,z,l2,rfl,h1,h2⟩
  ·rcases List.mem_cons.1 h with rfl|h
   ·exact⟨[],x,l,rfl,hq,fun z hz q=>hl ⟨z,hz,q⟩⟩
   ·exact absurd ⟨x,h,hq⟩ hl
theorem EK (hok:recs.all dr=true)(hcf:CF pr recs)(ho:Ord pr recs π){m k off g:Nat}{c:Option D}(hml:m<recs.length)(hmn:m∉π)(hpr:∀y∈pr.getD m [],y∈π)(hld:(recs.getD m aX).ld=some (k,off,g,c))(hrk:k∈(recs.getD m aX).rk)(s:AS){b:Blk}
  (hb:(iv recs s (Uv m)).hp.get k=some (g,.b b)) (hc:b.cells[off]? =c):∃b2,(iv recs s π).hp.get k=some (g,.b b2)∧b2.cells[off]? =c:=by
 have hww:∀x y,(rS recs k x).isSome=true→(rS recs k y).isSome=true→fI (recs.getD x aX) (recs.getD y aX)=false:=fun x y h1 h2=>BO h1 h2
 have early:∀x,x<m→(rS recs k x).isSome=true→x∈π:=fun x hx hw=>by
  have hno:fI (recs.getD x aX) (recs.getD m aX)≠true:=fun h=>by
   simp only[fI,Tw]at h
   exact(dK h.1.2 (dL hw) hrk).elim
  rcases hcf x m (recs.getD x aX) (recs.getD m aX) hx (by simp[show x<recs.length by omega]) (by simp[hml])with h4|h4|h4
  ·exact hpr x h4
  ·exact absurd (jk h4) hno
  ·exact absurd h4.1 hno
 have out:∀x,(rS recs k x).isSome=true→x<recs.length:=fun x hw=>by
  rcases T5 x recs.length with h|h
  ·exact h
  ·simp[rS,aX,h,lk]at hw
 by_cases hE:∃y∈π,m<y∧(rS recs k y).isSome=true
 ·obtain⟨y,hy,hmy,hwy⟩:=hE
  obtain⟨l1,z,l2,hπ,hz,hl2⟩:=ql (fun x=>(rS recs k x).isSome=true) π ⟨y,hy,hwy⟩
  have hzl:=out z hz
  have hzπ:z∈π:=by rw[hπ];simp
  have hmz:m<z:=by
   rcases VR m z with h|h|h
   ·exact h
   ·exact absurd (h▸hzπ) hmn
   ·have hyz:z<y:=by omega
    have hord:z∈pr.getD y []:=by
     rcases hcf z y (recs.getD z aX) (recs.getD y aX) hyz (by simp[hzl]) (by simp[out y hwy])with h4|h4|h4
     ·exact h4
     ·have h4:=jk h4;rw[hww z y hz hwy]at h4;cases h4
     ·have h4:=h4.1;rw[hww z y hz hwy]at h4;cases h4
    have hy1:y∈l1:=by
     rw[hπ]at hy
     rcases List.mem_append.1 hy with h5|h5
     ·exact h5
     ·rcases List.mem_cons.1 h5 with h5|h5
      ·omega
      ·exact absurd hwy (hl2 y h5)
    have hlin:=ho.lin
    rw[hπ,W0]at hlin
    exact absurd hord (hlin.2.2 y hy1 z TP).1
  have hst:qg (recs.getD m aX) (recs.getD z aX):=by
   rcases hcf m z (recs.getD m aX) (recs.getD z aX) hmz (by simp[hml]) (by simp[hzl])with h4|h4|h4
   ·exact absurd (ho.cl z hzπ m h4) hmn
   ·rw[dt,Tw]at h4
    exact(dK h4.2 (dL hz) hrk).elim
   ·exact h4.2
  obtain⟨k',off',g',c',b2,e1,e2,e3⟩:=hst
  rw[hld]at e1
  simp only[Option.some.injEq,Prod.mk.injEq]at e1
  obtain⟨rfl,rfl,rfl,rfl⟩:=e1
  refine⟨b2,?_,e3⟩
  rw[fh (fun S=>S.hp.get k) (rS recs k) recs (fun S i=>rT recs hok k S i),hπ,List.filterMap_append,X7]
  have hn:l2.filterMap (rS recs k)=[]:=List.filterMap_eq_nil_iff.2 fun x hx=>by
   cases hq:rS recs k x with
   |none=>rfl
   |some v=>exact absurd (by rw[hq];rfl) (hl2 x hx)
  have hwz:rS recs k z=some (some (g,.b b2)):=e2
  rw[hwz]
  dsimp only
  rw[hn,List.getLast?_append]
  rfl
 ·refine⟨b,?_,hc⟩
  rw[←hb,fh (fun S=>S.hp.get k) (rS recs k) recs (fun S i=>rT recs hok k S i),fh (fun S=>S.hp.get k) (rS recs k) recs (fun S i=>rT recs hok k S i),cH (rS recs k) π,cH (rS recs k) (Uv m),
   oE hcf ho (m:=m) (fun i=>(rS recs k i).isSome) (fun x y _ _ _ h1 h2=>hww x y h1 h2) fun x hx=>⟨fun hxp=>?_,fun h=>early x h hx⟩]
  rcases VR x m with h|h|h
  ·exact h
  ·exact absurd (h▸hxp) hmn
  ·exact absurd ⟨x,hxp,h,hx⟩ hE
end

def qm (T:TT)(s:AS)(o:Oper)(v:Option D)(up:Up):Rec:=⟨gJ o.op.operands.toList,zG s o,o.dst,v,up,EJ T s o⟩
def dU (T:TT)(s:AS)(t:Nat)(o:Oper)(v:Option D)(up:Up):Rec:=⟨t::gJ o.op.operands.toList,zG s o,o.dst,v,up,EJ T s o⟩
def eQ (s:AS)(o:Oper):AS:=BL s (gJ o.op.operands.toList) (zG s o)
structure okcP (pr:List (List Nat))(log:List Rec):Prop where
 cf:CF pr log.reverse
 ok:log.all dr=true
theorem okcP.of {pr:List (List Nat)}{log:List Rec}(h:(wj pr 0 log.reverse&&log.all dr)=true):okcP pr log:=by
 rw[Tw]at h;exact⟨CF.of_ok h.1,h.2⟩
theorem okcP.rx {pr:List (List Nat)}{log:List Rec}(h:(wk pr 0 log.reverse&&log.all dr)=true)(hs:∀p∈GN pr 0 log.reverse,p.1=p.2):okcP pr log:=by
 rw[Tw]at h;exact⟨CF.of_rx h.1 hs,h.2⟩
def na (P:Program)(T:TT)(nt kb:Nat)(all:List Oper)(pr:List (List Nat)):Nat→List Oper→AS→List Rec→(AS→Prop)→Prop
 |_,[],s,log,K=>okcP pr log∧K s
 |i,o::r,s,log,K=>we (ji nt o) (match o.guard with
  |none=>dY P T (eQ s o) (s.nx+8*i) (s.nx+8*i) o fun v up=>na P T nt kb all pr (i+1) r (s.eff i (qm T s o v up)) (qm T s o v up::log) K
  |some jw=>match(all[jw.1]?).bind (·.dst)with
   |some t=>match s.tm.get t with
    |some (.v (.bool b))=>M2 b
     (bif jw.2 then dY P T (eQ s o) (s.nx+8*i) (s.nx+8*i) o fun v up=>na P T nt kb all pr (i+1) r (AS.eff {s with tm:=s.tm.set t (some (.v (.bool true)))} i (dU T s t o v up)) (dU T s t o v up::log) K
      else na P T nt kb all pr (i+1) r (AS.eff {s with tm:=s.tm.set t (some (.v (.bool true)))} i ⟨[t],[],o.dst,some (.tup []),[],none⟩) (⟨[t],[],o.dst,some (.tup []),[],none⟩::log) K)
     (bif jw.2 then na P T nt kb all pr (i+1) r (AS.eff {s with tm:=s.tm.set t (some (.v (.bool false)))} i ⟨[t],[],o.dst,some (.tup []),[],none⟩) (⟨[t],[],o.dst,some (.tup []),[],none⟩::log) K
      else dY P T (eQ s o) (s.nx+8*i) (s.nx+8*i) o fun v up=>na P T nt kb all pr (i+1) r (AS.eff {s with tm:=s.tm.set t (some (.v (.bool false)))} i (dU T s t o v up)) (dU T s t o v up::log) K)
    |some (.tup [])=>na P T nt kb all pr (i+1) r (s.eff i ⟨[t],[],o.dst,some (.tup []),[],none⟩) (⟨[t],[],o.dst,some (.tup []),[],none⟩::log) K
    |_=>False
   |none=>False)

theorem gz {nm ky:Nat}{K:Option D→Up→Prop}(h:dY P T s nm ky o K):∃v up,dY P T s nm ky o (fun v' up'=>v'=v∧up'=up)∧K v up:=by
 unfold dY at h ⊢
 split at h
 case h_1 p hp=>
  obtain⟨al,fp,q,hin,r,bs,h1,h2,h4,h5,h6⟩:=h.h
  exact⟨_,_,⟨al,fp,q,hin,r,bs,h1,h2,h4,h5,rfl,rfl⟩,h6⟩
 case h_2 hp=>
  have key:∀(e:Ev) (K:Option D→Up→Prop),e.vc K→∃v up,e.vc (fun v' up'=>v'=v∧up'=up)∧K v up:=by
   intro e
   induction e with
   |ok v up=>intro K h;exact⟨v,up,⟨rfl,rfl⟩,h⟩
   |cond b k ih=>intro K h;obtain⟨h0,h⟩:=bA.1 h;obtain⟨v,up,h1,h2⟩:=ih K h;exact⟨v,up,bA.2 ⟨h0,h1⟩,h2⟩
   |opt o k ih=>intro K h;obtain⟨d,hd,h⟩:=aM.1 h;obtain⟨v,up,h1,h2⟩:=ih d K h;exact⟨v,up,aM.2 ⟨d,hd,h1⟩,h2⟩
   |bytes cs k ih=>intro K h;obtain⟨bs,hb,h⟩:=h.h;obtain⟨v,up,h1,h2⟩:=ih bs K h;exact⟨v,up,⟨bs,hb,h1⟩,h2⟩
   |list cs k ih=>intro K h;exact ih cs K h
   |stuck=>intro K h;exact h.elim
  exact key _ K h

structure AEq (s s':AS):Prop where
 tm:∀t,s.tm.get t=s'.tm.get t
 hp:∀k,s.hp.get k=s'.hp.get k
 nx:s.nx=s'.nx
theorem AEq.refl (s:AS):AEq s s:=⟨fun _=>rfl,fun _=>rfl,rfl⟩
theorem AEq.eff {s s':AS}(h:AEq s s')(i j:Nat)(r:Rec)(hr:dr r=true):AEq (s.eff i r) (s'.eff j r):=by
 rw[dr,Tw]at hr
 refine⟨fun t=>?_,fun k=>?_,h.nx⟩
 ·show(eK s.tm r.dst r.v).get t=(eK s'.tm r.dst r.v).get t
  cases hd:r.dst with
  |none=>exact h.tm t
  |some x=>
   rw[hd]at hr
   simp only[eK]
   rw[Wu _ _ _ hr.1,Wu _ _ _ hr.1,h.tm]
 ·show(gm r.up s.hp).get k=(gm r.up s'.hp).get k
  rw[iu _ _ hr.2,iu _ _ hr.2,h.hp]
theorem AEq.know {s s':AS}(h:AEq s s'){t:Nat}{d:D}(ht:s.tm.get t=some d)(hok:XX t=true):AEq {s with tm:=s.tm.set t (some d)} s':=
 ⟨fun x=>by
  rw[Wu _ _ _ hok]
  by_cases e:x=t
  ·subst e;rw[if_pos rfl,←h.tm,ht]
  ·rw[if_neg e];exact h.tm x,h.hp,h.nx⟩

def SF (T:TT)(S:AS)(ts:List Nat)(o:Oper)(r:Rec):Prop:=∀k off g c,r.ld=some (k,off,g,c)→∃ty t ti gp b,o.op= .load ty (.tmp t)∧T.get ty=some ti∧ti.desc.isRow=false∧t∈ts∧S.tm.get t=some (.ptr k gp off)∧S.hp.get k=some (g,.b b)∧b.cells[off]? =c∧k∈r.rk
theorem BP {T:TT}{s S:AS}{o:Oper}{r:Rec}(he:AEq s S)(h:r.ld=EJ T s o)(hk:r.rk=zG s o):SF T S (gJ o.op.operands.toList) o r:=fun k off g c q=>by
 rw[h]at q
 unfold EJ at q
 split at q
 case h_2=>cases q
 case h_1 ty t ho=>
 split at q
 case h_2=>cases q
 case h_1 ti k' gp off' h1 h2=>
 split at q
 case h_2=>cases q
 case h_1 p hp=>
 cases hb:(ti.desc.isRow|| !((zG s o).any fun x=>Tx x k')|| !((gJ o.op.operands.toList).any fun x=>Tx x t))with
 |true=>rw[hb]at q;cases q
 |false=>
  rw[hb]at q
  simp only[cond_false,Option.some.injEq,Prod.mk.injEq]at q
  obtain⟨rfl,rfl,rfl,rfl⟩:=q
  rw[Wt,Wt,Yj,Yj]at hb
  obtain⟨⟨b1,b2⟩,b3⟩:=hb
  obtain⟨x,hx,e⟩:=List.any_eq_true.1 b2
  have e:=TB e;subst e
  obtain⟨y,hy,e⟩:=List.any_eq_true.1 b3
  have e:=TB e;subst e
  have hp2:s.at x=some (p.1,p.2):=hp
  rw[AS.at_iff]at hp2
  exact⟨ty,y,ti,gp,p.2,ho,h1,b1,hy,by rw[←he.tm];exact h2,by rw[←he.hp];exact hp2,rfl,by rw[hk];exact hx⟩
def BQ (P:Program)(T:TT)(nt kb:Nat)(all:List Oper)(S:AS)(i:Nat)(o:Oper)(r:Rec):Prop:=
 ji nt o=true∧r.dst=o.dst∧
 (((o.guard=none∨∃j want t,o.guard=some (j,want)∧(all[j]?).bind (·.dst)=some t∧S.tm.get t=some (.v (.bool want))∧t∈r.rt)∧
   ∃s1 ts,AEq s1 S∧(∀t∈ts,t∈r.rt)∧(dY P T (BL s1 ts r.rk) (S.nx+8*i) (S.nx+8*i) o fun v up=>v=r.v∧up=r.up)∧SF T S ts o r)∨
  (∃j want t,o.guard=some (j,want)∧(all[j]?).bind (·.dst)=some t∧(S.tm.get t=some (.v (.bool (!want)))∨S.tm.get t=some (.tup []))∧t∈r.rt∧r.v=some (.tup [])∧r.up=[]))

theorem BQ.congr {nt kb:Nat}{all:List Oper}{S S':AS}(h:AEq S S'){r:Rec}(hf:BQ P T nt kb all S i o r):BQ P T nt kb all S' i o r:=by
 obtain⟨h1,h2,h3⟩:=hf
 refine⟨h1,h2,?_⟩
 rcases h3 with⟨h3,s1,ts,h4,h5,h6,h7⟩|⟨j,want,t,h3,h4,h5,h6⟩
 ·refine .inl ⟨h3.imp id fun⟨j,want,t,a1,a2,a3,a4⟩=>⟨j,want,t,a1,a2,by rw[←h.tm];exact a3,a4⟩,s1,ts,⟨fun t=>(h4.tm t).trans (h.tm t),fun k=>(h4.hp k).trans (h.hp k),h4.nx.trans h.nx⟩,h5,by rw[←h.nx];exact h6,fun k off g c q=>?_⟩
  obtain⟨ty,t,ti,gp,b,a1,a2,a3,a4,a5,a6,a7⟩:=h7 k off g c q
  exact⟨ty,t,ti,gp,b,a1,a2,a3,a4,by rw[←h.tm];exact a5,by rw[←h.hp];exact a6,a7⟩
 ·exact .inr ⟨j,want,t,h3,h4,by rw[←h.tm];exact h5,h6⟩

theorem xP {nt kb:Nat}{all:List Oper}{pr:List (List Nat)}{K:AS→Prop}:∀(l:List Oper) (i:Nat) (s:AS) (log:List Rec),na P T nt kb all pr i l s log K→log.all dr=true
 |[],i,s,log,h=>by
  exact h.1.ok
 |o::l,i,s,log,h=>by
  have step:∀(s1:AS) (r:Rec),na P T nt kb all pr (i+1) l s1 (r::log) K→log.all dr=true:=fun s1 r h=>by
   have:=xP l (i+1) s1 (r::log) h
   rw[WY,Tw]at this;exact this.2
  obtain⟨_,h⟩:=bA.1 h
  cases hg:o.guard with
  |none=>
   rw[hg]at h
   obtain⟨v,up,h1,h2⟩:=gz h
   exact step _ _ h2
  |some jw=>
   rw[hg]at h
   dsimp only at h
   split at h
   case h_2=>exact h.elim
   case h_1 t ht=>
   split at h
   case h_3=>exact h.elim
   case h_2 hb=>exact step _ _ h
   case h_1 b hb=>
   obtain⟨h1,h2⟩:=iq.1 h
   obtain⟨j,want⟩:=jw
   cases b<;>cases want
   ·obtain⟨v,up,_,h4⟩:=gz (h2 rfl);exact step _ _ h4
   ·exact step _ _ (h2 rfl)
   ·exact step _ _ (h1 rfl)
   ·obtain⟨v,up,_,h4⟩:=gz (h1 rfl);exact step _ _ h4

def rU (P:Program)(T:TT)(nt kb:Nat)(all:List Oper)(pr:List (List Nat))(K:AS→Prop)(l:List Oper)(i:Nat)(S:AS)(log:List Rec):Prop:=
 ∃recs:List Rec,recs.length=l.length∧CF pr (log.reverse++recs)∧recs.all dr=true∧(∃s',K s'∧AEq s' (recs.foldl (fun S r=>S.eff 0 r) S))∧∀(j:Nat) o r,l[j]? =some o→recs[j]? =some r→BQ P T nt kb all ((recs.take j).foldl (fun S r=>S.eff 0 r) S) (i+j) o r
theorem BR {nt kb:Nat}{all:List Oper}(hall:∀o∈all,ji nt o=true){pr:List (List Nat)}{K:AS→Prop}:∀(l:List Oper) (i:Nat) (s S:AS) (log:List Rec),AEq s S→na P T nt kb all pr i l s log K→
  rU P T nt kb all pr K l i S log
 |[],i,s,S,log,he,h=>⟨[],rfl,by have:=h.1.cf;simpa using this,rfl,⟨s,h.2,he⟩,fun j o r hj=>by simp at hj⟩
 |o::l,i,s,S,log,he,h=>by
  obtain⟨hd,h⟩:=bA.1 h
  have cont:∀(s1:AS) (r:Rec),AEq s1 S→BQ P T nt kb all S i o r→na P T nt kb all pr (i+1) l (s1.eff i r) (r::log) K→
    rU P T nt kb all pr K (o::l) i S log:=by
   intro s1 r he1 hf hv
   have hrok:dr r=true:=by
    have:=xP l (i+1) _ (r::log) hv
    rw[WY,Tw]at this;exact this.1
   obtain⟨recs,h1,h2,h2',h3,h4⟩:=BR hall l (i+1) _ (S.eff 0 r) (r::log) (he1.eff i 0 r hrok) hv
   refine⟨r::recs,by simp[h1],by simpa using h2,by rw[WY,hrok,h2'];rfl,h3,fun j o' r' ho hr=>?_⟩
   cases j with
   |zero=>simp at ho hr;subst ho hr;exact hf
   |succ j=>
    have:=h4 j o' r' (by simpa using ho) (by simpa using hr)
    rw[show i+1+j=i+(j+1) by omega]at this
    exact this
  cases hg:o.guard with
  |none=>
   rw[hg]at h
   obtain⟨v,up,h1,h2⟩:=gz h
   exact cont s _ he ⟨hd,rfl,.inl ⟨.inl hg,s,_,he,fun t ht=>ht,by rw[←he.nx];exact h1,BP he rfl rfl⟩⟩ h2
  |some jw=>
   obtain⟨j,want⟩:=jw
   rw[hg]at h
   dsimp only at h
   split at h
   case h_2=>exact h.elim
   case h_1 t ht=>
   split at h
   case h_3=>exact h.elim
   case h_2 hb=>exact cont s _ he ⟨hd,rfl,.inr ⟨j,want,t,hg,ht,.inr (by rw[←he.tm];exact hb),TP,rfl,rfl⟩⟩ h
   case h_1 b hb=>
   have hokt:XX t=true:=by
    obtain⟨o',h1,h2⟩:=Option.bind_eq_some_iff.1 ht
    have:=hall o' (UB h1)
    unfold ji at this
    rw[h2,Tw]at this
    exact this.2
   obtain⟨h1,h2⟩:=iq.1 h
   have run:∀c,b=c→c=want→dY P T (eQ s o) (s.nx+8*i) (s.nx+8*i) o (fun v up=>na P T nt kb all pr (i+1) l (AS.eff {s with tm:=s.tm.set t (some (.v (.bool c)))} i (dU T s t o v up)) (dU T s t o v up::log) K)→rU P T nt kb all pr K (o::l) i S log:=fun c hbc hcw hv=>by
    obtain⟨v,up,h1,h2⟩:=gz hv
    have he1:=he.know (t:=t) (d:=.v (.bool c)) (by rw[hb,hbc]) hokt
    exact cont _ _ he1 ⟨hd,rfl,.inl ⟨.inr ⟨j,want,t,hg,ht,by rw[←he.tm,hb,hbc,hcw],TP⟩,s,_,he,fun t ht=>TU _ ht,by rw[←he.nx];exact h1,BP he rfl rfl⟩⟩ h2
   have skip:∀c,b=c→c= !want→na P T nt kb all pr (i+1) l (AS.eff {s with tm:=s.tm.set t (some (.v (.bool c)))} i ⟨[t],[],o.dst,some (.tup []),[],none⟩) (⟨[t],[],o.dst,some (.tup []),[],none⟩::log) K→rU P T nt kb all pr K (o::l) i S log:=fun c hbc hcw hv=>by
    have he1:=he.know (t:=t) (d:=.v (.bool c)) (by rw[hb,hbc]) hokt
    exact cont _ _ he1 ⟨hd,rfl,.inr ⟨j,want,t,hg,ht,.inl (by rw[←he.tm,hb,hbc,hcw]),TP,rfl,rfl⟩⟩ hv
   cases b<;>cases want
   ·exact run false rfl rfl (h2 rfl)
   ·exact skip false rfl rfl (h2 rfl)
   ·exact skip true rfl rfl (h1 rfl)
   ·exact run true rfl rfl (h1 rfl)
end
end Go.Vx
namespace Go.Vx
open Go.RowKit Go.Bw
section
variable {P:Program} {cx:Cx} {E:Env} {s:AS} {a:Act} {w:World} {i:Nat} {o:Oper} {T:TT} {F:Fence} {n:Nat}

theorem oF (tm:Tr D)(hp:Tr (Nat×Ob))(nx:Nat)(u u':List Nat)(x:Operand):ft ⟨tm,hp,nx,u⟩ x=ft ⟨tm,hp,nx,u'⟩ x:=by cases x<;>rfl
theorem ma (tm:Tr D)(hp:Tr (Nat×Ob))(nx:Nat)(u u':List Nat):∀l,gH ⟨tm,hp,nx,u⟩ l=gH ⟨tm,hp,nx,u'⟩ l
 |[]=>rfl
 |x::r=>by simp only[gH,oF tm hp nx u u',ma tm hp nx u u' r]
theorem oG (tm:Tr D)(hp:Tr (Nat×Ob))(nx:Nat)(u u':List Nat):∀l,gy ⟨tm,hp,nx,u⟩ l=gy ⟨tm,hp,nx,u'⟩ l
 |[]=>rfl
 |(m,x)::r=>by simp only[gy,oF tm hp nx u u',oG tm hp nx u u' r]
theorem qn (tm:Tr D)(hp:Tr (Nat×Ob))(nx:Nat)(u u':List Nat)(k:Nat):AS.at ⟨tm,hp,nx,u⟩ k=AS.at ⟨tm,hp,nx,u'⟩ k:=rfl
theorem zJ (tm:Tr D)(hp:Tr (Nat×Ob))(nx:Nat)(u u':List Nat)(d:D):lT ⟨tm,hp,nx,u⟩ d=lT ⟨tm,hp,nx,u'⟩ d:=by cases d<;>rfl
theorem EL (tm:Tr D)(hp:Tr (Nat×Ob))(nx:Nat)(u u':List Nat)(es:Nat)(dd:TypeDesc)(d:D):im ⟨tm,hp,nx,u⟩ es dd d=im ⟨tm,hp,nx,u'⟩ es dd d:=by
 unfold im;split<;>first|rfl|(simp only[qn tm hp nx u u'])
theorem EM (tm:Tr D)(hp:Tr (Nat×Ob))(nx:Nat)(u u':List Nat)(e:TypeId)(es:Nat)(d:D):v4 ⟨tm,hp,nx,u⟩ e es d=v4 ⟨tm,hp,nx,u'⟩ e es d:=by
 unfold v4;split<;>first|rfl|(simp only[qn tm hp nx u u'])
theorem JU (tm:Tr D)(hp:Tr (Nat×Ob))(nx:Nat)(u u':List Nat)(x:Option Operand):Ay ⟨tm,hp,nx,u⟩ x=Ay ⟨tm,hp,nx,u'⟩ x:=by
 cases x with
 |none=>rfl
 |some x=>simp only[Ay,oF tm hp nx u u']
theorem xQ (tm:Tr D)(hp:Tr (Nat×Ob))(nx:Nat)(u u':List Nat)(fp:List Nat)(d:D):zA ⟨tm,hp,nx,u⟩ fp d=zA ⟨tm,hp,nx,u'⟩ fp d:=by cases d<;>rfl
theorem uk (tm:Tr D)(hp:Tr (Nat×Ob))(nx:Nat)(u u':List Nat)(fp:List Nat):∀l,mP ⟨tm,hp,nx,u⟩ fp l=mP ⟨tm,hp,nx,u'⟩ fp l
 |[]=>rfl
 |d::r=>by simp only[mP,xQ tm hp nx u u' fp d,uk tm hp nx u u' fp r]
theorem EN (tm:Tr D)(hp:Tr (Nat×Ob))(nx:Nat)(u u':List Nat)(fp:List Nat)(b:Blk)(off m:Nat):zB ⟨tm,hp,nx,u⟩ fp b off m=zB ⟨tm,hp,nx,u'⟩ fp b off m:=by
 unfold zB;rw[uk tm hp nx u u']
theorem um (tm:Tr D)(hp:Tr (Nat×Ob))(nx:Nat)(u u':List Nat)(fp:List Nat):∀l,iS ⟨tm,hp,nx,u⟩ fp l=iS ⟨tm,hp,nx,u'⟩ fp l
 |[]=>rfl
 |d::r=>by simp only[iS,xQ tm hp nx u u' fp d,um tm hp nx u u' fp r]
theorem EO (tm:Tr D)(hp:Tr (Nat×Ob))(nx:Nat)(u u':List Nat)(fp:List Nat)(b:Blk):pD ⟨tm,hp,nx,u⟩ fp b=pD ⟨tm,hp,nx,u'⟩ fp b:=by
 unfold pD;rw[um tm hp nx u u']
mutual
theorem BS (tm:Tr D)(hp:Tr (Nat×Ob))(nx:Nat)(u u':List Nat)(al:Bool)(fp:List Nat):∀d,oo ⟨tm,hp,nx,u⟩ al fp d=oo ⟨tm,hp,nx,u'⟩ al fp d
 | .v _=>rfl
 | .sl ..=>rfl
 | .ref ..=>by simp only[oo,qn tm hp nx u u',EN tm hp nx u u']
 | .ptr ..=>by simp only[oo,qn tm hp nx u u',EO tm hp nx u u']
 | .ep ..=>rfl
 | .yl ..=>rfl
 | .fn _ fi ca=>by simp only[oo,iw tm hp nx u u' al fp fi,iw tm hp nx u u' al fp ca]
 | .agg cs=>by simp only[oo,iw tm hp nx u u' al fp cs]
 | .tup cs=>by simp only[oo,iw tm hp nx u u' al fp cs]
 | .ifc t x=>by simp only[oo,BS tm hp nx u u' al fp x]
theorem iw (tm:Tr D)(hp:Tr (Nat×Ob))(nx:Nat)(u u':List Nat)(al:Bool)(fp:List Nat):∀l,jY ⟨tm,hp,nx,u⟩ al fp l=jY ⟨tm,hp,nx,u'⟩ al fp l
 |[]=>rfl
 |d::r=>by simp only[jY,BS tm hp nx u u' al fp d,iw tm hp nx u u' al fp r]
end
theorem un (tm:Tr D)(hp:Tr (Nat×Ob))(nx:Nat)(u u':List Nat)(fp:List Nat):∀l,ki ⟨tm,hp,nx,u⟩ fp l=ki ⟨tm,hp,nx,u'⟩ fp l
 |[]=>rfl
 |k::r=>by simp only[ki,qn tm hp nx u u',un tm hp nx u u' fp r,iw tm hp nx u u']
theorem M6 (tm:Tr D)(hp:Tr (Nat×Ob))(nx:Nat)(u u':List Nat)(nm ky:Nat):ev T ⟨tm,hp,nx,u⟩ nm ky o=ev T ⟨tm,hp,nx,u'⟩ nm ky o:=by
 unfold ev
 split<;>(try unfold wc)<;>(try unfold wd)<;>(try split)<;>
  simp only[ig,qZ,nh,wW,nE,fQ,ie,ni,wX,DL,xA,xB,xE,ns,nk,rJ,rH,nu,gn,nl,gq,nq,jG,wZ,BJ,rM,xF,rN,kU,tD,EE,qY,
   oF tm hp nx u u',ma tm hp nx u u',oG tm hp nx u u',qn tm hp nx u u',zJ tm hp nx u u',EL tm hp nx u u',EM tm hp nx u u',JU tm hp nx u u']
theorem EP (u':List Nat){nm ky:Nat}{K:Option D→Up→Prop}(h:dY P T s nm ky o K):dY P T {s with us:=u'} nm ky o K:=by
 obtain⟨tm,hp,nx,u⟩:=s
 have e1:eJ ⟨tm,hp,nx,u'⟩ o=eJ ⟨tm,hp,nx,u⟩ o:=by
  unfold eJ
  split<;>(try rfl)
  split<;>(try rfl)
  simp only[oF tm hp nx u' u,ma tm hp nx u' u]
 unfold dY at h ⊢
 dsimp only
 rw[e1,M6 tm hp nx u' u]
 split at h
 case h_1 p hp'=>
  obtain⟨al,fp,q,hin,r,bs,h1,h2,h3⟩:=h.h
  exact⟨al,fp,q,hin,r,bs,by rw[iw tm hp nx u' u];exact h1,by rw[un tm hp nx u' u];exact h2,h3⟩
 case h_2 hp'=>exact h

theorem EQ {s s2:AS}{nm ky:Nat}{o:Oper}{K:Option D→Up→Prop}{ty:TypeId}{t:Nat}{ti:TI}{k gp off g:Nat}{c:Option D}{b2:Blk}(ho:o.op= .load ty (.tmp t))(hti:T.get ty=some ti)(hrow:ti.desc.isRow=false)
  (h1:∀d,s.tm.get t=some d→d= .ptr k gp off) (h2:∀p:Nat×Blk,s.at k=some (p.1,p.2)→p.1=g∧p.2.cells[off]? =c) (ht2:s2.tm.get t=some (.ptr k gp off)) (hk2:s2.at k=some (g,b2)) (hc2:b2.cells[off]? =c) (h:dY P T s nm ky o K):dY P T s2 nm ky o K:=by
 have hn:∀S:AS,eJ S o=none:=fun S=>by unfold eJ;rw[ho]
 have he:∀S:AS,ev T S nm ky o=ie T S ty (.tmp t):=fun S=>by unfold ev;rw[ho]
 unfold dY at h ⊢
 rw[hn]at h ⊢
 dsimp only at h ⊢
 rw[he]at h ⊢
 unfold ie at h ⊢
 rw[hti]at h ⊢
 have e2:ft s2 (.tmp t)=some (.ptr k gp off):=ht2
 rw[e2]
 cases hd:ft s (.tmp t)with
 |none=>rw[hd]at h;exact h.elim
 |some d=>
  rw[hd]at h
  have:=h1 d hd
  subst this
  dsimp only[lT]at h ⊢
  rw[hk2]
  cases hp:s.at k with
  |none=>rw[hp]at h;exact h.elim
  |some p=>
   rw[hp]at h
   obtain⟨e3,e4⟩:=h2 p hp
   dsimp only at h ⊢
   rw[e3]at h
   unfold ng at h ⊢
   rw[hrow]at h ⊢
   rw[cond_false,e4]at h
   rw[cond_false,hc2]
   exact h

theorem oH {E:Env}{w:World}:RD E w (.tup []) undef:=RD.tup [] [] rfl (by simp)
theorem oI {cx:Cx}{E:Env}{s:AS}{a:Act}{w:World}(h:SR cx E s a w){all:List Oper}{j t:Nat}(hj:(all[j]?).bind (·.dst)=some t)(ht:s.tm.get t=some (.tup [])):yielded all.toArray a.tmps j=none:=by
 obtain⟨u,hu,hr⟩:=h.fr t _ ht
 cases hr
 unfold yielded
 have e1:((all.toArray[j]?).bind (·.dst))=some t:=by simpa using hj
 rw[e1]
 simp only[YD,hu]
theorem iy {nt kb:Nat}{all:List Oper}{pr:List (List Nat)}{K:AS→Prop}:∀(l:List Oper) (i:Nat) (s:AS) (log:List Rec),na P T nt kb all pr i l s log K→∀o∈l,ji nt o=true
 |[],i,s,log,h,o,ho=>by cases ho
 |o::l,i,s,log,h,o',ho=>by
  obtain⟨hd,h⟩:=bA.1 h
  rcases List.mem_cons.1 ho with rfl|ho
  ·exact hd
  cases hg:o.guard with
  |none=>
   rw[hg]at h
   obtain⟨v,up,h1,h2⟩:=gz h
   exact iy l _ _ _ h2 o' ho
  |some jw=>
   rw[hg]at h
   dsimp only at h
   split at h
   case h_2=>exact h.elim
   case h_1 t ht=>
   split at h
   case h_3=>exact h.elim
   case h_2 hb=>exact iy l _ _ _ h o' ho
   case h_1 b hb=>
   obtain⟨h1,h2⟩:=iq.1 h
   obtain⟨j,want⟩:=jw
   cases b<;>cases want
   ·obtain⟨v,up,_,h4⟩:=gz (h2 rfl);exact iy l _ _ _ h4 o' ho
   ·exact iy l _ _ _ (h2 rfl) o' ho
   ·exact iy l _ _ _ (h1 rfl) o' ho
   ·obtain⟨v,up,_,h4⟩:=gz (h1 rfl);exact iy l _ _ _ h4 o' ho

theorem jl (recs:List Rec)(s:AS):∀π:List Nat,(iv recs s π).us=π.reverse++s.us∧(iv recs s π).nx=s.nx:=by
 intro π
 induction π generalizing s with
 |nil=>exact⟨rfl,rfl⟩
 |cons i π ih=>
  obtain⟨h1,h2⟩:=ih (s.eff i (recs.getD i aX))
  refine⟨?_,h2⟩
  show(iv recs (s.eff i (recs.getD i aX)) π).us=_
  rw[h1]
  simp[AS.eff]

theorem oJ (recs:List Rec)(hok:recs.all dr=true)(s:AS):∀k,k≤recs.length→AEq ((recs.take k).foldl (fun S r=>S.eff 0 r) s) (iv recs s (Uv k))
 |0,_=>.refl s
 |k+1,hk=>by
  have ih:=oJ recs hok s k (by omega)
  have hlt:k<recs.length:=by omega
  rw[Wf,oz,T8 hlt,List.foldl_append]
  have e:recs.getD k aX=recs[k]:=by simp[hlt]
  rw[e]
  exact ih.eff 0 k _ (List.all_eq_true.1 hok _ (Uo hlt))

theorem qo:∀(N:Nat) (l:List Nat),l.Nodup→(∀x∈l,x<N)→l.length≤N
 |0,l,_,h=>by
  cases l with
  |nil=>exact TD _
  |cons x l=>have:=h x TP;omega
 |N+1,l,hn,h=>by
  have ih:=qo N (l.erase N) (hn.erase N) fun x hx=>by
   rw[hn.mem_erase_iff]at hx
   have:=h x hx.2;omega
  by_cases hm:N∈l
  ·rw[List.length_erase_of_mem hm]at ih;omega
  ·rw[List.erase_of_not_mem hm]at ih;omega

theorem SR.alike {S S':AS}(h:SR cx E S a w)(he:AEq S' S){N:Nat}(hus:∀k∈S.us,k<N):SR cx E (S'.fin N) a w:=by
 have hat:∀k,(S'.fin N).gat k=S.gat k:=he.hp
 have hob:∀{k g o},(S'.fin N).gat k=some (g,o)→OB E w g o:=fun{k g o} hk=>h.ob (by rw[←hat];exact hk)
 exact{
     fr:=fun t d hd=>h.fr t d (by rw[←he.tm];exact hd),sz:=h.sz,df:=h.df,hp:=fun k g b hk=>hob (AS.at_iff.1 hk),lp:=fun k g b hk=>hob (AS.lat_iff.1 hk)
     inj:=fun k k' g g' b b' hkk h1 h2=>h.inj k k' g g' b b' hkk (by rw[←hat];exact h1) (by rw[←hat];exact h2),lt:=h.lt,low:=fun x ⟨k,g,b,hk,hx⟩=>h.low x ⟨k,g,b,by rw[←hat];exact hk,hx⟩,base:=h.base,bel:=h.bel,szB:=h.szB
     nm:=fun g hg=>.inl (by
      show g<S'.nx+8*N
      rw[he.nx]
      rcases h.nm g hg with h1|⟨j,hj,h1⟩
      ·omega
      ·have:=hus j hj;omega)}
theorem AEq.own {S S':AS}(he:AEq S' S){φ:Nat→Option Nat}{x N:Nat}(h:bG (S'.fin N) φ x):bG S φ x:=by
 obtain⟨k,g,o,hk,hx⟩:=h
 refine⟨k,g,o,?_,hx⟩
 show S.hp.get k=_
 rw[←he.hp];exact hk

theorem AWP.draw {rd:Bool}{nt kb xn:Nat}{id:Nat}{ops:Array Oper}{K:AX→AS→Prop}(hT:T.ok P)(hfol:P.follows .mixedOrders=true)(pr:List (List Nat))(hpr:BM pr 0 ops.toList=true)
  (h:na P T nt kb ops.toList pr 0 ops.toList s [] fun s'=>K .normal (s'.fin ops.size)):AWP P rd nt xn (.region id ops true) s K:=by
 refine⟨fun F n cx E0 a0 w0 Q hF hro hn hu hs hQ=>?_⟩
 subst hn
 obtain⟨recs,hlen,hcf,hrok,⟨s',hK,hAE⟩,hfacts⟩:=BR (iy ops.toList 0 s [] h) ops.toList 0 s s [] (.refl s) h
 rw[List.reverse_nil,VV]at hcf
 have hlen:recs.length=ops.size:=by simpa using hlen
 have hspec:=qe ops.toList 0 hpr
 have main:∀fuel listed (π:List Nat) a w E,fuel+π.length=ops.size→listed.size=ops.size→(∀x,x<ops.size→(listed.getD x true=true↔x∈π))→Ord pr recs π→(∀x∈π,∀o,ops.toList[x]? =some o→∀e∈eM o,e∈π)→
   SR cx E (iv recs s π) a w→Stp E0 E w0 w→Mut s (iv recs s π) E0 E w0 w→wpAnyIn F n P .any ops Q fuel listed a w:=by
  intro fuel
  have fin:∀(π:List Nat) a w E,Ord pr recs π→(∀x,x<ops.size→x∈π)→SR cx E (iv recs s π) a w→Stp E0 E w0 w→Mut s (iv recs s π) E0 E w0 w→Q .normal a w:=by
   intro π a w E ho hall hsr hst hmut
   have e1:AEq s' (iv recs s π):=by
    have e2:=oJ recs hrok s recs.length (TD _)
    rw[Uy]at e2
    refine⟨fun t=>?_,fun k=>?_,?_⟩
    ·rw[hAE.tm,e2.tm,qj hrok hcf ho (m:=recs.length) (TD _) (.inl ⟨rfl,fun x hx=>hall x (by omega)⟩)]
    ·rw[hAE.hp,e2.hp,qk hrok hcf ho (m:=recs.length) (TD _) (.inl ⟨rfl,fun x hx=>hall x (by omega)⟩)]
    ·rw[hAE.nx,e2.nx,(jl recs s _).2,(jl recs s π).2]
   refine hQ .normal _ E a w hK rfl (hsr.alike e1 fun k hk=>?_) (hst.x _) ⟨hmut.own,hmut.heap,fun x hx ho'=>hmut.old x hx (e1.own ho')⟩
   rw[(jl recs s π).1,hu,Ue,YE]at hk
   have:=ho.lt k hk;omega
  induction fuel with
  |zero=>
   intro listed π a w E hf hsz hli ho hed hsr hst hmut
   have hnd:π.Nodup:=ho.lin.imp fun h=>h.2
   have hall:∀x,x<ops.size→x∈π:=fun x hx=>by
    apply Wx
    intro hn
    have:=qo ops.size (x::π) (List.nodup_cons.2 ⟨hn,hnd⟩) fun y hy=>by
     rcases List.mem_cons.1 hy with rfl|hy
     ·exact hx
     ·have:=ho.lt y hy;omega
    simp only[T3]at this;omega
   refine⟨?_,fin π a w E ho hall hsr hst hmut⟩
   apply List.eq_nil_iff_forall_not_mem.2
   intro x hx
   rw[mem_ready]at hx
   obtain⟨h1,o,h2,_⟩:=hx
   have hlt:x<ops.size:=(Array.getElem?_eq_some_iff.1 h2).1
   rw[(hli x hlt).2 (hall x hlt)]at h1;cases h1
  |succ fuel ih=>
   intro listed π a w E hf hsz hli ho hed hsr hst hmut
   have hready:∀x o,ops[x]? =some o→x∉π→(∀e∈eM o,e∈π)→x∈Region.ready .any ops listed:=fun x o hxo hxp he=>by
    have hlt:x<ops.size:=(Array.getElem?_eq_some_iff.1 hxo).1
    rw[mem_ready]
    refine⟨?_,o,hxo,fun e hea hb=>?_⟩
    ·cases hl:listed.getD x true with
     |false=>rfl
     |true=>exact absurd ((hli x hlt).1 hl) hxp
    ·have hm:e.on∈eM o:=by
      unfold eM
      exact List.mem_map.2 ⟨e,List.mem_filter.2 ⟨by simpa using hea,hb⟩,rfl⟩
     have hep:=he _ hm
     have hlt2:e.on<ops.size:=by have:=ho.lt _ hep;omega
     have:=(hli _ hlt2).2 hep
     simp only[VY]at this ⊢
     rw[Va (by omega)]at this ⊢
     exact this
   refine⟨fun hr=>?_,fun i hi=>?_⟩
   ·refine fin π a w E ho (fun x=>?_) hsr hst hmut
    induction x using Nat.strongRecOn with
    |_ x ihx=>
     intro hx
     apply Wx
     intro hxp
     have hxo:ops[x]? =some ops[x]:=Va hx
     have:=hready x ops[x] hxo hxp fun e he=>by
      have h1:=(hspec x ops[x] (by simp[hx])).1 e he
      rw[T0]at h1
      exact ihx e h1 (by omega)
     rw[hr]at this;cases this
   ·rw[mem_ready]at hi
    obtain⟨hl,o,hio,hedges⟩:=hi
    have hlt:i<ops.size:=(Array.getElem?_eq_some_iff.1 hio).1
    have hip:i∉π:=fun h=>by rw[(hli i hlt).2 h]at hl;cases hl
    have hedg:∀e∈eM o,e∈π:=fun e he=>by
     unfold eM at he
     obtain⟨e',he',rfl⟩:=List.mem_map.1 he
     obtain⟨h1,h2⟩:=List.mem_filter.1 he'
     have h3:=hedges e' (by simpa using h1) h2
     have hlt2:e'.on<ops.size:=by
      rcases T5 e'.on ops.size with h|h
      ·exact h
      ·simp only[VY]at h3
       rw[VX (by omega)]at h3;cases h3
     refine(hli _ hlt2).1 ?_
     simp only[VY]at h3 ⊢
     rw[Va (by omega)]at h3 ⊢
     exact h3
    have hol:ops.toList[i]? =some o:=by simpa using hio
    have hprs:∀y∈pr.getD i [],y∈π:=fun y hy=>by
     have:=(hspec i o hol).2 y (by rw[T0];exact hy)
     obtain⟨e,he,h1⟩:=this
     rcases h1 with rfl|h1
     ·exact hedg _ he
     ·exact ho.cl e (hedg e he) y h1
    have hilen:i<recs.length:=by omega
    have hri:recs[i]? =some (recs.getD i aX):=by simp[hilen]
    have hfact:=hfacts i o (recs.getD i aX) hol hri
    rw[T0]at hfact
    have hfa:=(oJ recs hrok s i (by omega))
    have hfact:=hfact.congr hfa
    obtain⟨hdst,hrd,hcase⟩:=hfact
    have lookT:∀t,t∈(recs.getD i aX).rt→(iv recs s π).tm.get t=(iv recs s (Uv i)).tm.get t:=fun t ht=>qj hrok hcf ho (by omega) (.inr ⟨hip,hprs,hilen,ht⟩) s
    have lookH:(recs.getD i aX).ld=none→∀k,k∈(recs.getD i aX).rk→(iv recs s π).hp.get k=(iv recs s (Uv i)).hp.get k:=fun hn k hk=>qk hrok hcf ho (by omega) (.inr ⟨hip,hprs,hilen,hk,hn⟩) s
    have hius:i∉(iv recs s π).us:=by rw[(jl recs s π).1,hu,Ue,YE];exact hip
    have next:∀E' a' w',SR cx E' ((iv recs s π).eff i (recs.getD i aX)) a' w'→Stp E E' w w'→Mut (iv recs s π) ((iv recs s π).eff i (recs.getD i aX)) E E' w w'→wpAnyIn F n P .any ops Q fuel (listed.setIfInBounds i true) a' w':=by
     intro E' a' w' hs' hst' hmut'
     refine ih (listed.setIfInBounds i true) (π++[i]) a' w' E' (by simp;omega) (by simpa using hsz) (fun x hx=>?_) ⟨?_,?_,?_⟩ ?_ (by rw[oz];exact hs') (hst.trans hst') (by rw[oz];exact hmut.trans hmut' hst.size)
     ·by_cases e:i=x
      ·subst e
       simp[hsz,hlt]
      ·have h1:=hli x hx
       simp only[VY,U7 e]at h1 ⊢
       rw[h1]
       simp[WW e]
     ·rw[W0]
      refine⟨ho.lin,List.pairwise_singleton _ _,fun x hx y hy=>?_⟩
      rw[Wd]at hy;subst hy
      exact⟨fun h=>hip (ho.cl x hx _ h),fun h=>by subst h;exact hip hx⟩
     ·intro x hx y hy
      rcases List.mem_append.1 hx with hx|hx
      ·exact U2 _ (ho.cl x hx y hy)
      ·rw[Wd]at hx;subst hx
       exact U2 _ (hprs y hy)
     ·intro x hx
      rcases List.mem_append.1 hx with hx|hx
      ·exact ho.lt x hx
      ·rw[Wd]at hx;subst hx;exact hilen
     ·intro x hx o' ho' e he
      rcases List.mem_append.1 hx with hx|hx
      ·exact U2 _ (hed x hx o' ho' e he)
      ·rw[Wd]at hx;subst hx
       rw[hol]at ho';cases ho'
       exact U2 _ (hedg e he)
    unfold wpOpIn
    rw[hio]
    dsimp only
    rcases hcase with⟨hg,s1,ts,bY,hts,hv,hldG⟩|⟨j,want,t,hg,hjt,hgt,htr,hv0,hup0⟩
    ·have hwant:V3 o (yielded ops a.tmps)=true:=by
      rcases hg with hg|⟨j,want,t,hg,hjt,hgt,htr⟩
      ·simp[V3,hg]
      ·have hy:=kv (all:=ops.toList) hsr hjt (b:=want) (by rw[lookT t htr];exact hgt)
       simp only[U0]at hy
       simp[V3,hg,hy]
     rw[if_pos hwant]
     have hgo:∃s2,Sub s2 (iv recs s π)∧s2.nx=(iv recs s (Uv i)).nx∧dY P T s2 ((iv recs s (Uv i)).nx+8*i) ((iv recs s (Uv i)).nx+8*i) o fun v up=>v=(recs.getD i aX).v∧up=(recs.getD i aX).up:=by
      cases hld:(recs.getD i aX).ld with
      |none=>
       refine⟨BL s1 ts (recs.getD i aX).rk,⟨fun t d hd=>?_,fun k g b hk=>?_,?_⟩,bY.nx,hv⟩
       ·obtain⟨h1,h2⟩:=jN _ _ _ _ hd
        rw[lookT t (hts t h1),←bY.tm];exact h2
       ·obtain⟨h1,h2⟩:=jO _ _ _ _ hk
        show(iv recs s π).hp.get k=_
        rw[lookH hld k h1,←bY.hp];exact h2
       ·show s1.nx=_
        rw[bY.nx,(jl recs s _).2,(jl recs s π).2]
      |some q=>
       obtain⟨k,off,g,c⟩:=q
       obtain⟨ty,t,ti,gp,b,a1,a2,a3,a4,a5,a6,a7,a8⟩:=hldG k off g c hld
       obtain⟨b2,e1,e2⟩:=EK hrok hcf ho hilen hip hprs hld a8 s a6 a7
       refine⟨{iv recs s π with us:=[]},⟨fun t d hd=>hd,fun k g b hk=>hk,rfl⟩,?_,?_⟩
       ·exact(jl recs s π).2.trans (jl recs s _).2.symm
       ·have ht2:(iv recs s π).tm.get t=some (.ptr k gp off):=by rw[lookT t (hts t a4)];exact a5
        exact EQ a1 a2 a3 (fun d hd=>by
         obtain⟨_,h2⟩:=jN _ _ _ _ hd
         rw[bY.tm,a5]at h2;exact(Option.some.inj h2).symm) (fun p hp=>by
         obtain⟨h1,h2⟩:=jO _ _ _ _ (AS.at_iff.1 hp)
         rw[bY.hp,a6]at h2
         have h3:=Option.some.inj h2
         simp only[Prod.mk.injEq,Ob.b.injEq]at h3
         exact⟨h3.1.symm,by rw[←h3.2,a7]⟩) ht2 (AS.at_iff.2 e1) e2 hv
     obtain⟨s2,hsub,hnx,hv⟩:=hgo
     have hrk:=wl hrok i
     rw[dr,Tw]at hrk
     refine zF (s:=s2) (K:=fun v up=>v=(recs.getD i aX).v∧up=(recs.getD i aX).up) hF hT hsr hsub hius hdst (EP _ (by rw[hnx];exact hv)) (fun v up hvu=>by rw[hvu.2];exact hrk.2) fun v up E' a' w' hvu hs' hst' hmut'=>?_
     obtain⟨rfl,rfl⟩:=hvu
     refine next E' a' w' ?_ hst' ?_
     ·unfold AS.eff
      rw[hrd];exact hs'
     ·unfold AS.eff
      rw[hrd];exact hmut'
    ·have hwant:V3 o (yielded ops a.tmps)=false:=by
      rcases hgt with hgt|hgt
      ·have hy:=kv (all:=ops.toList) hsr hjt (b:=!want) (by rw[lookT t htr];exact hgt)
       simp only[U0]at hy
       simp only[V3,hg,hy];cases want<;>rfl
      ·have hy:=oI (all:=ops.toList) hsr hjt (by rw[lookT t htr];exact hgt)
       simp only[U0]at hy
       simp only[V3,hg,hy];rfl
     rw[if_neg (by rw[hwant];simp)]
     refine⟨fun f _=>hF.fn f,next E _ w ?_ (Stp.refl E w) ?_⟩
     ·unfold AS.eff
      rw[hrd,hv0,hup0]
      exact cV (s:={iv recs s π with us:=i::(iv recs s π).us}) (hsr.us i) hdst (v:=some (.tup [])) oH
     ·unfold AS.eff
      rw[hup0]
      exact⟨fun _ h=>h,fun _ _ _=>rfl,fun _ _ h=>h⟩
 refine wpIn_region_any hfol (main ops.size _ [] a0 _ E0 (by simp) (by simp) (fun x hx=>?_) ⟨Yp,(fun x hx=>by cases hx),(fun x hx=>by cases hx)⟩ (fun x hx=>by cases hx) (hs.drew) (Stp.drew E0 w0) ⟨fun _ h=>h,fun _ _ _=>rfl,fun _ _ h=>h⟩)
 simp[hx]
end
end Go.Vx
namespace Go.Vx
open Go.RowKit Go.Bw

def QZ (x:Nat)(l:List Nat):List Nat:=bif l.any (fun y=>Tx x y)then l else x::l
def BT:List Nat→List Nat→List Nat
 |[],m=>m
 |x::l,m=>BT l (QZ x m)
def JV:List Oper→List (List Nat)→List (List Nat)
 |[],acc=>acc
 |o::r,acc=>JV r (acc++[(eM o).foldl (fun m e=>BT (e::acc.getD e []) m) []])

def g8 (s:AS)(c:Operand)(b:Bool):AS:=
 match c with
 | .tmp t=>{s with tm:=s.tm.set t (some (.v (.bool b)))}
 |_=>s
section
variable {P:Program} {T:TT} {rd:Bool} {nt xn kb:Nat}

theorem SR.know' {cx:Cx}{E:Env}{s:AS}{a:Act}{w:World}(h:SR cx E s a w){c:Operand}{b:Bool}(hc:ft s c=some (.v (.bool b))):SR cx E (g8 s c b) a w:=by
 cases c with
 |tmp t=>exact h.know hc rfl
 |_=>exact h
theorem rV (s:AS)(c:Operand)(b:Bool):(g8 s c b).us=s.us∧(g8 s c b).hp=s.hp:=by cases c<;>exact⟨rfl,rfl⟩
theorem Mut.know {s s':AS}{E E':Env}{w w':World}{c:Operand}{b:Bool}(h:Mut (g8 s c b) s' E E' w w'):Mut s s' E E' w w':=by
 have e:∀φ x,bG (g8 s c b) φ x↔bG s φ x:=fun φ x=>by
  unfold bG AS.gat;rw[(rV s c b).2]
 exact⟨h.own,fun x hx hn=>h.heap x hx fun ho=>hn ((e _ _).1 ho),fun x hx ho=>(e _ _).1 (h.old x hx ho)⟩

def D.sim (d d':D):Prop:=∀E w u,RD E w d u→RD E w d' u
theorem D.sim.refl (d:D):d.sim d:=fun _ _ _ h=>h
theorem D.sim.ref (k k' g off n sz:Nat):(Tu k g off n sz).sim (.ref k' g off n sz):=fun E w u h=>by
 cases h with
 |ref _ _ _ _ _ c b off' t m hg hb hc ho hsh hm=>exact .ref k' g off n sz c b off' t m hg hb hc ho hsh hm
 |refn _ _ _ hg hb=>exact .refn k' g sz hg hb
theorem D.sim.ptr (k k' g off:Nat):(TF k g off).sim (.ptr k' g off):=fun E w u h=>by
 cases h with
 |ptr _ _ _ b hg hb=>exact .ptr k' g off b hg hb
def cj:List D→List D→Prop
 |[],[]=>True
 |d::r,d'::r'=>d.sim d'∧cj r r'
 |_,_=>False
theorem cj.refl:∀l:List D,cj l l
 |[]=>trivial
 |d::r=>⟨.refl d,cj.refl r⟩
theorem cj.get:∀{l l':List D},cj l l'→l.length=l'.length∧∀(j:Nat) d',l'[j]? =some d'→∃d,l[j]? =some d∧d.sim d'
 |[],[],_=>⟨rfl,fun j d h=>by simp at h⟩
 |d::r,d'::r',⟨h1,h2⟩=>by
  obtain⟨e,g⟩:=cj.get h2
  refine⟨by simp[e],fun j x hx=>?_⟩
  cases j with
  |zero=>simp at hx;subst hx;exact⟨d,rfl,h1⟩
  |succ j=>simpa using g j x (by simpa using hx)
 |[],_::_,h=>h.elim
 |_::_,[],h=>h.elim
theorem D.sim.agg {l l':List D}(h:cj l l'):(UA l).sim (.agg l'):=fun E w u hr=>by
 obtain⟨e,g⟩:=h.get
 cases hr with
 |agg _ us hlen hd h1=>
  refine .agg _ us (by rw[hlen,e]) (fun i d' u hd' hu=>?_) h1
  obtain⟨d,hd1,hs⟩:=g i d' hd'
  exact hs _ _ _ (hd i d u hd1 hu)

def BU (s:AS):List (Nat×D)→Prop
 |[]=>True
 |p::r=>(∃d,s.tm.get p.1=some d∧d.sim p.2)∧BU s r
def uo (s:AS):List (Nat×(Nat×Blk))→List Nat→Prop
 |[],[]=>True
 |(_,(g,b))::r,k::ks=>(∃b0,s.at k=some (g,b0)∧b0.elem=b.elem∧(b.row=false→b0.row=false)∧(b0.row=true→b.row=true)∧cj b0.cells b.cells)∧uo s r ks
 |_,_=>False
theorem qp {s:AS}:∀{l:List (Nat×D)},BU s l→∀p∈l,∃d,s.tm.get p.1=some d∧d.sim p.2
 |[],_,p,h=>by cases h
 |q::r,⟨h1,h2⟩,p,h=>by
  rcases List.mem_cons.1 h with rfl|h
  ·exact h1
  ·exact qp h2 p h

def P9 (tm:List (Nat×D))(hp:List (Nat×(Nat×Blk)))(lp:List (Nat×(Nat×LRec)))(nx:Nat):AS:=⟨XZ tm,XZ (hp.map (fun p=>(p.1,(p.2.1,Ob.b p.2.2)))++lp.map (fun p=>(p.1,(p.2.1,Ob.l p.2.2)))),nx,[]⟩
def xR (s:AS):List (Nat×(Nat×LRec))→List Nat→Prop
 |[],[]=>True
 |(_,(g,r))::l,k::ks=>(∃r0,s.lat k=some (g,r0)∧r0.st=r.st∧r0.pend=r.pend∧r0.params=r.params∧r0.assign=r.assign∧r0.body=r.body∧r0.nt=r.nt∧∃tm,r.tm=XZ tm∧∀p∈tm,∃d,r0.tm.get p.1=some d∧d.sim p.2)∧xR s l ks
 |_,_=>False

structure Le (s s':AS):Prop where
 h:∃tm hp lp nx,s'=P9 tm hp lp nx∧BU s tm∧(∃ks ls,uo s hp ks∧xR s lp ls∧f8 (ks++ls)=true)∧s.nx≤nx∧s.us=[]

theorem qq {s:AS}:∀{l:List (Nat×(Nat×Blk))} {ks:List Nat},uo s l ks→∀{k g b},(k,(g,b))∈l→∃(i k0:Nat) (b0:Blk),ks[i]? =some k0∧l[i]? =some (k,(g,b))∧s.at k0=some (g,b0)∧b0.elem=b.elem∧(b.row=false→b0.row=false)∧(b0.row=true→b.row=true)∧cj b0.cells b.cells
 |[],[],_,k,g,b,h=>by cases h
 |(k1,(g1,b1))::r,k2::ks,⟨h1,h2⟩,k,g,b,h=>by
  rcases List.mem_cons.1 h with h|h
  ·cases h
   obtain⟨b0,e⟩:=h1
   exact⟨0,k2,b0,rfl,rfl,e⟩
  ·obtain⟨i,k0,b0,e1,e2,e3⟩:=qq h2 h
   exact⟨i+1,k0,b0,by simpa using e1,by simpa using e2,e3⟩
 |(_,_)::_,[],h,_,_,_,_=>h.elim
 |[],_::_,h,_,_,_,_=>h.elim
theorem qt {s:AS}:∀{l:List (Nat×(Nat×LRec))} {ks:List Nat},xR s l ks→∀{k g r},(k,(g,r))∈l→∃(i k0:Nat) (r0:LRec),ks[i]? =some k0∧l[i]? =some (k,(g,r))∧s.lat k0=some (g,r0)∧r0.st=r.st∧r0.pend=r.pend∧r0.params=r.params∧r0.assign=r.assign∧r0.body=r.body∧r0.nt=r.nt∧∃tm,r.tm=XZ tm∧∀p∈tm,∃d,r0.tm.get p.1=some d∧d.sim p.2
 |[],[],_,k,g,b,h=>by cases h
 |(k1,(g1,b1))::r,k2::ks,⟨h1,h2⟩,k,g,b,h=>by
  rcases List.mem_cons.1 h with h|h
  ·cases h
   obtain⟨b0,e⟩:=h1
   exact⟨0,k2,b0,rfl,rfl,e⟩
  ·obtain⟨i,k0,b0,e1,e2,e3⟩:=qt h2 h
   exact⟨i+1,k0,b0,by simpa using e1,by simpa using e2,e3⟩
 |(_,_)::_,[],h,_,_,_,_=>h.elim
 |[],_::_,h,_,_,_,_=>h.elim

theorem nF {s:AS}{tm:List (Nat×D)}{hp:List (Nat×(Nat×Blk))}{lp:List (Nat×(Nat×LRec))}{nx:Nat}{ks ls:List Nat}(h1:uo s hp ks)(h2:xR s lp ls){k g:Nat}{o:Ob}(hk:(P9 tm hp lp nx).gat k=some (g,o)):
  ∃(i k0:Nat) (o0:Ob),(ks++ls)[i]? =some k0∧((hp.map (fun p=>p.1))++lp.map (fun p=>p.1))[i]? =some k∧s.gat k0=some (g,o0)∧
   ((∃b b0,o= .b b∧o0= .b b0∧b0.elem=b.elem∧(b.row=false→b0.row=false)∧(b0.row=true→b.row=true)∧cj b0.cells b.cells)∨
   (∃r r0,o= .l r∧o0= .l r0∧r0.st=r.st∧r0.pend=r.pend∧r0.params=r.params∧r0.assign=r.assign∧r0.body=r.body∧r0.nt=r.nt∧∃tm,r.tm=XZ tm∧∀p∈tm,∃d,r0.tm.get p.1=some d∧d.sim p.2)):=by
 have len1:∀{l:List (Nat×(Nat×Blk))} {ks:List Nat},uo s l ks→l.length=ks.length:=by
  intro l
  induction l with
  |nil=>intro ks h;cases ks<;>first|rfl|exact h.elim
  |cons p r ih=>intro ks h;cases ks with
   |nil=>exact h.elim
   |cons k ks=>simp[ih h.2]
 have hm:=Xh hk
 rcases List.mem_append.1 hm with hm|hm
 ·obtain⟨p,hp',e⟩:=List.mem_map.1 hm
  obtain⟨k',g',b⟩:=p
  cases e
  obtain⟨i,k0,b0,e1,e2,e3,e4⟩:=qq h1 hp'
  have hi:i<ks.length:=(List.getElem?_eq_some_iff.1 e1).1
  have hi':i<hp.length:=(List.getElem?_eq_some_iff.1 e2).1
  exact⟨i,k0,.b b0,by rw[TQ hi];exact e1,by rw[TQ (by simpa using hi'),TN,e2];rfl,AS.at_iff.1 e3,.inl ⟨_,_,rfl,rfl,e4⟩⟩
 ·obtain⟨p,hp',e⟩:=List.mem_map.1 hm
  obtain⟨k',g',b⟩:=p
  cases e
  obtain⟨i,k0,b0,e1,e2,e3,e4⟩:=qt h2 hp'
  have hl:=len1 h1
  refine⟨ks.length+i,k0,.l b0,?_,?_,AS.lat_iff.1 e3,.inr ⟨_,_,rfl,rfl,e4⟩⟩
  ·rw[TO (by omega),Vz];exact e1
  ·rw[TO (by simp;omega)]
   simp only[TH]
   rw[show ks.length+i-hp.length=i by omega,TN,e2];rfl

theorem Le.us {s s':AS}(h:Le s s'):s'.us=[]:=by obtain⟨tm,hp,lp,nx,rfl,_⟩:=h.h;rfl

theorem SR.le {cx:Cx}{E:Env}{s s':AS}{a:Act}{w:World}(h:SR cx E s a w)(hl:Le s s'):SR cx E s' a w∧Mut s s' E E w w:=by
 obtain⟨tm,hp,lp,nx,rfl,htm,⟨ks,ls,hks,hls,hnd⟩,hnx,hus⟩:=hl.h
 have hnd:=dq hnd
 have hob:∀{k g o},(P9 tm hp lp nx).gat k=some (g,o)→OB E w g o:=fun{k g o} hk=>by
  obtain⟨i,k0,o0,_,_,h3,h4⟩:=nF hks hls hk
  have ho:=h.ob h3
  rcases h4 with⟨b,b0,rfl,rfl,e1,e2,e2',e3⟩|⟨r,r0,rfl,rfl,e1,e2,e3,e4,e5,e6,tm',e7,e8⟩
  ·obtain⟨c1,c2⟩:=ho
   refine⟨c1,?_⟩
   obtain⟨l1,l2⟩:=e3.get
   cases hp:E.φ g with
   |none=>
    rw[hp]at c2
    dsimp only at c2 ⊢
    refine⟨Ua (by rw[←l1,c2.1];rfl),e2' c2.2⟩
   |some x=>
    rw[hp]at c2
    obtain⟨d1,d2,cur,fr,d3,d4,d5,d6,d7⟩:=c2
    refine⟨d1,d2,cur,fr,by rw[←e1];exact d3,d4,by rw[←l1];exact d5,fun hr=>by rw[←l1];exact d6 (e2 hr),fun j d hj=>?_⟩
    obtain⟨d0,f1,f2⟩:=l2 j d hj
    obtain⟨u,g1,g2,g3⟩:=d7 j d0 f1
    exact⟨u,g1,g2,f2 _ _ _ g3⟩
  ·obtain⟨c1,b,L,c2,c3,c4,c5,c6,c7,c8,c9,c10,c11,c12⟩:=ho
   refine⟨c1,b,L,c2,c3,c4,c5,c6.trans e1,c7.trans e2,c8.trans e3,c9.trans e4,c10.trans e5,by rw[←e6];exact c11,fun t d hd=>?_⟩
   rw[e7]at hd
   obtain⟨d0,f1,f2⟩:=e8 _ (Xh hd)
   obtain⟨u,g1,g2⟩:=c12 t d0 f1
   exact⟨u,g1,f2 _ _ _ g2⟩
 have hown:∀{x},bG (P9 tm hp lp nx) E.φ x→bG s E.φ x:=fun⟨k,g,o,hk,hx⟩=>by
  obtain⟨i,k0,o0,_,_,h3,_⟩:=nF hks hls hk
  exact⟨k0,g,o0,h3,hx⟩
 refine⟨{h with
  fr:=fun t d hd=>?_
  hp:=fun k g b hk=>hob (AS.at_iff.1 hk)
  lp:=fun k g b hk=>hob (AS.lat_iff.1 hk)
  inj:=fun k k' g g' b b' hkk h1 h2=>?_
  low:=fun x hx=>h.low x (hown hx)
  nm:=fun g hg=>?_},⟨fun _ h=>h,fun _ _ _=>rfl,fun _ _ h=>hown h⟩⟩
 ·obtain⟨d0,h1,h2⟩:=qp htm _ (Xh hd)
  obtain⟨u,hu,hr⟩:=h.fr t d0 h1
  exact⟨u,hu,h2 _ _ _ hr⟩
 ·obtain⟨i1,k1,o1,a1,a2,a3,_⟩:=nF hks hls h1
  obtain⟨i2,k2,o2,c1,c2,c3,_⟩:=nF hks hls h2
  refine h.inj k1 k2 g g' o1 o2 (fun e=>hkk ?_) a3 c3
  subst e
  have:=g6 hnd a1 c1
  subst this
  rw[a2]at c2;cases c2;rfl
 ·rcases h.nm g hg with h1|⟨j,hj,_⟩
  ·exact .inl (Ug h1 hnx)
  ·rw[hus]at hj;cases hj

theorem AWP.loop {c:Code}{s:AS}{K:AX→AS→Prop}(I:AS→Prop)(μ:AS→Nat)(h0:∃s',Le s s'∧I s')
  (round:∀s,I s→s.us=[]→AWP P rd nt xn c s fun e s'=>match e with
   | .normal=>∃s'',Le s' s''∧I s''∧μ s''<μ s
   |e=>K e s'):AWP P rd nt xn (.loop c) s K:=by
 refine⟨fun F n cx E0 a w0 Q hF hro hn hu hs hQ=>?_⟩
 have key:∀m s2 E a w,μ s2<m→I s2→s2.us=[]→SR cx E s2 a w→StpX cx.xn E0 E w0 w→Mut s s2 E0 E w0 w→Xu F n P c Q m a w:=by
  intro m
  induction m with
  |zero=>intro s E a w h;omega
  |succ m ih=>
   intro s2 E a w hm hI hu hs hst hmut
   rw[roundsIn_succ]
   refine(round s2 hI hu).run F n cx E a w _ hF hro hn hu hs fun e s' E' a' w' hK hu' hs' hst' hmut'=>?_
   have hst2:=hst.trans hst'
   have hmut2:=hmut.trans hmut' hst.size
   cases e with
   |normal=>
    obtain⟨s'',hle,hI',hlt⟩:=hK
    obtain⟨q1,q2⟩:=hs'.le hle
    exact ih s'' E' a' w' (by omega) hI' hle.us q1 hst2 (hmut2.trans q2 hst2.size)
   |exit id=>exact hQ (.exit id) s' E' a' w' hK hu' hs' hst2 hmut2
   |ret=>exact hQ .ret s' E' a' w' hK hu' hs' hst2 hmut2
 obtain⟨s',hle,hI⟩:=h0
 obtain⟨q1,q2⟩:=hs.le hle
 exact wpIn_loop_rounds (μ s'+1) (key _ s' E0 a w0 (by omega) hI hle.us q1 ((Stp.refl E0 w0).x _) q2)
end
end Go.Vx

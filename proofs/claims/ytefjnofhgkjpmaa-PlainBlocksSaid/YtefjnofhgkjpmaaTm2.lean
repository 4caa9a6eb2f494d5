/- Part 2. -/
import Derived.Test.YtefjnofhgkjpmaaTm1
import Derived.Deep.AppendSrc
import Derived.Deep.Upon
import Derived.Laws.IdiomCopy
import Derived.LoopNIn
import Derived.RangeFuncCalls
set_option linter.unusedVariables false
set_option linter.unusedSimpArgs false
set_option maxRecDepth 100000
set_option maxHeartbeats 4000000
open Array renaming ext' → Vl, foldl_toList → Yg, getElem?_eq_getElem → Va, getElem?_modify → WN, getElem?_setIfInBounds_ne → U7, getElem?_setIfInBounds_self_of_lt → Wo, getElem?_toList → Wi, length_toList → W9, range → Xs, toArray_toList → U0, toList_map → VH
open Bool renaming and_eq_true → Tw, false_eq_true → Vh, false_or → Yd, not_eq_true' → VC, or_eq_false_iff → Wt, or_eq_true → VF
open Go.Addr renaming add_mid → U8
open Go.Builtin renaming append_ → WB, firstCells → WD, nextslicecap → VP, zeroCells → VS
open Go.Deferred renaming ofValue → Ww
open Go.Fence renaming wide → Y1
open Go.Instr renaming buildSlice → Xw, fill → Yf, makeSlice → XI, typeAssert → YC
open Go.IntKind renaming wrap_i64 → YB
open Go.IntWalk renaming i64_in → XW
open Go.Oper renaming semAt_eq → Wz
open Go.Result renaming andThen_ok → TE
open Go.RowKit.Below renaming heap_alloc → Vk
open Go.Sem renaming run → WX, run_bind → TS, run_ite → V0, run_pure → TV
open Go.Src renaming ofNil → Y5
open Go.Value renaming int → UE
open Go.Vx.Tr renaming of_set → UX, okK → XX
open Inhabited renaming default → mb
open Int renaming eq_ofNat_of_zero_le → UI, le_of_lt → Yo, natCast_mul → YS, toNat_natCast → Vf
open List renaming append_assoc → TG, drop_zero → U4, eq_nil_of_length_eq_zero → Ua, ext_getElem? → Uu, foldl_cons → W5, getD_eq_getElem?_getD → To, getElem?_append_left → TQ, getElem?_append_right → TO, getElem?_cons_succ → Vg, getElem?_cons_zero → V9, getElem?_eq_getElem → Ts, getElem?_eq_none → TY, getElem?_map → TN, getElem?_of_mem → Ux, getElem?_take → Un, getElem_mem → Uo, length → Xr, length_append → Tt, length_cons → T3, length_drop → Ul, length_nil → Vj, length_take → TR, mapM_cons → XV, map_cons → Vq, mem_cons_of_mem → TU, mem_cons_self → TP, mem_map → WI, mem_of_getElem? → UB, mem_of_mem_drop → Wp, mem_of_mem_take → U1, range → Uv, replicate → TK, take_length → Uy
open Nat renaming add_mul → UN, add_zero → VD, beq → Tx, beq_refl → Uz, ble → Tz, ble_eq_true_of_le → Tv, blt → VL, eq_of_beq_eq_true → TB, eq_zero_or_pos → VI, le_mul_of_pos_right → WH, le_of_ble_eq_true → TC, le_refl → TD, le_trans → T6, lt_of_lt_of_le → Ug, lt_or_ge → T5, lt_trichotomy → VR, min → UW, min_le_left → YT, mod_lt → Xk, mul_assoc → UU, mul_le_mul_right → Ur, mul_one → TZ, not_lt_zero → UR, sub_self → UJ, succ_le_succ → Vy, zero_add → T0, zero_le → T7, zero_mul → Vd
open Option renaming map_eq_some_iff → UG, map_some → WA
namespace Go.Vx
open Go.RowKit Go.Bw
section
variable {P:Program} {cx:Cx} {E:Env} {s:AS} {a:Act} {w:World} {i:Nat} {o:Oper} {T:TT}

theorem Stp.drew (E:Env)(w:World):Stp E E w w.drew:=⟨fun _ h=>h,fun _ _=>rfl,TD _,fun _ _ h=>⟨h,rfl⟩,fun _ _=>rfl⟩
theorem OB.drew {g:Nat}{k:Ob}(h:OB E w g k)(hown:∀b,E.φ g=some b→E.own b):OB E w.drew g k:=h.step (Stp.drew E w) fun b hb=>⟨hown b hb,rfl⟩
theorem SR.drew (h:SR cx E s a w):SR cx E s a w.drew:=
 {h with
  fr:=fun t d hd=>by obtain⟨u,hu,hr⟩:=h.fr t d hd;exact⟨u,hu,hr.step (Stp.drew E w)⟩
  hp:=fun k g b hk=>OB.drew (k:=.b b) (h.hp k g b hk) fun x hx=>h.own_of ⟨k,g,_,AS.at_iff.1 hk,hx⟩
  lp:=fun k g b hk=>OB.drew (k:=.l b) (h.lp k g b hk) fun x hx=>h.own_of ⟨k,g,_,AS.lat_iff.1 hk,hx⟩
  df:=h.df
  bel:=h.bel.trans (Fr.drew _ w)
  szB:=h.szB}

theorem SR.kill (h:SR cx E s a w)(k:Nat):SR cx ⟨E.φ,et E {s with hp:=s.hp.set k none} E.φ,E.nm⟩ {s with hp:=s.hp.set k none} a w∧Stp E ⟨E.φ,et E {s with hp:=s.hp.set k none} E.φ,E.nm⟩ w w:=by
 have sub:∀{k' g' o'},AS.gat {s with hp:=s.hp.set k none} k'=some (g',o')→s.gat k'=some (g',o'):=fun{k' g' o'} hk=>by
  rcases UX hk with⟨_,hv⟩|⟨_,hk⟩
  ·cases hv
  ·exact hk
 have hs:Stp E ⟨E.φ,et E {s with hp:=s.hp.set k none} E.φ,E.nm⟩ w w:=⟨fun _ h=>h,fun _ _=>rfl,TD _,fun b _ ho=>⟨fun hh=>hh.elim ho fun⟨k',g',b',hk,hx⟩=>ho (h.own_of ⟨k',g',b',sub hk,hx⟩),rfl⟩,fun _ _=>rfl⟩
 have hold:∀{k' g' o'},AS.gat {s with hp:=s.hp.set k none} k'=some (g',o')→OB ⟨E.φ,et E {s with hp:=s.hp.set k none} E.φ,E.nm⟩ w g' o':=fun{k' g' o'} hk=>(h.ob (sub hk)).step hs fun x hx=>⟨.inr ⟨k',g',o',hk,hx⟩,rfl⟩
 refine⟨h.turn _ _ rfl hs (fun k' g' b' hk=>hold (AS.at_iff.1 hk)) (fun k' g' b' hk=>hold (AS.lat_iff.1 hk)) (fun k1 k2 g1 g2 b1 b2 hkk h1 h2 x hx1=>h.inj k1 k2 g1 g2 b1 b2 hkk (sub h1) (sub h2) x hx1)
  (fun x ⟨k',g',b',hk,hx⟩=>h.low x ⟨k',g',b',sub hk,hx⟩) (Fr.refl _ _) h.nm (fun _ _ _=>rfl),hs⟩

theorem SR.rename {w':World}(h:SR cx E s a w){g ky k i:Nat}(hi:i∉s.us)(hg:s.nx+8*i≤g∧g<s.nx+8*i+8)(bo:Option Nat)(hbo:∀b,bo=some b→∃g0 blk0,s.at k=some (g0,blk0)∧E.φ g0=some b)
  (nb:Blk) (hgr:w.grownBy w' bo) (hz:w'.heap.size=w.heap.size) (hshape:∀b,b<w.heap.size→w'.shape? b=w.shape? b)
  (hnb:match bo with|none=>nb.cells=[]∧nb.row=true|some b=>∃(cur:Array Value) (fr:Nat×Nat),w'.heap[b]? =some (.cells cur nb.elem fr)∧gS fr cur.size∧nb.cells.length≤cur.size∧(nb.row=false→cur.size=nb.cells.length)∧
   (∀(j:Nat) d,nb.cells[j]? =some d→∃u,cur[j]? =some u∧u.oneCell'=true∧RD E w d u)):
  let s':AS:={s with hp:=(s.hp.set k none).set ky (some (g,.b nb)),us:=i::s.us}
  SR cx (E.add s' g bo) s' a w'∧Stp E (E.add s' g bo) w w'∧(E.add s' g bo).nm g∧(E.add s' g bo).φ g=bo∧Mut s s' E (E.add s' g bo) w w':=by
 intro s'
 have hfr:¬E.nm g:=fun hn=>by
  rcases h.nm g hn with h1|⟨j,hj,h1,h2⟩
  ·omega
  ·have:j=i:=by omega
   subst this;exact hi hj
 have hne:∀{k g' o},s.gat k=some (g',o)→g'≠g:=fun hk e=>by subst e;exact hfr (h.ob hk).nm
 have hlt:∀{k g' o x},s.gat k=some (g',o)→E.φ g'=some x→x<w.heap.size:=fun hk hx=>(h.ob hk).lt hx
 have hsub:∀{k' g' o'},s'.gat k'=some (g',o')→(k'=ky∧g'=g∧o'= .b nb)∨(k'≠k∧k'≠ky∧s.gat k'=some (g',o')):=fun{k' g' o'} hk=>by
  rcases UX hk with⟨e,hv⟩|⟨e1,hk⟩
  ·cases hv;exact .inl ⟨e,rfl,rfl⟩
  ·rcases UX hk with⟨_,hv⟩|⟨e2,hk⟩
   ·cases hv
   ·exact .inr ⟨e2,e1,hk⟩
 have hbo':∀b,bo=some b→bG s E.φ b:=fun b hb=>by
  obtain⟨g0,blk0,h1,h2⟩:=hbo b hb
  exact⟨k,g0,.b blk0,AS.at_iff.1 h1,h2⟩
 have hbown:∀b,bo=some b→E.own b:=fun b hb=>h.own_of (hbo' b hb)
 have hs:Stp E (E.add s' g bo) w w':=by
  refine⟨fun x hx=>.inl hx,fun x hx=>bi (fun e=>by subst e;exact hfr hx),by omega,fun b hb ho=>⟨?_,hgr.block b hb (fun e=>ho (hbown b e.symm))⟩,hshape⟩
  rintro(ho'|⟨k',g',blk,hk,hx⟩)
  ·exact ho ho'
  rcases hsub hk with⟨_,e,_⟩|⟨h1,h2,h3⟩
  ·subst e;rw[bZ]at hx;exact ho (hbown b hx)
  ·rw[bi (hne h3)]at hx
   exact ho (h.own_of ⟨k',g',blk,h3,hx⟩)
 have hφg:(E.add s' g bo).φ g=bo:=bZ _ _ _
 have hmut:Mut s s' E (E.add s' g bo) w w':=⟨fun b hb=>.inl hb,fun b hb ho=>hgr.block b hb (fun e=>ho (hbo' b e.symm)),fun x hlt' ⟨k',g',blk,hk,hx⟩=>by
  have hx:At E.φ g bo g'=some x:=hx
  rcases hsub hk with⟨_,e,_⟩|⟨h1,h2,h3⟩
  ·subst e;rw[bZ]at hx;exact hbo' x hx
  ·rw[bi (hne h3)]at hx;exact⟨k',g',blk,h3,hx⟩⟩
 have hold:∀{k' g' o'},s'.gat k'=some (g',o')→OB (E.add s' g bo) w' g' o':=fun{k' g' o'} hk=>by
  rcases hsub hk with⟨rfl,rfl,rfl⟩|⟨h1,h2,h3⟩
  ·refine⟨.inr rfl,?_⟩
   show match(E.add s' g' bo).φ g' with|none=>_|some b=>_
   rw[hφg]
   cases bo with
   |none=>exact hnb
   |some b=>
    obtain⟨cur,fr,c1,c2,c3,c4,c5⟩:=hnb
    obtain⟨g0,blk0,hk0,hb0⟩:=hbo b rfl
    refine⟨.inr ⟨k',g',_,hk,hφg⟩,by rw[hz];exact hlt (AS.at_iff.1 hk0) hb0,cur,fr,c1,c2,c3,c4,fun j d hj=>?_⟩
    obtain⟨u,hu,h1,hr⟩:=c5 j d hj
    exact⟨u,hu,h1,hr.step hs⟩
  ·refine(h.ob h3).step hs fun b hb=>⟨.inr ⟨k',g',o',hk,(bi (hne h3)).trans hb⟩,hgr.block b (hlt h3 hb) (fun e=>?_)⟩
   obtain⟨g0,blk0,hk0,hb0⟩:=hbo b e.symm
   exact h.inj k' k g' g0 o' (.b blk0) h1 h3 (AS.at_iff.1 hk0) b hb hb0
 refine⟨h.turn _ _ rfl hs (fun k g' b hk=>hold (AS.at_iff.1 hk)) (fun k g' r hk=>hold (AS.lat_iff.1 hk)) ?_ ?_ ?_ ?_ hmut.heap,hs,.inr rfl,hφg,hmut⟩
 ·intro k1 k2 g1 g2 b1 b2 hkk h1 h2 x hx1 hx2
  have other:∀{k' g' o'},k'≠k→s.gat k'=some (g',o')→At E.φ g bo g'=some x→bo≠some x:=fun hk' h3 hx e=>by
   rw[bi (hne h3)]at hx
   obtain⟨g0,blk0,hk0,hb0⟩:=hbo x e
   exact h.inj _ k _ g0 _ (.b blk0) hk' h3 (AS.at_iff.1 hk0) x hx hb0
  rcases hsub h1 with⟨e1,f1,f2⟩|⟨a1,a2,a3⟩<;>rcases hsub h2 with⟨e2,e3,e4⟩|⟨c1,c2,c3⟩
  ·exact hkk (e1.trans e2.symm)
  ·subst f1
   rw[bZ]at hx1
   exact other c1 c3 hx2 hx1
  ·subst e3
   rw[bZ]at hx2
   exact other a1 a3 hx1 hx2
  ·rw[bi (hne a3)]at hx1
   rw[bi (hne c3)]at hx2
   exact h.inj k1 k2 g1 g2 b1 b2 hkk a3 c3 x hx1 hx2
 ·rintro x ⟨k',g',blk,hk,hx⟩
  have hx:At E.φ g bo g'=some x:=hx
  rcases hsub hk with⟨_,e,_⟩|⟨h1,h2,h3⟩
  ·subst e;rw[bZ]at hx;exact h.low x (hbo' x hx)
  ·rw[bi (hne h3)]at hx
   exact h.low x ⟨k',g',blk,h3,hx⟩
 ·exact Fr.of_grown hgr (fun x e=>h.low x (hbo' x e)) hs.shape
 ·rintro n (hn|rfl)
  ·rcases h.nm n hn with h1|⟨j,hj,h1⟩
   ·exact .inl h1
   ·exact .inr ⟨j,TU _ hj,h1⟩
  ·exact .inr ⟨i,TP,hg⟩

def il:TypeDesc→Bool
 | .string=>true
 |_=>false
def im (s:AS)(es:Nat)(dd:TypeDesc):D→Option (Bool×Nat×List D)
 | .sl _ n sz cells=>some (cY dd&&Tx sz es,n,cells)
 | .ref k g off n sz=>match s.at k with
  |some p=>some (cY dd&&Tx g p.1&&Tx sz es&&Tz (off+n*sz) p.2.cells.length,n,bif Tx off 0&&Tx (n*sz) p.2.cells.length then p.2.cells else(p.2.cells.drop off).take (n*sz))
  |none=>none
 | .v (.slice none 0 0)=>some (cY dd,0,[])
 | .v (.string b)=>some (il dd&&Tx es 1,b.size,b.data.toList.map dB)
 |_=>none

theorem l6 (hT:T.ok P)(h:SR cx E s a w){d:D}{u:Value}(hr:RD E w d u){es:Nat}{c:Bool}{n:Nat}{cells:List D}{tx:TypeId}{ti:TI}(hs:im s es ti.desc d=some (c,n,cells))(hc:c=true)(htx:T.get tx=some ti):
  ∃news:List Value,Src P es tx u n news w∧news.length=cells.length∧∀(j:Nat) e v,cells[j]? =some e→news[j]? =some v→RD E w e v:=by
 have hu:=(hT tx ti htx).1
 have hsl:cY ti.desc=true→∃e',P.underlying tx=some (.slice e'):=fun hk=>by
  cases hd:ti.desc<;>simp[hd,cY]at hk
  rw[hd]at hu;exact⟨_,hu⟩
 cases hr with
 |v cst h1=>
  unfold im at hs
  split at hs
  case h_3 e=>cases e;cases hs;obtain⟨e',he⟩:=hsl hc;exact⟨[],Y5 w he 0,rfl,by simp⟩
  case h_4 b e=>
   cases e;cases hs
   rw[Tw]at hc
   obtain rfl:es=1:=TB hc.2
   refine⟨byteCells b,Src.ofString w (by rw[hu];have:=hc.1;cases hd:ti.desc<;>simp[hd,il]at this;rfl) b,by simp[byteCells],fun j e v he hv=>?_⟩
   simp only[TN,UG,byteCells]at he hv
   obtain⟨x,hx,rfl⟩:=he
   obtain⟨y,hy,rfl⟩:=hv
   rw[hx]at hy;cases hy
   exact .v _ rfl
  all_goals first|(rename_i e;cases e;done)|cases hs
 |sl nn n' sz cs ad c' us hlen hd hone hn hs' hc2 hnil hr=>
  cases hs
  rw[Tw]at hc
  obtain rfl:sz=es:=TB hc.2
  obtain⟨e',he⟩:=hsl hc.1
  cases ad with
  |none=>
   obtain⟨rfl,_⟩:=hnil rfl
   obtain rfl:n=0:=by omega
   have:cells=[]:=Ua (by rw[hn];omega)
   subst this
   exact⟨[],Y5 w he 0,rfl,by simp⟩
  |some ad=>
   refine⟨us,Src.ofSlice w he ad n c' us (by rw[hlen,hn]) (fun j v hv=>?_) hone,hlen,fun j e v a1 a2=>(hd j e v a1 a2).ofCl⟩
   rcases hr with hr|⟨b,off,ha,_,_,hcell⟩
   ·subst hr
    have:us=[]:=Ua (by rw[hlen,hn];omega)
    subst this;cases hv
   ·cases ha;rw[U8];exact hcell j v hv
 |ref k g off n' sz c' b off' t m hg hb hc2 hoff hsh hm=>
  simp only[im]at hs
  cases hk:s.at k with
  |none=>rw[hk]at hs;cases hs
  |some p=>
  obtain⟨g',blk⟩:=p
  rw[hk]at hs
  have hs:=Option.some.inj hs
  injection hs with bY gd
  injection gd with gd qE
  subst bY gd qE
  simp only[Tw]at hc
  obtain⟨⟨⟨hst,hgg⟩,hsz⟩,hle⟩:=hc
  have e:g=g':=TB hgg
  subst e
  obtain rfl:sz=es:=TB hsz
  have hle:=TC hle
  obtain⟨e',he⟩:=hsl hst
  obtain⟨hlt,_,cur,fr,hcur,_,hcl,_,hcell⟩:=h.block hk hb
  have hv:Vw E w b 0 blk.cells:=fun j d hj=>by
   obtain⟨v,hv1,hv2,hv3⟩:=hcell j d hj
   exact⟨v,by rw[T0,cell_of_row w b j cur blk.elem fr hcur];exact hv1,hv2,hv3⟩
  obtain⟨us,hl,hrg,h1,hd⟩:=hv.seg hle
  rw[T0]at hrg
  have hcells:(bif Tx off 0&&Tx (n'*sz) blk.cells.length then blk.cells else(blk.cells.drop off).take (n'*sz))=(blk.cells.drop off).take (n'*sz):=by
   cases hq:(Tx off 0&&Tx (n'*sz) blk.cells.length)with
   |false=>rfl
   |true=>
    rw[Tw]at hq
    have e1:=TB hq.1
    have e2:=TB hq.2
    subst e1
    rw[cond_true,U4,e2,Uy]
  rw[hcells]
  refine⟨us,Src.ofSlice w he _ n' c' us hl (fun j v hj=>?_) h1,by rw[hl,TR,Ul];omega,hd⟩
  rw[U8]
  rcases hoff with rfl|⟨rfl,rfl⟩
  ·exact hrg j v hj
  ·rw[Vd]at hl
   have:=(List.getElem?_eq_some_iff.1 hj).1
   omega
 |refn k g sz hg hb=>
  simp only[im]at hs
  cases hk:s.at k with
  |none=>rw[hk]at hs;cases hs
  |some p=>
  obtain⟨g',blk⟩:=p
  rw[hk]at hs
  have hs:=Option.some.inj hs
  injection hs with bY gd
  injection gd with gd qE
  subst bY gd qE
  simp only[Tw]at hc
  obtain⟨⟨⟨hst,hgg⟩,hsz⟩,hle⟩:=hc
  have e:g=g':=TB hgg
  subst e
  obtain⟨e',he⟩:=hsl hst
  have:=(h.hp k g blk hk).2
  rw[hb]at this
  have hnil:(bif Tx 0 0&&Tx (0*sz) blk.cells.length then blk.cells else(blk.cells.drop 0).take (0*sz))=[]:=by
   rw[this.1];simp
  rw[hnil]
  exact⟨[],Y5 w he 0,rfl,by simp⟩
 |_=>cases hs

def v4 (s:AS)(e:TypeId)(es:Nat):D→Option (Bool×Option Nat×Nat×List D)
 | .ref k g off n sz=>match s.at k with
  |some p=>some (Tx g p.1&&Tx sz es&&Tx off 0&&Tx (n*es) p.2.cells.length&&Tx p.2.elem e,some k,n,p.2.cells)
  |none=>none
 | .v (.slice none 0 0)=>some (true,none,0,[])
 |_=>none

def SB (k?:Option Nat)(m n:Nat):Nat:=match k? with|none=>n|some _=>m+n
def SC (k?:Option Nat)(olds news:List D):List D:=match k? with|none=>news|some _=>olds++news
def kU (T:TT)(s:AS)(nm ky:Nat)(ts:Array TypeId)(xs:Array Operand):Ev:=
 match ts.toList,xs.toList with
 |[t,tx],[x,y]=>match T.get t,T.get tx,ft s x,ft s y with
  |some ⟨.slice e,_,_,_,_⟩,some ti,some dx,some dy=>match T.get e with
   |some ei=>match v4 s e ei.size dx,im s ei.size ti.desc dy with
    |some (c1,k?,m,olds),some (c2,n,news)=>
     .cond (c1&&c2&&decide (0<ei.size)&&decide (0<ei.bytes)&&Tz ((m+n)*ei.bytes) 140737488355328)
      (.ok (some (.ref ky nm 0 (SB k? m n) ei.size)) ((ky,some (nm,.b ⟨SC k? olds news,e,true⟩))::(match k? with|some k=>[(k,none)]|none=>[(ky,none)])))
    |_,_=>.stuck
   |none=>.stuck
  |_,_,_,_=>.stuck
 |_,_=>.stuck

theorem xz {olds news:List D}{us vs:List Value}(h1:us.length=olds.length)(h2:vs.length=news.length){E:Env}{w:World}(a1:∀(j:Nat) e v,olds[j]? =some e→us[j]? =some v→RD E w e v)(a2:∀(j:Nat) e v,news[j]? =some e→vs[j]? =some v→RD E w e v)
  (o1:∀u∈us,u.oneCell'=true) (o2:∀u∈vs,u.oneCell'=true) (rest:List Value):∀(j:Nat) d,(olds++news)[j]? =some d→∃u,(us++vs++rest)[j]? =some u∧u.oneCell'=true∧RD E w d u:=by
 intro j d hj
 by_cases hlt:j<olds.length
 ·rw[TQ hlt]at hj
  have hu:j<us.length:=by omega
  exact⟨us[j],by rw[TG,TQ hu];simp[hu],o1 _ (Uo hu),a1 j d _ hj (by simp[hu])⟩
 ·rw[TO (by omega)]at hj
  have hlt2:=(List.getElem?_eq_some_iff.1 hj).1
  have hu:j-us.length<vs.length:=by omega
  refine⟨vs[j-us.length],?_,o2 _ (Uo hu),a2 _ d _ hj (by rw[←h1];simp[hu])⟩
  rw[TG,TO (by omega),TQ hu];simp[hu]

theorem rD (hT:T.ok P)(h:SR cx E s a w)(hi:i∉s.us){nm ky:Nat}(hg:s.nx+8*i≤nm∧nm<s.nx+8*i+8){c:Call}(ho:o.op= .call c)(hc:c.callee= .builtin .append){v:Option D}{up:Up}(he:(kU T s nm ky c.argTypes c.args).run v up):
  ce P cx E s a w i o v up:=by
 unfold kU at he
 split at he
 case h_2=>exact he.elim
 case h_1 t tx x y hts hxs=>
 split at he
 case h_2=>exact he.elim
 case h_1 e z1 z2 z3 z4 ti dx dy hti htx hx hy=>
 split at he
 case h_2=>exact he.elim
 case h_1 ei hei=>
 split at he
 case h_2=>exact he.elim
 case h_1 c1 k? m olds c2 n news hdst hsrc=>
 obtain⟨hcond,rfl,rfl⟩:=he
 simp only[Tw,decide_eq_true_eq]at hcond
 obtain⟨⟨⟨⟨hc1,hc2⟩,hsz0⟩,hby0⟩,hfit⟩:=hcond
 have hfit:=TC hfit
 have e1:c.argTypes= #[t,tx]:=by apply Vl;simpa using hts
 have e2:c.args.map a.eval= #[a.eval x,a.eval y]:=by apply Vl;rw[VH,hxs];rfl
 have run0:∀{u:Value} {w':World},(WB #[t,tx] o.type #[a.eval x,a.eval y]).run P w= .ok u w'→(execOp a.eval o).run P w= .ok (.value u) w':=fun hu=>by
  unfold execOp
  simp only[ho,resolve,hc,TS,TV,TE,invoke,builtin,e1,e2,hu]
 have hrx:=h.eval hx
 have hry:=h.eval hy
 generalize hux:a.eval x=ux at hrx run0
 generalize huy:a.eval y=uy at hry run0
 obtain⟨hu1,hzl,⟨j0,hj1,hj2,hj3,hj4⟩,_⟩:=hT e ei hei
 have hu0:=(hT t _ hti).1
 obtain⟨vs,hS,hvl,hvd⟩:=l6 hT h hry hsrc hc2 htx
 have hS':Src P j0.size tx uy n vs w:=by rw[hj3];exact hS
 have hmax:m+n≤fY:=by
  have:m+n≤(m+n)*ei.bytes:=WH _ hby0
  unfold fY;omega
 have hgrow:∀cap,cap<m+n→VP (m+n) cap*j0.bytes≤281474976710656:=fun cap hcap=>by
  rw[hj4]
  have h1:=nextslicecap_le (need:=m+n) (old:=cap) hcap
  have h2:VP (m+n) cap*ei.bytes≤2*(m+n)*ei.bytes:=Ur _ h1
  rw[UU]at h2
  omega
 have hcap:=grownCap_ge w (m+n)
 have hcapm:=fun cap=>grownCap_le_maxLen w (m+n) cap e (by unfold maxLen;unfold fY at hmax;omega)
 -- a new row,whatever stood there
 have grows:∀(base:Option Addr) (cap:Nat) (k:Nat) (us:List Value),ux= .slice base m cap→cap<m+n→us.length=olds.length→us.length=m*ei.size→(∀(j:Nat) e v,olds[j]? =some e→us[j]? =some v→RD E w e v)→(∀u∈us,u.oneCell'=true)→
   (WD j0.size m (.slice base m cap)).run P w.drew= .ok us.toArray w.drew→
   ce P cx E s a w i o (some (.ref ky nm 0 (m+n) ei.size)) [(ky,some (nm,.b ⟨olds++news,e,true⟩)),(k,none)]:=by
  intro base cap k us hbase hlt hul hum hud huo hfc
  subst hbase
  have hr:=run_append_grow_src (P:=P) w t tx o.type e j0 ei.zero (by rw[hu0]) hj1 hj2 base m cap us hfc uy n vs hS' hlt (by unfold fY at hmax;omega) (hgrow cap hlt)
  obtain⟨k1,k2⟩:=h.kill k
  have k1':=k1.drew
  obtain⟨q1,q2,q3,q4,q5⟩:=k1'.new (ky:=ky) hi hg e (olds++news) (us++vs++(VS ei.zero.cells (grownCap w (m+n) cap e-(m+n))).toList) true (0,0) (gS.zero _) (by simp[hul,hvl]) (fun hh=>by cases hh)
   (fun j d hj=>by
    obtain⟨u,a1,a2,a3⟩:=xz (E:=E) (w:=w) hul hvl hud hvd huo hS.one _ j d hj
    exact⟨u,a1,a2,(a3.step k2).step (Stp.drew _ w)⟩)
  refine⟨_,_,(k2.trans (Stp.drew _ w)).trans q2,q1,⟨fun b hb=>q5.own b (.inl hb),fun b hb _=>Vk w.drew _ b hb,fun x hx hw=>?_⟩,.slice (some ⟨w.heap.size,0,none⟩) (m+n) (grownCap w (m+n) cap e),?_,?_⟩
  ·obtain⟨k',g',blk',hk',hx'⟩:=q5.old x hx hw
   rcases UX hk' with⟨_,hv⟩|⟨_,hk'⟩
   ·cases hv
   ·exact⟨k',g',blk',hk',hx'⟩
  ·rw[run0 hr]
   congr 2
   simp
  ·have hc2:=hcap cap e
   have hc3:=hcapm cap
   refine .ref ky nm 0 (m+n) ei.size _ w.heap.size 0 e _ q3 q4 ⟨hc2,by unfold maxLen at hc3;unfold fY;omega⟩ (.inl rfl) (aN (b9 w.drew _)) ?_
   simp[VS,hum,hS.newsLen,hzl]
   rw[←UN,←UN]
   exact Ur _ (by omega)
 -- nothing stood there
 have nils:∀k,ux= .slice none 0 0→m=0→olds=[]→ce P cx E s a w i o (some (.ref ky nm 0 (m+n) ei.size)) [(ky,some (nm,.b ⟨olds++news,e,true⟩)),(k,none)]:=by
  intro k hux0 hm0 ho0
  subst hm0 ho0
  rcases VI n with hn0|hn0
  ·subst hn0
   have hvs:vs=[]:=Ua (by rw[hS.newsLen];omega)
   have hnews:news=[]:=Ua (by rw[←hvl,hvs];rfl)
   subst hnews hvs hux0
   have hr:=run_append_nothing (P:=P) w t tx o.type e j0 (by rw[hu0]) hj1 none 0 0 (TD _) uy hS'
   obtain⟨q1,q2,q3,q4,q5⟩:=h.rename (ky:=ky) (k:=k) hi hg none (fun b hb=>by cases hb) ⟨[],e,true⟩ (vx _ _) rfl (fun _ _=>rfl) ⟨rfl,rfl⟩
   exact⟨_,_,q2,q1,q5,_,run0 hr,.refn ky nm ei.size q3 q4⟩
  ·exact grows none 0 k [] hux0 (by omega) rfl (by simp) (by simp) (by simp) (run_firstCells_none w.drew _ _ _ _)
 cases hrx with
 |v cst h1=>
  unfold v4 at hdst
  split at hdst
  case h_2 e1=>
   cases e1;cases hdst
   have hh:=nils ky rfl rfl rfl
   rw[T0]at hh
   exact hh
  all_goals first|(rename_i e1;cases e1;done)|cases hdst
 |ref k g off n' sz c' b off' tt mm hg' hb hc3 hoff hsh hmm=>
  simp only[v4]at hdst
  cases hk:s.at k with
  |none=>rw[hk]at hdst;cases hdst
  |some p=>
  obtain⟨g',blk⟩:=p
  rw[hk]at hdst
  have hs:=Option.some.inj hdst
  injection hs with bY gd
  injection gd with gd qE
  injection qE with qE GO
  subst bY gd qE GO
  simp only[Tw]at hc1
  obtain⟨⟨⟨⟨hgg,hsz⟩,hof⟩,hlen⟩,hel⟩:=hc1
  obtain rfl:g=g':=TB hgg
  obtain rfl:sz=ei.size:=TB hsz
  obtain rfl:off=0:=TB hof
  have hlen:=TB hlen
  have hel:blk.elem=e:=TB hel
  obtain⟨hlt,hown,cur,fr,hcur,hfz,hcl,_,hcell⟩:=h.block hk hb
  have hshm:mm=cur.size:=by rw[aN hcur]at hsh;cases hsh;rfl
  by_cases hroom:n'+n≤c'
  ·-- there is room
   have hcells:∀j,j<vs.length→(off'+n'*j0.size+j)<cur.size:=fun j hj=>by
    rw[hS'.newsLen]at hj
    have h1:n'*j0.size+n*j0.size≤c'*ei.size:=by rw[hj3,←UN];exact Ur _ hroom
    omega
   have hr:=run_append_room_src (P:=P) w t tx o.type e j0 (by rw[hu0]) hj1 b off' n' c' uy n vs hS' hroom
    (fun j hj=>by rw[cell_of_row w b _ cur blk.elem fr hcur,Va (hcells j hj)];rfl) (fun j hj=>jF w b _ cur blk.elem fr hcur hfz (hcells j hj))
   have hoff0:off'=0∨(n'=0∧n=0):=by
    rcases hoff with h1|⟨h1,h2⟩
    ·exact .inl h1
    ·exact .inr ⟨h1,by omega⟩
   have hvlen:vs.length=n*ei.size:=by rw[hS.newsLen]
   have hfitc:off'+n'*j0.size+vs.length≤cur.size:=by
    rw[hvlen,hj3]
    have h1:n'*ei.size+n*ei.size≤c'*ei.size:=by rw[←UN];exact Ur _ hroom
    omega
   obtain⟨cur',hcur',hsz',hget'⟩:=fO w b (off'+n'*j0.size) cur blk.elem fr vs hcur hfitc
   obtain⟨hgr,hz⟩:=dm b vs (off'+n'*j0.size) w
   obtain⟨q1,q2,q3,q4,q5⟩:=h.rename (ky:=ky) (k:=k) hi hg (some b) (fun b' hb'=>by cases hb';exact⟨g,blk,hk,hb⟩) ⟨blk.cells++news,e,true⟩ hgr hz
    (fun x hx=>by
     by_cases e1:x=b
     ·subst e1;rw[aN hcur,aN hcur',hsz']
     ·exact cI (hgr.block x hx (fun e2=>by cases e2;exact e1 rfl)))
    ⟨cur',fr,by rw[←hel];exact hcur',by rw[hsz'];exact hfz,by
     rw[Tt,←hvl,←hlen,hvlen,hsz',←hshm,←UN]
     exact T6 (Ur _ hroom) (by omega),(fun hh=>by cases hh),fun j d hj=>by
     rcases T5 j blk.cells.length with hjl|hjl
     ·rw[TQ hjl]at hj
      obtain⟨u,h1,h2,h3⟩:=hcell j d hj
      refine⟨u,?_,h2,h3⟩
      rw[hget',if_neg (fun hh=>?_)]
      ·exact h1
      ·rcases hoff0 with h0|⟨h0,h0'⟩
       ·rw[hj3]at hh;omega
       ·rw[hvlen,h0',Vd]at hh;omega
     ·rw[TO hjl]at hj
      have hjn:=(List.getElem?_eq_some_iff.1 hj).1
      have hjv:j-blk.cells.length<vs.length:=by omega
      have h0:off'=0:=by
       rcases hoff0 with h0|⟨h0,h0'⟩
       ·exact h0
       ·rw[hvlen,h0',Vd]at hjv;omega
      refine⟨vs[j-blk.cells.length],?_,hS.one _ (Uo hjv),hvd _ d _ hj (by simp[hjv])⟩
      rw[hget',if_pos (by rw[hj3];omega)]
      have:j-(off'+n'*j0.size)=j-blk.cells.length:=by rw[hj3];omega
      rw[this];simp[hjv]⟩
   refine⟨_,_,q2,q1,q5,_,run0 hr,.ref ky nm 0 (n'+n) ei.size c' b off' blk.elem cur.size q3 q4 ⟨hroom,hc3.2⟩ ?_ ?_ (by omega)⟩
   ·rcases hoff with h1|⟨h1,h2⟩
    ·exact .inl h1
    ·exact .inr ⟨by omega,h2⟩
   ·rw[aN hcur',hsz']
  ·-- there is none
   have hv:Vw E w b 0 blk.cells:=fun j d hj=>by
    obtain⟨v,hv1,hv2,hv3⟩:=hcell j d hj
    exact⟨v,by rw[T0,cell_of_row w b j cur blk.elem fr hcur];exact hv1,hv2,hv3⟩
   obtain⟨us,hl,hrg,h1,hd⟩:=hv.seg (off:=0) (m:=blk.cells.length) (by omega)
   refine grows (some ⟨b,off',none⟩) c' k us rfl (by omega) hl (by rw[hl,hlen]) (fun j d v hj hv'=>hd j d v (by rw[U4,Uy];exact hj) hv') h1 ?_
   refine run_firstCells_some w.drew _ _ _ _ _ us (by rw[hl,hj3,hlen]) (fun j v hj=>?_)
   rw[U8]
   rcases hoff with rfl|⟨h0,h0'⟩
   ·exact hrg j v hj
   ·have:=(List.getElem?_eq_some_iff.1 hj).1
    rw[hl,←hlen,h0,Vd]at this;omega
 |refn k g sz hg' hb=>
  simp only[v4]at hdst
  cases hk:s.at k with
  |none=>rw[hk]at hdst;cases hdst
  |some p=>
  obtain⟨g',blk⟩:=p
  rw[hk]at hdst
  have hs:=Option.some.inj hdst
  injection hs with bY gd
  injection gd with gd qE
  injection qE with qE GO
  subst bY gd qE GO
  simp only[Tw]at hc1
  obtain⟨⟨⟨⟨hgg,hsz⟩,hof⟩,hlen⟩,hel⟩:=hc1
  obtain rfl:g=g':=TB hgg
  have:=(h.hp k g blk hk).2
  rw[hb]at this
  exact nils k rfl rfl this.1
 |_=>cases hdst
end
end Go.Vx
namespace Go.Vx
open Go.RowKit Go.Bw
section
variable {P:Program} {cx:Cx} {E:Env} {s:AS} {a:Act} {w:World} {i:Nat} {o:Oper} {T:TT}

def zw:TypeDesc→Bool
 | .int .u8=>true
 |_=>false
theorem rE {d:TypeDesc}(h:zw d=true):d= .int .u8:=by
 unfold zw at h;split at h
 ·rfl
 ·cases h
theorem pX {d:TypeDesc}(h:il d=true):d= .string:=by cases d<;>simp[il]at h;rfl

def xA (T:TT)(s:AS)(src dst:TypeId)(x:Operand):Ev:=
 match T.get src,T.get dst,ft s x with
 |some ⟨.slice e,z1,z2,z3,z4⟩,some td,some d=>match T.get e,im s 1 (.slice e) d with
  |some ei,some (c,_,cells)=>.cond (c&&zw ei.desc&&il td.desc) (.bytes cells fun bs=>.ok (some (.v (.string ⟨bs.toArray⟩))) [])
  |_,_=>.stuck
 |_,_,_=>.stuck

theorem zx (hT:T.ok P)(h:SR cx E s a w){src dst:TypeId}{x:Operand}(ho:o.op= .convert src dst x){v:Option D}{up:Up}(he:(xA T s src dst x).run v up):ce P cx E s a w i o v up:=by
 unfold xA at he
 split at he
 case h_2=>exact he.elim
 case h_1 e z1 z2 z3 z4 td d hsrc hdst hx=>
 split at he
 case h_2=>exact he.elim
 case h_1 ei c n cells hei hs=>
 obtain⟨hc,bs,rfl,rfl,rfl⟩:=he
 simp only[Tw]at hc
 obtain⟨⟨hc1,hc2⟩,hc3⟩:=hc
 have hr:=h.eval hx
 generalize hux:a.eval x=u at hr
 obtain⟨news,hS,hl,hd⟩:=l6 hT h hr (ti:=⟨.slice e,z1,z2,z3,z4⟩) hs hc1 hsrc
 have hnews:news=(bs.map fun b=>((b.toNat:Nat):Int)).map (UE .u8):=by
  apply Uu
  intro j
  rcases T5 j bs.length with hj|hj
  ·have hj2:j<news.length:=by rw[hl];simpa using hj
   have:=hd j (dB bs[j]) news[j] (by simp[hj]) (by simp[hj2])
   generalize hq:news[j]=q at this
   cases this
   simp[hj,hj2,hq]
  ·rw[TY (by rw[hl];simpa using hj),TY (by simpa using hj)]
 have hu1:=(hT src _ hsrc).1
 have hu2:=(hT dst _ hdst).1
 have hu3:=(hT e _ hei).1
 rw[rE hc2]at hu3
 rw[pX hc3]at hu2
 have hlen:news.length=bs.length:=by rw[hl];simp
 have hn:n=bs.length:=by rw[←hlen,hS.newsLen,TZ]
 have hsl:∃ad c',u= .slice ad n c':=by
  cases hr with
  |v cst h1=>
   unfold im at hs
   split at hs
   case h_3 e1=>cases e1;simp only[Option.some.injEq,Prod.mk.injEq]at hs;obtain⟨_,rfl,_⟩:=hs;exact⟨none,0,rfl⟩
   case h_4 e1=>cases e1;simp only[Option.some.injEq,Prod.mk.injEq]at hs;obtain⟨h0,_⟩:=hs;rw[←h0]at hc1;simp[il]at hc1
   all_goals first|(rename_i e1;cases e1;done)|cases hs
  |sl=>simp only[im,Option.some.injEq,Prod.mk.injEq]at hs;obtain⟨_,rfl,_⟩:=hs;exact⟨_,_,rfl⟩
  |ref k g off n' sz c' b off' t m hg hb hc2 hoff hsh hm=>
   simp only[im]at hs
   cases hk:s.at k<;>rw[hk]at hs<;>simp only[Option.some.injEq,Prod.mk.injEq,reduceCtorEq]at hs
   obtain⟨_,rfl,_⟩:=hs;exact⟨_,_,rfl⟩
  |refn k g sz hg hb=>
   simp only[im]at hs
   cases hk:s.at k<;>rw[hk]at hs<;>simp only[Option.some.injEq,Prod.mk.injEq,reduceCtorEq]at hs
   obtain⟨_,rfl,_⟩:=hs;exact⟨_,_,rfl⟩
  |_=>cases hs
 obtain⟨ad,c',rfl⟩:=hsl
 refine .pure h ?_ (.v _ rfl)
 have hconv:(convert src dst (.slice ad n c')).run P w= .ok (.string ⟨bs.toArray⟩) w:=by
  rw[run_convert_bytes_string w src dst e ad _ _ hu1 hu3 hu2]
  have hfc:=hS.cells
  cases ad with
  |none=>
   have h0:news.toArray= #[]:=by
    have:=hfc
    rw[run_firstCells_none]at this
    cases this;rfl
   have:bs=[]:=Ua (by rw[←hlen];simpa using congrArg Array.size h0)
   subst this;rfl
  |some ad=>
   have hl:(loadCells ad n).run P w= .ok ((bs.map fun b=>((b.toNat:Nat):Int)).map (UE .u8)).toArray w:=by
    rw[←hnews,←hfc];simp[WD]
   rw[run_bytesToString w ad _ _ _ hl,vy]
   simp
 unfold execOp
 simp only[ho,hux,TS,hconv,TE,TV]

def xB (T:TT)(s:AS)(nm ky:Nat)(src dst:TypeId)(x:Operand):Ev:=
 match T.get src,T.get dst,ft s x with
 |some ts,some ⟨.slice e,_,_,_,_⟩,some (.v (.string b))=>match T.get e with
  |some ei=>.cond (il ts.desc&&zw ei.desc&&Tz b.size fY) (.ok (some (.ref ky nm 0 b.size 1)) [(ky,some (nm,.b ⟨b.data.toList.map dB,e,true⟩))])
  |none=>.stuck
 |_,_,_=>.stuck
theorem zy (hT:T.ok P)(h:SR cx E s a w)(hi:i∉s.us){nm ky:Nat}(hg:s.nx+8*i≤nm∧nm<s.nx+8*i+8){src dst:TypeId}{x:Operand}(ho:o.op= .convert src dst x){v:Option D}{up:Up}(he:(xB T s nm ky src dst x).run v up):
  ce P cx E s a w i o v up:=by
 unfold xB at he
 split at he
 case h_2=>exact he.elim
 case h_1 ts e z1 z2 z3 z4 b hsrc hdst hx=>
 split at he
 case h_2=>exact he.elim
 case h_1 ei hei=>
 obtain⟨hc,rfl,rfl⟩:=he
 simp only[Tw]at hc
 obtain⟨⟨hc1,hc2⟩,hc3⟩:=hc
 have hc3:=TC hc3
 have hu1:=(hT src _ hsrc).1
 have hu2:=(hT dst _ hdst).1
 have hu3:=(hT e _ hei).1
 rw[rE hc2]at hu3
 rw[pX hc1]at hu1
 have hr:=h.eval hx
 generalize hux:a.eval x=u at hr
 cases hr
 have hrun:=run_bytes_of_string (P:=P) w src dst e b hu1 hu2 hu3
 have hcg:=grownCap_ge w b.size 0 e
 have hcm:=grownCap_le_maxLen w b.size 0 e (by unfold maxLen;unfold fY at hc3;omega)
 have hrow:(bytesRow b (grownCap w b.size 0 e)).toList=byteCells b++TK (grownCap w b.size 0 e-b.size) (.int .u8 0):=by
  simp[bytesRow,byteCells]
 have hsz:(bytesRow b (grownCap w b.size 0 e)).size=grownCap w b.size 0 e:=by
  have:=congrArg Xr hrow
  simp[byteCells_length]at this
  omega
 obtain⟨q1,q2,q3,q4,q5⟩:=h.drew.new (ky:=ky) hi hg e (b.data.toList.map dB) (bytesRow b (grownCap w b.size 0 e)).toList true ((bytesRow b (grownCap w b.size 0 e)).size,(bytesRow b (grownCap w b.size 0 e)).size+1)
  (.inr (by simp)) (by rw[hrow];simp[byteCells]) (fun hh=>by cases hh) (fun j d hj=>by
   rw[TN,UG]at hj
   obtain⟨y,hy,rfl⟩:=hj
   have hlt:=(List.getElem?_eq_some_iff.1 hy).1
   exact⟨.int .u8 y.toNat,by rw[hrow,TQ (by rw[byteCells_length];simpa using hlt)];simp[byteCells,hy],rfl,.v _ rfl⟩)
 refine⟨_,_,(Stp.drew _ w).trans q2,q1,⟨q5.own,q5.heap,q5.old⟩,.slice (some ⟨w.heap.size,0,none⟩) b.size (grownCap w b.size 0 e),?_,?_⟩
 ·unfold execOp
  simp only[ho,hux,TS,hrun,TE,TV,U0]
 ·refine .ref ky nm 0 b.size 1 _ w.heap.size 0 e _ q3 q4 ⟨hcg,by unfold maxLen at hcm;unfold fY;omega⟩ (.inl rfl) (aN (b9 w.drew _)) ?_
  simp[hsz]

def xE (T:TT)(s:AS)(src dst:TypeId)(x:Operand):Ev:=
 match T.get src,ft s x with
 |some ⟨.slice e,_,_,_,_⟩,some (.ref k g off n sz)=>match T.get e,s.at k with
  |some ei,some p=>.cond (Tx src dst&&zw ei.desc&&Tx g p.1&&Tz 1 n) (.ok (some (.ref k g off n sz)) [(k,some (g,.b p.2))])
  |_,_=>.stuck
 |_,_=>.stuck
theorem t9 (w:World)(b o:Nat)(cur:Array Value)(t:TypeId)(fr:Nat×Nat)(hb:w.heap[b]? =some (.cells cur t fr)):(w.freeze ⟨b,o,none⟩ 1).heap[b]? =some (.cells cur t (if fr.1==fr.2 then(o,o+1)else(min fr.1 o,max fr.2 (o+1)))):=by
 obtain⟨lo,hi⟩:=fr
 unfold World.freeze
 rw[if_neg (by decide)]
 simp only[WN,if_true,hb,WA]
theorem rF (w:World)(b o:Nat):w.grownBy (w.freeze ⟨b,o,none⟩ 1) (some b)∧(w.freeze ⟨b,o,none⟩ 1).heap.size=w.heap.size:=by
 unfold World.freeze
 rw[if_neg (by decide)]
 refine⟨⟨rfl,rfl,rfl,by simp,fun k hk hn=>?_⟩,by simp⟩
 simp only[WN]
 rw[if_neg (fun e=>hn (by rw[e]))]
theorem zz (hT:T.ok P)(h:SR cx E s a w){src dst:TypeId}{x:Operand}(ho:o.op= .convert src dst x){v:Option D}{up:Up}(he:(xE T s src dst x).run v up):ce P cx E s a w i o v up:=by
 unfold xE at he
 split at he
 case h_2=>exact he.elim
 case h_1 e z1 z2 z3 z4 k g off n sz hti hx=>
 split at he
 case h_2=>exact he.elim
 case h_1 ei p hei hk=>
 obtain⟨g',blk⟩:=p
 obtain⟨hc,rfl,rfl⟩:=he
 simp only[Tw]at hc
 obtain⟨⟨⟨c1,c2⟩,c3⟩,c4⟩:=hc
 have c1:=TB c1
 have c3:=TB c3
 have c4:=TC c4
 subst c1 c3
 have hu1:=TT.underlying hT hti w
 have hu3:=TT.underlying hT hei w
 rw[rE c2]at hu3
 have hr0:=h.eval hx
 generalize hux:a.eval x=ux at hr0
 have hr:=hr0
 cases hr with
 |refn=>omega
 |ref _ _ _ _ _ c b off' t m hg hb hc ho' hs hm=>
 obtain⟨hlt,hown,cur,fr,hcur,hfz,hcl,hrow,hcell⟩:=h.block hk hb
 have hsh:w.shape? b=some (blk.elem,cur.size):=aN hcur
 have hcur':=t9 w b cur.size cur blk.elem fr hcur
 obtain⟨hgr,hz⟩:=rF w b cur.size
 have hst:=h.storeG (i:=i) (o':= .b blk) (AS.at_iff.1 hk) hb (i::s.us) (fun x hx=>TU _ hx) hgr hz (by rw[aN hcur,aN hcur']) fun E' hs' hn hp ho2=>by
  refine⟨hn _ hg,?_⟩
  rw[hp,hb]
  refine⟨ho2,by omega,cur,_,hcur',hfz.more,hcl,hrow,fun j d hj=>?_⟩
  obtain⟨u,hu,h1,hru⟩:=hcell j d hj
  exact⟨u,hu,h1,hru.step hs'⟩
 refine⟨_,_,hst.2.1,hst.1,hst.2.2,.slice (some ⟨b,off',none⟩) n c,?_,hr0.step hst.2.1⟩
 unfold execOp
 simp[ho,hux,convert,hu1,hu3,markStringish,hsh,WX,shape,freeze]
def LR (E:Env)(w:World)(ds:List D)(us:List Value):Prop:=us.length=ds.length∧(∀(j:Nat) d u,ds[j]? =some d→us[j]? =some u→RD E w d u)∧∀u∈us,u.oneCell'=true

def kV (place:Nat→Option (Nat×Nat))(cells:List D):List (Nat×D)→Option (List D)
 |[]=>some cells
 |(i,d)::rest=>match place i with
  |none=>none
  |some (off,size)=>bif !d.isTup&&Tx d.cells.length size&&Tz (off+d.cells.length) cells.length then kV place (aj cells off d.cells) rest else none

theorem kW (off:Nat):∀(l:List Value) (n:Nat) (cs:Array Value),(l.zipIdx n).foldl (fun cs (p:Value×Nat)=>cs.setIfInBounds (off+p.2) p.1) cs=ey cs (off+n) l
 |[],_,_=>rfl
 |v::r,n,cs=>by
  rw[List.zipIdx_cons,W5,kW off r (n+1)];rfl
theorem ua:∀(vs:List Value) (o:Nat) (cur:Array Value),o+vs.length≤cur.size→∀j:Nat,(ey cur o vs)[j]? =if o≤j∧j<o+vs.length then vs[j-o]? else cur[j]?:=by
 intro vs
 induction vs with
 |nil=>intro o cur _ j;rw[if_neg (by simp only[Vj];omega)];rfl
 |cons v r ih=>
  intro o cur hl j
  simp only[ey,T3]at hl ⊢
  rw[ih (o+1) _ (by simp;omega) j]
  by_cases h1:j=o
  ·subst h1
   rw[if_neg (by omega),if_pos ⟨by omega,by omega⟩]
   simp only[UJ,V9]
   rw[Wo (by omega)]
  ·by_cases h2:o+1≤j∧j<o+1+r.length
   ·rw[if_pos h2,if_pos ⟨by omega,by omega⟩]
    have:j-o=(j-(o+1))+1:=by omega
    rw[this,Vg]
   ·rw[if_neg h2,if_neg (by omega),U7 (fun e=>h1 e.symm)]

theorem LR.set {ds:List D}{us:List Value}(h:LR E w ds us){d:D}{u:Value}(hr:RD E w d u)(ht:d.isTup=false){off:Nat}(hl:off+d.cells.length≤ds.length):
  LR E w (aj ds off d.cells) (ey us.toArray off u.cells.toList).toList:=by
 obtain⟨h1,h2,h3⟩:=h
 obtain⟨c1,c2,c3⟩:=hr.cellsOf ht
 have hl2:off+u.cells.toList.length≤us.toArray.size:=by rw[c1];simpa[h1]using hl
 have hget:=ua u.cells.toList off us.toArray hl2
 refine⟨by rw[W9,ic,dX hl];simpa using h1,fun j e v he hv=>?_,fun v hv=>?_⟩
 ·rw[Wi,hget]at hv
  rw[ci hl]at he
  rw[c1]at hv
  split at he
  ·rename_i hc
   rw[if_pos hc]at hv
   obtain⟨v',hv',_,hr'⟩:=c3 _ e he
   rw[hv']at hv;cases hv;exact hr'
  ·rename_i hc
   rw[if_neg hc]at hv
   exact h2 j e v he (by simpa using hv)
 ·obtain⟨j,hj⟩:=Ux hv
  rw[Wi,hget]at hj
  split at hj
  ·exact c2 v (UB hj)
  ·exact h3 v (UB (by simpa using hj))

theorem kq (place:Nat→Option (Nat×Nat)):∀(ps:List (Nat×D)) (qs:List (Nat×Value)) (ds ds':List D) (us:List Value),LR E w ds us→kV place ds ps=some ds'→
  qs.length=ps.length→(∀(j:Nat) p q,ps[j]? =some p→qs[j]? =some q→p.1=q.1∧RD E w p.2 q.2)→∃us',Yf place us.toArray qs=some us'.toArray∧LR E w ds' us'
 |[],qs,ds,ds',us,h,hf,hl,_=>by
  cases hf
  cases qs with
  |nil=>exact⟨us,rfl,h⟩
  |cons=>simp at hl
 |(n,d)::ps,qs,ds,ds',us,h,hf,hl,hp=>by
  cases qs with
  |nil=>simp at hl
  |cons q qs=>
  obtain⟨n',u⟩:=q
  obtain⟨rfl,hr⟩:=hp 0 (n,d) (n',u) rfl rfl
  simp only[kV]at hf
  cases hpl:place n with
  |none=>rw[hpl]at hf;cases hf
  |some os=>
  obtain⟨off,size⟩:=os
  rw[hpl]at hf
  dsimp only at hf
  cases hc:(!d.isTup&&Tx d.cells.length size&&Tz (off+d.cells.length) ds.length)with
  |false=>rw[hc]at hf;cases hf
  |true=>
  rw[hc,cond_true]at hf
  simp only[Tw,VC]at hc
  obtain⟨⟨ht,hsz⟩,hle⟩:=hc
  have hsz:=TB hsz
  have hle:=TC hle
  have hcl:=(hr.cellsOf ht).1
  obtain⟨us',hu',hl'⟩:=kq place ps qs _ ds' _ (h.set hr ht hle) hf (by simpa using hl) (fun j p q a1 a2=>hp (j+1) p q (by simpa using a1) (by simpa using a2))
  refine⟨us',?_,hl'⟩
  rw[Yf]
  rw[hpl]
  have e1:u.cells.size=size:=by rw[←hsz,←hcl];simp
  have e2:¬(u.cells.size≠size∨us.toArray.size<off+u.cells.size):=by
   intro hh
   rcases hh with hh|hh
   ·exact hh e1
   ·have:=h.1;rw[e1,←hsz]at hh;simp at hh;omega
  have e3:u.cells.zipIdx.foldl (fun cs (p:Value×Nat)=>cs.setIfInBounds (off+p.2) p.1) us.toArray=ey us.toArray off u.cells.toList:=by
   have:=kW off u.cells.toList 0 us.toArray
   rw[VD]at this
   rw[←this,←Yg,Array.toList_zipIdx]
  simp only[ne_eq,VF,decide_eq_true_eq]at e2 ⊢
  rw[U0]at hu'
  rw[←hu',←e3]
  simp only[gt_iff_lt]
  rw[if_neg (by simpa using e2)]

def gy (s:AS):List (Nat×Operand)→Option (List (Nat×D))
 |[]=>some []
 |(n,x)::r=>match ft s x,gy s r with
  |some d,some l=>some ((n,d)::l)
  |_,_=>none
theorem jg (h:SR cx E s a w):∀(ps:List (Nat×Operand)) (ds:List (Nat×D)),gy s ps=some ds→(ps.map fun(n,x)=>(n,a.eval x)).length=ds.length∧∀(j:Nat) p q,ds[j]? =some p→(ps.map fun(n,x)=>(n,a.eval x))[j]? =some q→p.1=q.1∧RD E w p.2 q.2
 |[],ds,hd=>by cases hd;exact⟨rfl,fun j p q hp=>by simp at hp⟩
 |(n,x)::r,ds,hd=>by
  simp only[gy]at hd
  split at hd
  case h_2=>cases hd
  case h_1 d l hx hl=>
  cases hd
  obtain⟨h1,h2⟩:=jg h r l hl
  refine⟨by simp only[Vq,T3,h1],fun j p q hp hq=>?_⟩
  cases j with
  |zero=>simp at hp hq;subst hp hq;exact⟨rfl,h.eval hx⟩
  |succ j=>exact h2 j p q (by simpa using hp) (by simpa using hq)

def kX (T:TT):List Field→Option (List (Nat×Nat))
 |[]=>some []
 |f::r=>match T.get f.type,kX T r with
  |some fi,some l=>some ((f.offset,fi.size)::l)
  |_,_=>none
theorem kY (hT:T.ok P):∀(fs:List Field) (l:List (Nat×Nat)),kX T fs=some l→fs.mapM (fun f=>(P.info? f.type).map fun i=>(f.offset,i.size))=some l
 |[],l,h=>by cases h;rfl
 |f::r,l,h=>by
  simp only[kX]at h
  split at h
  case h_2=>cases h
  case h_1 fi l' hf hl=>
  cases h
  obtain⟨_,_,⟨j,h2,_,h4,_⟩,_⟩:=hT _ _ hf
  simp[XV,h2,h4,kY hT r l' hl]

def nE (T:TT)(s:AS)(t:TypeId)(parts:Array (Nat×Operand)):Ev:=
 match T.get t,gy s parts.toList with
 |some ti,some ps=>match ti.desc with
  | .struct fs=>match kX T fs.toList with
   |some pl=>match kV (fun n:Nat=>pl[n]?) (bT ti.zero).cells ps with
    |some cells=>.cond (fq ti.zero&& !(bT ti.zero).isTup) (.ok (some (.agg cells)) [])
    |none=>.stuck
   |none=>.stuck
  | .array _ e=>match T.get e with
   |some ei=>match kV (fun i=>some (i*ei.size,ei.size)) (bT ti.zero).cells ps with
    |some cells=>.cond (fq ti.zero&& !(bT ti.zero).isTup) (.ok (some (.agg cells)) [])
    |none=>.stuck
   |none=>.stuck
  |_=>.stuck
 |_,_=>.stuck

theorem rG (E:Env)(w:World){z:Value}(h1:fq z=true)(h2:(bT z).isTup=false):LR E w (bT z).cells z.cells.toList:=by
 obtain⟨c1,c2,c3⟩:=(RD.const E w z h1).cellsOf h2
 exact⟨c1,fun j d u hd hu=>by obtain⟨v,hv,_,hr⟩:=c3 j d hd;rw[hv]at hu;cases hu;exact hr,c2⟩

theorem ub (hT:T.ok P)(h:SR cx E s a w){t:TypeId}{parts:Array (Nat×Operand)}(ho:o.op= .build t parts){v:Option D}{up:Up}(he:(nE T s t parts).run v up):ce P cx E s a w i o v up:=by
 unfold nE at he
 split at he
 case h_2=>exact he.elim
 case h_1 ti ps hti hps=>
 obtain⟨p1,p2⟩:=jg h _ _ hps
 obtain⟨hu,_,⟨j,hj1,hj2,hj3,hj4⟩,_⟩:=hT t ti hti
 have fin:∀(place:Nat→Option (Nat×Nat)) (cells:List D),(∀us:List Value,Yf place ti.zero.cells (parts.toList.map fun(n,x)=>(n,a.eval x))=some us.toArray→P.built t (parts.toList.map fun(n,x)=>(n,a.eval x))=some us.toArray)→
   kV place (bT ti.zero).cells ps=some cells→(fq ti.zero&& !(bT ti.zero).isTup)=true→ce P cx E s a w i o (some (.agg cells)) []:=by
  intro place cells hb hf hc
  rw[Tw]at hc
  obtain⟨us,hu',hl1,hl2,hl3⟩:=kq place ps _ _ cells _ (rG E w hc.1 (by simpa using hc.2)) hf p1 p2
  rw[U0]at hu'
  have hrun:=run_build (P:=P) w t (parts.map fun(n,x)=>(n,a.eval x)) us.toArray (by rw[VH];exact hb us hu')
  refine .pure h (u:=.agg us.toArray) ?_ (.agg _ _ hl1 hl2 hl3)
  unfold execOp
  simp only[ho,TS,hrun,TE,TV]
 split at he
 case h_1 fs hd=>
  split at he
  case h_2=>exact he.elim
  case h_1 pl hpl=>
  split at he
  case h_2=>exact he.elim
  case h_1 cells hf=>
  obtain⟨hc,rfl,rfl⟩:=he
  refine fin (fun n:Nat=>pl[n]?) cells (fun us hus=>?_) hf hc
  have hm:=kY hT fs.toList pl hpl
  rw[hd]at hu
  unfold Program.built
  rw[hj1,hu]
  simp only[hj2,hm]
  have:(fun n:Nat=>pl.toArray[n]?)=fun n:Nat=>pl[n]?:=by funext n;simp
  rw[this];exact hus
 case h_2 len e hd=>
  split at he
  case h_2=>exact he.elim
  case h_1 ei hei=>
  split at he
  case h_2=>exact he.elim
  case h_1 cells hf=>
  obtain⟨hc,rfl,rfl⟩:=he
  refine fin _ cells (fun us hus=>?_) hf hc
  obtain⟨_,_,⟨j',hj1',_,hj3',_⟩,_⟩:=hT e ei hei
  rw[hd]at hu
  unfold Program.built
  rw[hj1,hu]
  simp only[hj2,hj1',hj3']
  exact hus
 case h_3=>exact he.elim
end
end Go.Vx
namespace Go.Vx
open Go.RowKit Go.Bw
section
variable {P:Program} {cx:Cx} {E:Env} {s:AS} {a:Act} {w:World} {i:Nat} {o:Oper} {T:TT}

def dJ (zc:List D)(n:Nat):List D:=(Uv n).map fun j=>zc.getD (j%zc.length) mb
theorem v5 {α:Type}(f:Nat→α):(Xs 0).map f= #[]:=by simp
theorem BE {zc:List D}{z:Array Value}(h:LR E w zc z.toList)(n:Nat)(hn:n=0∨0<zc.length):LR E w (dJ zc n) ((Xs n).map (z[· %z.size]!)).toList:=by
 obtain⟨h1,h2,h3⟩:=h
 have hz:z.size=zc.length:=by simpa using h1
 have key:∀j,j<n→∃u,z[j%z.size]! =u∧u.oneCell'=true∧RD E w (zc.getD (j%zc.length) mb) u:=fun j hj=>by
  have hp:0<zc.length:=by omega
  have hlt:j%zc.length<z.size:=by rw[hz];exact Xk _ hp
  refine⟨z[j%zc.length],by rw[hz];simp[hlt],h3 _ (by simp),h2 (j%zc.length) _ _ ?_ (by simp[hlt])⟩
  rw[To,Ts (by omega),Option.getD_some]
 refine⟨by simp[dJ],fun j d u hd hu=>?_,fun u hu=>?_⟩
 ·rcases T5 j n with hj|hj
  ·obtain⟨u',e,_,hr⟩:=key j hj
   simp[dJ,hj]at hd
   simp[hj]at hu
   subst hd
   have:z[j%z.size]! =u:=hu
   rw[←this,e]
   simpa using hr
  ·simp[dJ,hj]at hd
 ·simp only[VH,WI]at hu
  obtain⟨j,hj,rfl⟩:=hu
  have hj:j<n:=by simpa using hj
  obtain⟨u',e,h1',_⟩:=key j hj
  rw[e];exact h1'

def fQ (T:TT)(s:AS)(nm ky:Nat)(t:TypeId)(len:Nat)(parts:Array (Nat×Operand)):Ev:=
 match T.get t,gy s parts.toList with
 |some ⟨.slice e,_,_,_,_⟩,some ps=>match T.get e with
  |some ei=>match kV (fun i=>some (i*ei.size,ei.size)) (dJ (bT ei.zero).cells (len*ei.size)) ps with
   |some cells=>.cond (fq ei.zero&& !(bT ei.zero).isTup&&Tz (len*ei.size) 16777216&&decide (0<ei.size)) (.ok (some (.ref ky nm 0 len ei.size)) [(ky,some (nm,.b ⟨cells,e,false⟩))])
   |none=>.stuck
  |none=>.stuck
 |_,_=>.stuck

theorem l7 (hT:T.ok P)(h:SR cx E s a w)(hi:i∉s.us){nm ky:Nat}(hg:s.nx+8*i≤nm∧nm<s.nx+8*i+8){t:TypeId}{len:Nat}{parts:Array (Nat×Operand)}(ho:o.op= .buildSlice t len parts){v:Option D}{up:Up}
  (he:(fQ T s nm ky t len parts).run v up):ce P cx E s a w i o v up:=by
 unfold fQ at he
 split at he
 case h_2=>exact he.elim
 case h_1 e z1 z2 z3 z4 ps hti hps=>
 split at he
 case h_2=>exact he.elim
 case h_1 ei hei=>
 split at he
 case h_2=>exact he.elim
 case h_1 cells hf=>
 obtain⟨hc,rfl,rfl⟩:=he
 simp only[Tw,decide_eq_true_eq]at hc
 obtain⟨⟨⟨hc1,hc2⟩,hc3⟩,hc4⟩:=hc
 have hc3:=TC hc3
 obtain⟨p1,p2⟩:=jg h _ _ hps
 obtain⟨hu,hzl,⟨j0,hj1,hj2,hj3,hj4⟩,_⟩:=hT e ei hei
 have hz:=rG E w hc1 (by simpa using hc2)
 have hzl2:0<(bT ei.zero).cells.length:=by rw[←hz.1];simp[hzl,hc4]
 have hrep:=BE hz (len*ei.size) (.inr hzl2)
 obtain⟨us,hus,hl1,hl2,hl3⟩:=kq _ ps _ _ cells _ hrep hf p1 p2
 rw[U0]at hus
 have hcl:cells.length=len*ei.size:=by
  have:∀(ps:List (Nat×D)) (ds:List D),kV (fun i=>some (i*ei.size,ei.size)) ds ps=some cells→cells.length=ds.length:=by
   intro ps
   induction ps with
   |nil=>intro ds hd;cases hd;rfl
   |cons p ps ih=>
    obtain⟨n,d⟩:=p
    intro ds hd
    simp only[kV]at hd
    cases hq:(!d.isTup&&Tx d.cells.length ei.size&&Tz (n*ei.size+d.cells.length) ds.length)with
    |false=>rw[hq]at hd;cases hd
    |true=>
     rw[hq]at hd
     simp only[Tw]at hq
     rw[ih _ hd,dX (TC hq.2)]
  rw[this ps _ hf];simp[dJ]
 have hrun:(Xw t len (parts.map fun(n,x)=>(n,a.eval x))).run P w= .ok (.slice (some ⟨w.heap.size,0,none⟩) len len) (w.alloc (.cells us.toArray e)):=by
  have hne:¬(2^24<len*ei.size):=by
   have:(2:Nat)^24=16777216:=by decide
   omega
  have e3:(parts.map fun(n,x)=>(n,a.eval x)).toList=parts.toList.map fun(n,x)=>(n,a.eval x):=by simp
  by_cases h0:len*ei.size=0
  ·have hus':Yf (fun i=>some (i*ei.size,ei.size)) #[] (parts.toList.map fun(n,x)=>(n,a.eval x))=some us.toArray:=by rw[←hus,h0,v5]
   simp only[Xw,TS,TT.underlying hT hti w,TE,TT.sizeOf hT hei w,gt_iff_lt,hne,if_false,TV,V0,h0,if_true,e3,newRow,newObj,WX]
   rw[v5,hus']
   rfl
  ·simp only[Xw,TS,TT.underlying hT hti w,TE,TT.sizeOf hT hei w,gt_iff_lt,hne,if_false,TV,V0,h0,TT.zeroValue hT hei w,e3,hus,newRow,newObj,WX]
   rfl
 refine ce.block h hi hg e cells us false (0,0) (gS.zero _) (by omega) (fun _=>hl1) (fun j d hj=>?_) _ (.slice (some ⟨w.heap.size,0,none⟩) len len) ?_ (fun E' hn hp=>?_)
 ·have hlt:j<us.length:=by rw[hl1];exact(List.getElem?_eq_some_iff.1 hj).1
  exact⟨us[j],by simp[hlt],hl3 _ (Uo hlt),hl2 j d _ hj (by simp[hlt])⟩
 ·unfold execOp
  simp only[ho,TS,hrun,TE,TV]
 ·have hle:len≤len*ei.size:=WH _ hc4
  refine .ref ky nm 0 len ei.size len w.heap.size 0 e _ hn hp ⟨TD _,by unfold fY;omega⟩ (.inl rfl) (aN (b9 w _)) ?_
  simp[hl1,hcl]

def rH (T:TT)(s:AS)(nm ky:Nat)(t:TypeId)(l c:Operand):Ev:=
 match T.get t,ft s l,ft s c with
 |some ⟨.slice e,_,_,_,_⟩,some (.v (.int _ l)),some (.v (.int _ c))=>match T.get e with
  |some ei=>.cond (decide (0≤l)&&decide (l≤c)&&fq ei.zero&& !(bT ei.zero).isTup&&decide (0<ei.size)&&decide (0<ei.bytes)&&decide (ei.bytes*c≤140737488355328))
    (.ok (some (.ref ky nm 0 l.toNat ei.size)) [(ky,some (nm,.b ⟨dJ (bT ei.zero).cells (l.toNat*ei.size),e,true⟩))])
  |none=>.stuck
 |_,_,_=>.stuck
theorem v6 (hT:T.ok P)(h:SR cx E s a w)(hi:i∉s.us){nm ky:Nat}(hg:s.nx+8*i≤nm∧nm<s.nx+8*i+8){t:TypeId}{l c:Operand}(ho:o.op= .makeSlice t l c){v:Option D}{up:Up}(he:(rH T s nm ky t l c).run v up):
  ce P cx E s a w i o v up:=by
 unfold rH at he
 split at he
 case h_2=>exact he.elim
 case h_1 e z1 z2 z3 z4 kl zl kc zc hti hl hc0=>
 split at he
 case h_2=>exact he.elim
 case h_1 ei hei=>
 obtain⟨hc,rfl,rfl⟩:=he
 simp only[Tw,decide_eq_true_eq]at hc
 obtain⟨⟨⟨⟨⟨⟨h0,h1⟩,hz1⟩,hz2⟩,hsz⟩,hby⟩,hfit⟩:=hc
 have hrl:=h.eval hl
 have hrc:=h.eval hc0
 generalize hul:a.eval l=ul at hrl
 generalize huc:a.eval c=uc at hrc
 cases hrl;cases hrc
 obtain⟨hu,hzl,⟨j0,hj1,hj2,hj3,hj4⟩,_⟩:=hT e ei hei
 obtain⟨n,rfl⟩:=UI h0
 obtain⟨m,rfl⟩:=UI (Int.le_trans h0 h1)
 have hnm:n≤m:=by omega
 have hm:m≤140737488355328:=by
  have:m≤ei.bytes*m:=Nat.le_mul_of_pos_left _ hby
  have hf:ei.bytes*m≤140737488355328:=by
   have h9:((ei.bytes*m:Nat):Int)≤140737488355328:=by rw[YS];exact hfit
   omega
  omega
 have hz:=rG E w hz1 (by simpa using hz2)
 have hzl2:0<(bT ei.zero).cells.length:=by rw[←hz.1];simp[hzl,hsz]
 obtain⟨q1,q2,q3⟩:=BE hz (m*ei.size) (.inr hzl2)
 have hrun:(XI t (.int kl (n:Int)) (.int kc (m:Int))).run P w= .ok (.slice (some ⟨w.heap.size,0,none⟩) n m) (w.alloc (.cells ((Xs (m*ei.size)).map (ei.zero.cells[· %ei.zero.cells.size]!)) e)):=by
  have w1:IntKind.i64.wrap (n:Int)=(n:Int):=by rw[YB];omega
  have w2:IntKind.i64.wrap (m:Int)=(m:Int):=by rw[YB];omega
  have hti':(typeInfo e).run P w= .ok j0 w:=by
   unfold typeInfo
   show(match P.info? e with|some i=>(Pure.pure i:Sem TypeInfo)|none=>stuck _).run P w=_
   rw[hj1];rfl
  have hask:∀k,(askRoom k).run P w= .ok () w:=fun k=>by unfold askRoom;split<;>rfl
  have hb1:(decide ((m:Int)<0)||decide ((j0.bytes:Int)*(m:Int)>2^48))=false:=by
   rw[hj4]
   have:(2:Int)^48=281474976710656:=by decide
   simp only[Wt,decide_eq_false_iff_not]
   omega
  have hb2:(decide ((n:Int)<0)||decide ((n:Int)>(m:Int)))=false:=by
   simp only[Wt,decide_eq_false_iff_not];omega
  by_cases h0:m*ei.size=0
  ·simp only[XI,asInt,asIntOf,TS,TT.underlying hT hti w,TE,TT.sizeOf hT hei w,TV,hti',w1,w2,hb1,Yd,hb2,Vh,if_false,hask,Vf,V0,h0,if_true,newRow,newObj,WX,v5]
   rfl
  ·simp only[XI,asInt,asIntOf,TS,TT.underlying hT hti w,TE,TT.sizeOf hT hei w,TV,hti',w1,w2,hb1,Yd,hb2,Vh,if_false,hask,Vf,V0,h0,TT.zeroValue hT hei w,newRow,newObj,WX]
   rfl
 refine ce.block h hi hg e _ ((Xs (m*ei.size)).map (ei.zero.cells[· %ei.zero.cells.size]!)).toList true (0,0) (gS.zero _) ?_ (fun hh=>by cases hh) (fun j d hj=>?_) _ (.slice (some ⟨w.heap.size,0,none⟩) n m) ?_ (fun E' hn hp=>?_)
 ·simp[dJ];exact Ur _ hnm
 ·have hlt:j<n*ei.size:=by
   have:=(List.getElem?_eq_some_iff.1 hj).1
   simpa[dJ]using this
  have hlt2:j<m*ei.size:=Ug hlt (Ur _ hnm)
  have hj':(dJ (bT ei.zero).cells (m*ei.size))[j]? =some d:=by
   simp[dJ,hlt]at hj
   simp[dJ,hlt2,hj]
  have hlt3:j<((Xs (m*ei.size)).map (ei.zero.cells[· %ei.zero.cells.size]!)).toList.length:=by simpa using hlt2
  exact⟨_,Ts hlt3,q3 _ (Uo hlt3),q2 j d _ hj' (Ts hlt3)⟩
 ·unfold execOp
  simp only[ho,hul,huc,TS,hrun,TE,TV,U0]
 ·refine .ref ky nm 0 n ei.size m w.heap.size 0 e _ hn hp ⟨hnm,by unfold fY;omega⟩ (.inl rfl) (aN (b9 w _)) ?_
  simp

def gH (s:AS):List Operand→Option (List D)
 |[]=>some []
 |x::r=>match ft s x,gH s r with
  |some d,some l=>some (d::l)
  |_,_=>none
theorem fg (h:SR cx E s a w):∀(xs:List Operand) (ds:List D),gH s xs=some ds→(xs.map a.eval).length=ds.length∧∀(j:Nat) d u,ds[j]? =some d→(xs.map a.eval)[j]? =some u→RD E w d u
 |[],ds,hd=>by cases hd;exact⟨rfl,fun j p q hp=>by simp at hp⟩
 |x::r,ds,hd=>by
  simp only[gH]at hd
  split at hd
  case h_2=>cases hd
  case h_1 d l hx hl=>
  cases hd
  obtain⟨h1,h2⟩:=fg h r l hl
  refine⟨by simp only[Vq,T3,h1],fun j p q hp hq=>?_⟩
  cases j with
  |zero=>simp at hp hq;subst hp hq;exact h.eval hx
  |succ j=>exact h2 j p q (by simpa using hp) (by simpa using hq)

def rJ (s:AS)(f:Fn)(fi ca:Array Operand):Ev:=
 match gH s fi.toList,gH s ca.toList with
 |some l,some m=>.ok (some (.fn f l m)) []
 |_,_=>.stuck
theorem v7 (h:SR cx E s a w){f:Fn}{fi ca:Array Operand}(ho:o.op= .makeFunc f fi ca){v:Option D}{up:Up}(he:(rJ s f fi ca).run v up):ce P cx E s a w i o v up:=by
 unfold rJ at he
 split at he
 case h_2=>exact he.elim
 case h_1 l m hl hm=>
 obtain⟨rfl,rfl⟩:=he
 obtain⟨a1,a2⟩:=fg h _ _ hl
 obtain⟨b1,b2⟩:=fg h _ _ hm
 refine .pure h (u:=.func f (fi.toList.map a.eval).toArray (ca.toList.map a.eval).toArray) ?_ (.fn f l m _ _ a1 b1 a2 b2)
 unfold execOp
 simp only[ho,Instr.makeFunc,TS,TV,TE]
 have e1:(fi.toList.map a.eval).toArray=fi.map a.eval:=by apply Vl;simp
 have e2:(ca.toList.map a.eval).toArray=ca.map a.eval:=by apply Vl;simp
 rw[e1,e2]

def EE (T:TT)(s:AS)(x:Operand)(asserted:TypeId)(ok:Bool):Ev:=
 match T.get asserted,ft s x with
 |some ti,some (.ifc t d)=>.cond (!nj ti.desc) (bif Tx t asserted then(bif ok then .ok (some (.tup [d,.v (.bool true)])) []else .ok (some d) [])
   else .cond (ok&&fq ti.zero) (.ok (some (.tup [bT ti.zero,.v (.bool false)])) []))
 |_,_=>.stuck
theorem BF (hT:T.ok P)(h:SR cx E s a w){x:Operand}{xt asserted:TypeId}{ok:Bool}(ho:o.op= .typeAssert x xt asserted ok){v:Option D}{up:Up}(he:(EE T s x asserted ok).run v up):ce P cx E s a w i o v up:=by
 unfold EE at he
 split at he
 case h_2=>exact he.elim
 case h_1 ti t d hti hx=>
 obtain⟨hc,he⟩:=he
 have hr:=h.eval hx
 generalize hux:a.eval x=ux at hr
 cases hr with
 |ifc _ _ u hr=>
 have hund:=TT.underlying hT hti w
 have hni:∀ms,ti.desc≠ .interface ms:=fun ms e=>by rw[e]at hc;simp[nj]at hc
 have run1:t=asserted→(execOp a.eval o).run P w= .ok (.value (if ok then .tuple #[u,.bool true]else u)) w:=fun e=>by
  subst e
  unfold execOp
  simp only[ho,hux,YC,TS,hund,TE]
  cases hd:ti.desc<;>first|exact absurd hd (hni _)|(simp only[if_true,TV,TE])
 cases hb:Tx t asserted with
 |true=>
  have e:=TB hb
  simp only[hb,cond_true]at he
  cases ok with
  |true=>
   simp only[cond_true]at he
   obtain⟨rfl,rfl⟩:=he
   refine .pure h (run1 e) (.tup _ [u,.bool true] rfl fun j d' u' a1 a2=>?_)
   match j with
   |0=>simp at a1 a2;subst a1 a2;exact hr
   |1=>simp at a1 a2;subst a1 a2;exact .v _ rfl
   |j+2=>simp at a1
  |false=>
   simp only[cond_false]at he
   obtain⟨rfl,rfl⟩:=he
   exact .pure h (run1 e) hr
 |false=>
  simp only[hb,cond_false]at he
  obtain⟨hk,rfl,rfl⟩:=he
  rw[Tw]at hk
  obtain⟨rfl,hco⟩:=hk
  have hne:t≠asserted:=fun e=>by subst e;rw[Uz]at hb;cases hb
  refine .pure h (u:=.tuple #[ti.zero,.bool false]) ?_ (.tup _ [ti.zero,.bool false] rfl fun j d' u' a1 a2=>?_)
  ·unfold execOp
   simp only[ho,hux,YC,TS,hund,TE]
   cases hd:ti.desc<;>first|exact absurd hd (hni _)|(simp only[hne,if_false,if_true,TS,TT.zeroValue hT hti w,TV,TE])
  ·match j with
   |0=>simp at a1 a2;subst a1 a2;exact RD.const E w _ hco
   |1=>simp at a1 a2;subst a1 a2;exact .v _ rfl
   |j+2=>simp at a1
end
end Go.Vx
namespace Go.Vx
open Go.RowKit Go.Bw

mutual
def D.closed:D→Bool
 | .v _=>true
 | .sl _ _ _ _=>true
 | .agg cs=>af cs
 | .tup cs=>af cs
 | .ifc _ x=>x.closed
 | .fn _ fi ca=>af fi&&af ca
 |_=>false
def af:List D→Bool
 |[]=>true
 |d::r=>d.closed&&af r
end
theorem bL {l:List D}:af l=true↔∀d∈l,d.closed=true:=by
 induction l with
 |nil=>simp[af]
 |cons x l ih=>simp[af,ih]
theorem bn {l:List D}(h:af l=true){j:Nat}{d:D}(hj:l[j]? =some d):d.closed=true:=bL.1 h d (UB hj)
theorem EF (bs:List UInt8):af (bs.map dB)=true:=bL.2 fun d hd=>by simp only[WI]at hd;obtain⟨b,_,rfl⟩:=hd;rfl
theorem EG {l:List D}(h:af l=true)(n:Nat):af (l.take n)=true:=bL.2 fun d hd=>bL.1 h d (U1 hd)
theorem EH {l:List D}(h:af l=true)(n:Nat):af (l.drop n)=true:=bL.2 fun d hd=>bL.1 h d (Wp hd)

theorem RD.weak {E:Env}{w:World}{d:D}{u:Value}(h:RD E w d u):d.closed=true→RD E.cl w d u:=by
 induction h with
 |v c h=>exact fun _=>.v c h
 |@sl E w nn n size cells a c us hlen hd h1 hn hp hc h0 hr ih=>exact fun _=>.sl nn n size cells a c us hlen hd h1 hn hp hc h0 hr
 |agg cs us hlen _ h1 ih=>exact fun hc=>.agg cs us hlen (fun i d u a1 a2=>ih i d u a1 a2 (bn hc a1)) h1
 |tup cs us hlen _ ih=>exact fun hc=>.tup cs us hlen (fun i d u a1 a2=>ih i d u a1 a2 (bn hc a1))
 |ifc t x u _ ih=>exact fun hc=>.ifc t x u (ih hc)
 |fn f fi ca us vs hl1 hl2 _ _ ih1 ih2=>
  intro hc
  simp only[D.closed,Tw]at hc
  exact .fn f fi ca us vs hl1 hl2 (fun i d u a1 a2=>ih1 i d u a1 a2 (bn hc.1 a1)) (fun i d u a1 a2=>ih2 i d u a1 a2 (bn hc.2 a1))
 |_=>intro hc;cases hc

def eh (cells:List D)(off m:Nat):List D:=bif Tx off 0&&Tx m cells.length then cells else(cells.drop off).take m
theorem kZ (cells:List D)(off m:Nat):eh cells off m=(cells.drop off).take m:=by
 unfold eh
 cases hq:(Tx off 0&&Tx m cells.length)with
 |false=>rfl
 |true=>
  rw[Tw]at hq
  have e1:=TB hq.1
  have e2:=TB hq.2
  subst e1
  rw[cond_true,U4,e2,Uy]

mutual
def BG:D→List Nat
 | .ref k _ _ _ _=>[k]
 | .ptr k _ _=>[k]
 | .agg cs=>pY cs
 | .tup cs=>pY cs
 | .ifc _ x=>BG x
 | .fn _ fi ca=>pY fi++pY ca
 | .yl k _=>[k]
 |_=>[]
def pY:List D→List Nat
 |[]=>[]
 |d::r=>BG d++pY r
end

def kg:List Nat→Nat→Option Nat
 |[],_=>none
 |x::r,k=>bif Tx x k then some 0 else match kg r k with
  |some j=>some (j+1)
  |none=>none
theorem jM:∀{fp:List Nat} {k j:Nat},kg fp k=some j→fp[j]? =some k
 |[],k,j,h=>by cases h
 |x::r,k,j,h=>by
  simp only[kg]at h
  cases hb:Tx x k with
  |true=>rw[hb]at h;cases h;rw[TB hb];rfl
  |false=>
   rw[hb]at h
   dsimp only[cond_false]at h
   split at h
   ·rename_i j' hj';cases h;rw[Vg];exact jM hj'
   ·cases h
theorem kt:∀{fp:List Nat} {k:Nat},kg fp k=none→k∉fp
 |[],k,_=>by simp
 |x::r,k,h=>by
  simp only[kg]at h
  cases hb:Tx x k with
  |true=>rw[hb]at h;cases h
  |false=>
   rw[hb]at h
   dsimp only[cond_false]at h
   split at h
   ·cases h
   ·rename_i hn
    intro hm
    rcases List.mem_cons.1 hm with rfl|hm
    ·simp at hb
    ·exact kt hn hm

def zA (s:AS)(fp:List Nat):D→Option (Bool×D)
 | .ref k g off n sz=>match s.at k with
  |some p=>match kg fp k with
   |some _=>none
   |none=>some (Tx g p.1&&Tz (off+n*sz) p.2.cells.length&&Tz 1 sz&&af (eh p.2.cells off (n*sz)),.sl (Tz 1 n) n sz (eh p.2.cells off (n*sz)))
  |none=>none
 |d=>some (d.closed,d)
def mP (s:AS)(fp:List Nat):List D→Option (Bool×List D)
 |[]=>some (true,[])
 |d::r=>match zA s fp d,mP s fp r with
  |some p,some q=>some (p.1&&q.1,p.2::q.2)
  |_,_=>none
def zB (s:AS)(fp:List Nat)(b:Blk)(off m:Nat):Option (Bool×List D):=bif b.row then some (af (eh b.cells off m),eh b.cells off m)else mP s fp (eh b.cells off m)
def iS (s:AS)(fp:List Nat):List D→Bool×List D
 |[]=>(true,[])
 |d::r=>match zA s fp d with
  |some p=>(p.1&&(iS s fp r).1,p.2::(iS s fp r).2)
  |none=>(true,[])
def pD (s:AS)(fp:List Nat)(b:Blk):Bool×List D:=bif b.row then(af (eh b.cells 0 b.cells.length),eh b.cells 0 b.cells.length)else iS s fp (eh b.cells 0 b.cells.length)
mutual
def oo (s:AS)(al:Bool)(fp:List Nat):D→Option (Bool×D)
 | .v c=>some (true,.v c)
 | .sl nn n sz cells=>some (true,.sl nn n sz cells)
 | .ref k g off n sz=>match s.at k with
  |some p=>match kg fp k with
   |some j=>some (Tx g p.1,.ref j j off n sz)
   |none=>match zB s fp p.2 off (n*sz)with
    |some c=>some (!al&&(Tx g p.1&&Tz (off+n*sz) p.2.cells.length&&Tz 1 sz&&c.1),.sl (Tz 1 n) n sz c.2)
    |none=>none
  |none=>none
 | .ptr k g off=>match s.at k with
  |some p=>match kg fp k with
   |some j=>some (Tx g p.1,.ptr j j off)
   |none=>some (!al&&(Tx g p.1&&(pD s fp p.2).1),.ep (pD s fp p.2).2 off)
  |none=>none
 | .ep cells off=>some (true,.ep cells off)
 | .agg cs=>match jY s al fp cs with
  |some p=>some (p.1,.agg p.2)
  |none=>none
 | .tup cs=>match jY s al fp cs with
  |some p=>some (p.1,.tup p.2)
  |none=>none
 | .ifc t x=>match oo s al fp x with
  |some p=>some (p.1,.ifc t p.2)
  |none=>none
 | .fn f fi ca=>match jY s al fp fi,jY s al fp ca with
  |some p,some q=>some (p.1&&q.1,.fn f p.2 q.2)
  |_,_=>none
 | .yl _ _=>none
def jY (s:AS)(al:Bool)(fp:List Nat):List D→Option (Bool×List D)
 |[]=>some (true,[])
 |d::r=>match oo s al fp d,jY s al fp r with
  |some p,some q=>some (p.1&&q.1,p.2::q.2)
  |_,_=>none
end
def ki (s:AS)(fp:List Nat):List Nat→Option (Bool×List Blk)
 |[]=>some (true,[])
 |k::r=>match s.at k,ki s fp r with
  |some p,some q=>bif p.2.row then some (af p.2.cells&&q.1,p.2::q.2)else match jY s true fp p.2.cells with
   |some c=>some (c.1&&q.1,⟨c.2,p.2.elem,p.2.row⟩::q.2)
   |none=>none
  |_,_=>none

def eW (O:Nat→Prop)(φ:Nat→Option Nat)(n:Nat):Env:=⟨φ,fun b=>O b∨∃j,j<n∧φ j=some b,fun j=>j<n⟩
def gY (s:AS)(E:Env)(fp:List Nat)(j:Nat):Option Nat:=
 match fp[j]? with
 |some k=>match s.gat k with
  |some p=>E.φ p.1
  |none=>none
 |none=>none
def fH (s:AS)(E:Env)(al:Bool)(fp:List Nat):Env:=eW (fun b=>al=true∧E.own b) (gY s E fp) fp.length
theorem fv {s:AS}{E:Env}{fp:List Nat}{j k g:Nat}{o:Ob}(hj:fp[j]? =some k)(hk:s.gat k=some (g,o)):gY s E fp j=E.φ g:=by
 unfold gY;rw[hj];dsimp only;rw[hk]
theorem ed {s:AS}{E:Env}{fp:List Nat}{j x:Nat}(h:gY s E fp j=some x):∃k g o,fp[j]? =some k∧s.gat k=some (g,o)∧E.φ g=some x:=by
 unfold gY at h
 split at h
 case h_2=>cases h
 case h_1 k hk=>
 split at h
 case h_2=>cases h
 case h_1 p hp=>exact⟨k,p.1,p.2,hk,hp,h⟩

section
variable {P:Program} {cx:Cx} {E:Env} {s:AS} {a:Act} {w:World}

theorem oq (h:SR cx E s a w)(al:Bool)(fp:List Nat){b:Nat}(hb:(fH s E al fp).own b):E.own b:=by
 rcases hb with⟨_,hb⟩|⟨j,_,hx⟩
 ·exact hb
 ·obtain⟨k,g,o,_,h2,h3⟩:=ed hx
  exact h.own_of ⟨k,g,o,h2,h3⟩
theorem Stp.toLoc (h:SR cx E s a w)(al:Bool)(fp:List Nat):Stp E.cl (fH s E al fp) w w:=⟨fun _ h=>h.elim,fun _ h=>h.elim,TD _,fun _ _ ho=>⟨fun hh=>ho (oq h al fp hh),rfl⟩,fun _ _=>rfl⟩

theorem k5 {al:Bool}{fp:List Nat}:∀(cs:List D) {q:Bool×List D},jY s al fp cs=some q→q.1=true→q.2.length=cs.length∧∀(j:Nat) d,cs[j]? =some d→∃p,oo s al fp d=some p∧p.1=true∧q.2[j]? =some p.2
 |[],q,h,hq=>by simp only[jY,Option.some.injEq]at h;subst h;exact⟨rfl,fun j d hj=>by simp at hj⟩
 |d::r,q,h,hq=>by
  simp only[jY]at h
  split at h
  case h_2=>cases h
  case h_1 p q' hp hq'=>
  cases h
  rw[Tw]at hq
  obtain⟨h1,h2⟩:=k5 r hq' hq.2
  refine⟨by simp[h1],fun j d' hj=>?_⟩
  cases j with
  |zero=>simp at hj;subst hj;exact⟨p,hp,hq.1,rfl⟩
  |succ j=>obtain⟨p',a1,a2,a3⟩:=h2 j d' (by simpa using hj);exact⟨p',a1,a2,by simpa using a3⟩

theorem v8 (h:SR cx E s a w){fp:List Nat}{k g off n sz:Nat}{u:Value}{blk:Blk}(hr:RD E w (.ref k g off n sz) u)(hk:s.at k=some (g,blk))(hj:kg fp k=none)(hle:off+n*sz≤blk.cells.length)(hsz:1≤sz){cs:List D}
  (hlc:cs.length=(eh blk.cells off (n*sz)).length) (hcs:∀us:List Value,us.length=cs.length→(∀(i:Nat) d u,(eh blk.cells off (n*sz))[i]? =some d→us[i]? =some u→RD E w d u)→∀(i:Nat) d u,cs[i]? =some d→us[i]? =some u→RD (fH s E false fp).cl w d u):
  RD (fH s E false fp) w (.sl (Tz 1 n) n sz cs) u:=by
 cases hr with
 |@ref _ _ k g off n sz c b off' t m hg hb hc ho hsh hm=>
  obtain⟨hlt,hown,cur,fr,hcur,_,hcl2,_,hcell⟩:=h.block hk hb
  have hv:Vw _ _ b 0 blk.cells:=fun j d hj=>by
   obtain⟨v,hv1,hv2,hv3⟩:=hcell j d hj
   exact⟨v,by rw[T0,cell_of_row _ b j cur blk.elem fr hcur];exact hv1,hv2,hv3⟩
  obtain⟨us,hl,hrg,h1,hd⟩:=hv.seg hle
  rw[T0]at hrg
  rw[kZ]at hlc hcs
  have hl2:us.length=cs.length:=by rw[hl,hlc,TR,Ul];omega
  refine .sl _ n sz _ _ c us hl2 (hcs us hl2 fun i d u a1 a2=>hd i d u a1 a2) h1 (by rw[hlc,TR,Ul];omega) hsz hc (fun hh=>by cases hh) ?_
  rcases VI n with h0|h0
  ·exact .inl h0
  ·refine .inr ⟨b,off',rfl,hlt,fun hh=>?_,fun i u hu=>?_⟩
   ·rcases hh with⟨ha,_⟩|⟨j,_,hx⟩
    ·cases ha
    ·obtain⟨k',g',o',e1,e2,e3⟩:=ed hx
     have hne:k≠k':=fun e=>by subst e;exact kt hj (UB e1)
     exact h.inj k k' g g' _ o' hne (AS.at_iff.1 hk) e2 b hb e3
   ·obtain rfl:off'=off:=by omega
    exact hrg i u hu
 |@refn _ _ k g sz hg hb=>
  have e:eh blk.cells 0 (0*sz)=[]:=by rw[kZ];simp
  rw[e]at hlc
  have:cs=[]:=Ua hlc
  subst this
  exact .sl _ 0 sz [] none 0 [] rfl (by simp) (by simp) (by simp) hsz ⟨TD _,T7 _⟩ (fun _=>⟨rfl,rfl⟩) (.inl rfl)
theorem JN (h:SR cx E s a w){fp:List Nat}{k g off:Nat}{u:Value}{blk:Blk}(hr:RD E w (.ptr k g off) u)(hk:s.at k=some (g,blk))(hj:kg fp k=none){cs:List D}
  (hlc:cs.length≤(eh blk.cells 0 blk.cells.length).length) (hcs:∀us:List Value,us.length=cs.length→(∀(i:Nat) d u,(eh blk.cells 0 blk.cells.length)[i]? =some d→us[i]? =some u→RD E w d u)→∀(i:Nat) d u,cs[i]? =some d→us[i]? =some u→RD (fH s E false fp).cl w d u):
  RD (fH s E false fp) w (.ep cs off) u:=by
 cases hr with
 |ptr _ _ _ b hg hb=>
  obtain⟨hlt,hown,cur,fr,hcur,_,hcl2,_,hcell⟩:=h.block hk hb
  have hv:Vw _ _ b 0 blk.cells:=fun j d hj=>by
   obtain⟨v,hv1,hv2,hv3⟩:=hcell j d hj
   exact⟨v,by rw[T0,cell_of_row _ b j cur blk.elem fr hcur];exact hv1,hv2,hv3⟩
  obtain⟨us,hl,hrg,h1,hd⟩:=hv.seg (off:=0) (m:=blk.cells.length) (by omega)
  rw[kZ]at hlc hcs
  have hl2:(us.take cs.length).length=cs.length:=by rw[TR,hl];rw[TR,Ul]at hlc;omega
  have tk:∀{i:Nat} {u:Value},(us.take cs.length)[i]? =some u→us[i]? =some u:=fun{i u} q=>by
   rw[Un]at q;split at q
   ·exact q
   ·cases q
  have:=RD.ep (E:=fH s E false fp) (w:=w) cs off b 0 (us.take cs.length) hl2 (hcs _ hl2 fun i d u a1 a2=>hd i d u a1 (tk a2)) (fun u hu=>h1 u (U1 hu)) hlt (fun hh=>by
   rcases hh with⟨ha,_⟩|⟨j,_,hx⟩
   ·cases ha
   ·obtain⟨k',g',o',e1,e2,e3⟩:=ed hx
    have hne:k≠k':=fun e=>by subst e;exact kt hj (UB e1)
    exact h.inj k k' g g' _ o' hne (AS.at_iff.1 hk) e2 b hb e3) (fun i u hu=>by have:=hrg i u (tk hu);simpa using this)
  rwa [T0]at this
theorem rK (h:SR cx E s a w){al:Bool}{fp:List Nat}{d:D}{u:Value}(hr:RD E w d u)(hc:d.closed=true):RD (fH s E al fp).cl w d u:=((hr.weak hc).step (Stp.toLoc h al fp)).weak hc
theorem ot (h:SR cx E s a w){fp:List Nat}{d:D}{u:Value}(hr:RD E w d u){q:Bool×D}(hq:zA s fp d=some q)(hq1:q.1=true):RD (fH s E false fp).cl w q.2 u:=by
 unfold zA at hq
 split at hq
 case h_2=>cases hq;exact rK h hr hq1
 case h_1 k g off n sz=>
 split at hq
 case h_2=>cases hq
 case h_1 p hk=>
 obtain⟨g',blk⟩:=p
 dsimp only at hq
 split at hq
 case h_1=>cases hq
 case h_2 hj=>
 cases hq
 simp only[Tw]at hq1
 obtain⟨⟨⟨hgg,hle⟩,hsz⟩,hcl⟩:=hq1
 obtain rfl:g=g':=TB hgg
 exact(v8 h hr hk hj (TC hle) (TC hsz) rfl fun us _ hd i d u a1 a2=>rK h (hd i d u a1 a2) (bn hcl a1)).weak rfl
theorem mQ (h:SR cx E s a w){fp:List Nat}:∀{cs:List D} {q:Bool×List D},mP s fp cs=some q→q.1=true→q.2.length=cs.length∧∀us:List Value,us.length=q.2.length→(∀(i:Nat) d u,cs[i]? =some d→us[i]? =some u→RD E w d u)→∀(i:Nat) d u,q.2[i]? =some d→us[i]? =some u→RD (fH s E false fp).cl w d u
 |[],q,hq,_=>by simp only[mP,Option.some.injEq]at hq;subst hq;exact⟨rfl,fun us _ _ i d u hd=>by simp at hd⟩
 |c::r,q,hq,hq1=>by
  simp only[mP]at hq
  split at hq
  case h_2=>cases hq
  case h_1 p q' hp hq'=>
  cases hq
  rw[Tw]at hq1
  obtain⟨l1,l2⟩:=mQ h hq' hq1.2
  refine⟨by simp[l1],fun us hl hd i d u h1 h2=>?_⟩
  cases us with
  |nil=>simp at hl
  |cons v us=>
  cases i with
  |zero=>
   simp only[V9,Option.some.injEq]at h1 h2
   subst h1 h2
   exact ot h (hd 0 c v rfl rfl) hp hq1.1
  |succ i=>
   exact l2 us (by simpa using hl) (fun j d u a1 a2=>hd (j+1) d u (by simpa using a1) (by simpa using a2)) i d u (by simpa using h1) (by simpa using h2)
theorem mR (h:SR cx E s a w){fp:List Nat}:∀{cs:List D},(iS s fp cs).1=true→(iS s fp cs).2.length≤cs.length∧∀us:List Value,us.length=(iS s fp cs).2.length→(∀(i:Nat) d u,cs[i]? =some d→us[i]? =some u→RD E w d u)→∀(i:Nat) d u,(iS s fp cs).2[i]? =some d→us[i]? =some u→RD (fH s E false fp).cl w d u
 |[],_=>⟨TD _,fun us _ _ i d u hd=>by simp[iS]at hd⟩
 |c::r,hq1=>by
  simp only[iS]at hq1 ⊢
  split at hq1
  case h_2 hp=>exact⟨T7 _,fun us _ _ i d u hd=>by simp at hd⟩
  case h_1 p hp=>
  rw[Tw]at hq1
  obtain⟨l1,l2⟩:=mR h hq1.2
  refine⟨Vy l1,fun us hl hd i d u h1 h2=>?_⟩
  cases us with
  |nil=>simp at hl
  |cons v us=>
  cases i with
  |zero=>
   simp only[V9,Option.some.injEq]at h1 h2
   subst h1 h2
   exact ot h (hd 0 c v rfl rfl) hp hq1.1
  |succ i=>
   exact l2 us (by simpa using hl) (fun j d u a1 a2=>hd (j+1) d u (by simpa using a1) (by simpa using a2)) i d u (by simpa using h1) (by simpa using h2)
theorem v9 (h:SR cx E s a w){fp:List Nat}{b:Blk}(hq1:(pD s fp b).1=true):(pD s fp b).2.length≤(eh b.cells 0 b.cells.length).length∧∀us:List Value,us.length=(pD s fp b).2.length→(∀(i:Nat) d u,(eh b.cells 0 b.cells.length)[i]? =some d→us[i]? =some u→RD E w d u)→∀(i:Nat) d u,(pD s fp b).2[i]? =some d→us[i]? =some u→RD (fH s E false fp).cl w d u:=by
 unfold pD at hq1 ⊢
 cases hrow:b.row with
 |true=>
  rw[hrow,cond_true]at hq1
  exact⟨TD _,fun us _ hd i d u h1 h2=>rK h (hd i d u h1 h2) (bn hq1 h1)⟩
 |false=>
  rw[hrow,cond_false]at hq1
  exact mR h hq1
theorem ou (h:SR cx E s a w){fp:List Nat}{b:Blk}{off m:Nat}{q:Bool×List D}(hq:zB s fp b off m=some q)(hq1:q.1=true):q.2.length=(eh b.cells off m).length∧∀us:List Value,us.length=q.2.length→(∀(i:Nat) d u,(eh b.cells off m)[i]? =some d→us[i]? =some u→RD E w d u)→∀(i:Nat) d u,q.2[i]? =some d→us[i]? =some u→RD (fH s E false fp).cl w d u:=by
 unfold zB at hq
 cases hrow:b.row with
 |true=>
  rw[hrow,cond_true]at hq
  cases hq
  exact⟨rfl,fun us _ hd i d u h1 h2=>rK h (hd i d u h1 h2) (bn hq1 h1)⟩
 |false=>
  rw[hrow,cond_false]at hq
  exact mQ h hq hq1

theorem pZ (h:SR cx E s a w){al:Bool}{fp:List Nat}:∀{E':Env} {w':World} {d:D} {u:Value},RD E' w' d u→E'=E→w'=w→∀{q:Bool×D},oo s al fp d=some q→q.1=true→RD (fH s E al fp) w q.2 u:=by
 intro E' w' d u hr
 have hst:=Stp.toLoc h al fp
 have L:∀{cs:List D} {us:List Value},us.length=cs.length→(∀(i:Nat) d u,cs[i]? =some d→us[i]? =some u→∀{q:Bool×D},oo s al fp d=some q→q.1=true→RD (fH s E al fp) w q.2 u)→∀{q:Bool×List D},jY s al fp cs=some q→q.1=true→
   us.length=q.2.length∧∀(i:Nat) d u,q.2[i]? =some d→us[i]? =some u→RD (fH s E al fp) w d u:=by
  intro cs us hlen ih q hq hq1
  obtain⟨h1,h2⟩:=k5 cs hq hq1
  refine⟨by rw[hlen,h1],fun i d u hd hu=>?_⟩
  have hlt:i<cs.length:=by rw[←h1];exact(List.getElem?_eq_some_iff.1 hd).1
  obtain⟨p,a1,a2,a3⟩:=h2 i cs[i] (Ts hlt)
  rw[hd]at a3;cases a3
  exact ih i _ u (Ts hlt) hu a1 a2
 induction hr with
 |v c hc=>intro _ _ q hq _;simp only[oo,Option.some.injEq]at hq;subst hq;exact .v c hc
 |@sl E1 w1 nn n size cells ad c us hlen hd h1 hn hp hc h0 hr ih=>
  rintro rfl rfl q hq _
  simp only[oo,Option.some.injEq]at hq;subst hq
  exact((RD.sl nn n size cells ad c us hlen hd h1 hn hp hc h0 hr).weak rfl).step hst
 |@ref E1 w1 k g off n sz c b off' t m hg hb hc ho hsh hm=>
  rintro rfl rfl q hq hq1
  simp only[oo]at hq
  cases hk:s.at k with
  |none=>rw[hk]at hq;cases hq
  |some p=>
  obtain⟨g',blk⟩:=p
  rw[hk]at hq
  dsimp only at hq
  split at hq
  case h_1 j hj=>
   cases hq
   obtain rfl:g=g':=TB hq1
   have hj':=jM hj
   exact .ref j j off n sz c b off' t m (List.getElem?_eq_some_iff.1 hj').1 ((fv hj' (AS.at_iff.1 hk)).trans hb) hc ho hsh hm
  case h_2 hj=>
  split at hq
  case h_2=>cases hq
  case h_1 cc hcc=>
  cases hq
  simp only[Tw,VC]at hq1
  obtain⟨hal,⟨⟨hgg,hle⟩,hsz⟩,hc1⟩:=hq1
  subst hal
  obtain rfl:g=g':=TB hgg
  obtain⟨l1,l2⟩:=ou h hcc hc1
  exact v8 h (.ref k g off n sz c b off' t m hg hb hc ho hsh hm) hk hj (TC hle) (TC hsz) l1 l2
 |@refn E1 w1 k g sz hg hb=>
  rintro rfl rfl q hq hq1
  simp only[oo]at hq
  cases hk:s.at k with
  |none=>rw[hk]at hq;cases hq
  |some p=>
  obtain⟨g',blk⟩:=p
  rw[hk]at hq
  dsimp only at hq
  split at hq
  case h_1 j hj=>
   cases hq
   obtain rfl:g=g':=TB hq1
   have hj':=jM hj
   exact .refn j j sz (List.getElem?_eq_some_iff.1 hj').1 ((fv hj' (AS.at_iff.1 hk)).trans hb)
  case h_2 hj=>
  split at hq
  case h_2=>cases hq
  case h_1 cc hcc=>
  cases hq
  simp only[Tw,VC]at hq1
  obtain⟨hal,⟨⟨hgg,hle⟩,hsz⟩,hc1⟩:=hq1
  subst hal
  obtain rfl:g=g':=TB hgg
  obtain⟨l1,l2⟩:=ou h hcc hc1
  exact v8 h (.refn k g sz hg hb) hk hj (TC hle) (TC hsz) l1 l2
 |@ptr E1 w1 k g off b hg hb=>
  rintro rfl rfl q hq hq1
  simp only[oo]at hq
  cases hk:s.at k with
  |none=>rw[hk]at hq;cases hq
  |some p=>
  obtain⟨g',blk⟩:=p
  rw[hk]at hq
  dsimp only at hq
  split at hq
  case h_1 j hj=>
   cases hq
   obtain rfl:g=g':=TB hq1
   have hj':=jM hj
   exact .ptr j j off b (List.getElem?_eq_some_iff.1 hj').1 ((fv hj' (AS.at_iff.1 hk)).trans hb)
  case h_2 hj=>
  cases hq
  simp only[Tw,VC]at hq1
  obtain⟨hal,hgg,hc1⟩:=hq1
  subst hal
  obtain rfl:g=g':=TB hgg
  obtain⟨l1,l2⟩:=v9 h hc1
  exact JN h (.ptr k g off b hg hb) hk hj l1 l2
 |@ep E1 w1 cells off b o us hlen hd h1 hb ho hr ih=>
  rintro rfl rfl q hq _
  simp only[oo,Option.some.injEq]at hq;subst hq
  exact .ep cells off b o us hlen (fun i d u a1 a2=>(hd i d u a1 a2).step (E:=E1.cl) (E':=(fH s E1 al fp).cl) (w:=w1) (w':=w1) ⟨fun _ hx=>hx.elim,fun _ hx=>hx.elim,TD _,fun _ _ ho=>⟨fun hh=>ho (oq h al fp hh),rfl⟩,fun _ _=>rfl⟩) h1 hb (fun hh=>ho (oq h al fp hh)) hr
 |agg cs us hlen _ h1 ih=>
  rintro rfl rfl q hq hq1
  simp only[oo]at hq
  split at hq
  case h_2=>cases hq
  case h_1 p hp=>
  cases hq
  obtain⟨l1,l2⟩:=L hlen (fun i d u a1 a2=>ih i d u a1 a2 rfl rfl) hp hq1
  exact .agg _ us l1 l2 h1
 |tup cs us hlen _ ih=>
  rintro rfl rfl q hq hq1
  simp only[oo]at hq
  split at hq
  case h_2=>cases hq
  case h_1 p hp=>
  cases hq
  obtain⟨l1,l2⟩:=L hlen (fun i d u a1 a2=>ih i d u a1 a2 rfl rfl) hp hq1
  exact .tup _ us l1 l2
 |ifc t x u _ ih=>
  rintro rfl rfl q hq hq1
  simp only[oo]at hq
  split at hq
  case h_2=>cases hq
  case h_1 p hp=>
  cases hq
  exact .ifc t _ u (ih rfl rfl hp hq1)
 |@fn E1 w1 f fi ca us vs hl1 hl2 hd1 hd2 ih1 ih2=>
  rintro rfl rfl q hq hq1
  simp only[oo]at hq
  split at hq
  case h_2=>cases hq
  case h_1 p p' hp hp'=>
  cases hq
  rw[Tw]at hq1
  obtain⟨l1,l2⟩:=L hl1 (fun i d u a1 a2=>ih1 i d u a1 a2 rfl rfl) hp hq1.1
  obtain⟨l3,l4⟩:=L hl2 (fun i d u a1 a2=>ih2 i d u a1 a2 rfl rfl) hp' hq1.2
  exact .fn f _ _ us vs l1 l3 l2 l4
 |yl=>rintro rfl rfl q hq;cases hq

theorem qa (h:SR cx E s a w){al:Bool}{fp:List Nat}:∀(l:List Nat) (i:Nat),(∀(j:Nat) k,l[j]? =some k→fp[i+j]? =some k)→∀{q:Bool×List Blk},ki s fp l=some q→q.1=true→
  q.2.length=l.length∧(∀k∈l,∃g b,s.at k=some (g,b))∧∀(j:Nat) b,q.2[j]? =some b→HB (fH s E al fp) w (i+j) b
 |[],i,_,q,hq,_=>by simp only[ki,Option.some.injEq]at hq;subst hq;exact⟨rfl,fun k hk=>(by cases hk),fun j b hj=>by simp at hj⟩
 |k::r,i,hsub,q,hq,hq1=>by
  simp only[ki]at hq
  split at hq
  case h_2=>cases hq
  case h_1 p q' hk hq'=>
  obtain⟨g,blk⟩:=p
  have hki:fp[i]? =some k:=hsub 0 k rfl
  have hφ:gY s E fp i=E.φ g:=fv hki (AS.at_iff.1 hk)
  have hi:i<fp.length:=(List.getElem?_eq_some_iff.1 hki).1
  have rec_:q'.1=true→q'.2.length=r.length∧(∀k∈r,∃g b,s.at k=some (g,b))∧∀(j:Nat) b,q'.2[j]? =some b→HB (fH s E al fp) w (i+1+j) b:=fun h1=>qa h r (i+1) (fun j k' hj=>by
   have:=hsub (j+1) k' (by simpa using hj)
   rwa [show i+(j+1)=i+1+j by omega]at this) hq' h1
  have build:∀b':Blk,b'.elem=blk.elem→b'.row=blk.row→b'.cells.length=blk.cells.length→(blk.cells=[]→b'.cells=[])→(∀(j:Nat) d' u,b'.cells[j]? =some d'→(∀d,blk.cells[j]? =some d→RD E w d u)→RD (fH s E al fp) w d' u)→HB (fH s E al fp) w i b':=by
   intro b' e1 e2 e3 e4 e5
   obtain⟨c1,c2⟩:=h.hp k g blk hk
   refine⟨hi,?_⟩
   show match gY s E fp i with|none=>_|some b=>_
   rw[hφ]
   cases hp:E.φ g with
   |none=>rw[hp]at c2;exact⟨e4 c2.1,by rw[e2];exact c2.2⟩
   |some x=>
    rw[hp]at c2
    obtain⟨d1,d2,cur,fr,d3,d4,d5,d6,d7⟩:=c2
    refine⟨.inr ⟨i,hi,hφ.trans hp⟩,d2,cur,fr,by rw[e1];exact d3,d4,by rw[e3];exact d5,fun hr=>by rw[e3];exact d6 (by rw[←e2];exact hr),fun j d' hj=>?_⟩
    have hlt:j<blk.cells.length:=by rw[←e3];exact(List.getElem?_eq_some_iff.1 hj).1
    obtain⟨u,f1,f2,f3⟩:=d7 j blk.cells[j] (Ts hlt)
    exact⟨u,f1,f2,e5 j d' u hj fun d hd=>by rw[Ts hlt]at hd;cases hd;exact f3⟩
  have fin:∀(b':Blk),HB (fH s E al fp) w i b'→q'.1=true→(b'::q'.2).length=(k::r).length∧(∀k'∈k::r,∃g b,s.at k'=some (g,b))∧∀(j:Nat) b,(b'::q'.2)[j]? =some b→HB (fH s E al fp) w (i+j) b:=by
   intro b' hb' h1
   obtain⟨r1,r2,r3⟩:=rec_ h1
   refine⟨by simp[r1],fun k' hk'=>?_,fun j b hj=>?_⟩
   ·rcases List.mem_cons.1 hk' with rfl|hk'
    ·exact⟨g,blk,hk⟩
    ·exact r2 k' hk'
   ·cases j with
    |zero=>simp at hj;subst hj;exact hb'
    |succ j=>rw[show i+(j+1)=i+1+j by omega];exact r3 j b (by simpa using hj)
  have hst:=Stp.toLoc h al fp
  cases hrow:blk.row with
  |true=>
   simp only[hrow,cond_true,Option.some.injEq]at hq
   subst hq
   rw[Tw]at hq1
   exact fin blk (build blk rfl rfl rfl (fun e=>e) fun j d' u hj hd=>((hd d' hj).weak (bn hq1.1 hj)).step hst) hq1.2
  |false=>
   simp only[hrow,cond_false]at hq
   split at hq
   case h_2=>cases hq
   case h_1 c hc=>
   cases hq
   rw[Tw]at hq1
   obtain⟨l1,l2⟩:=k5 _ hc hq1.1
   refine fin ⟨c.2,blk.elem,false⟩ (build _ rfl hrow.symm l1 (fun e=>Ua (by rw[l1,e];rfl)) fun j d' u hj hd=>?_) hq1.2
   have hlt:j<blk.cells.length:=by rw[←l1];exact(List.getElem?_eq_some_iff.1 hj).1
   obtain⟨p',a1,a2,a3⟩:=l2 j _ (Ts hlt)
   rw[hj]at a3;cases a3
   have hx:=pZ h (hd _ (Ts hlt)) rfl rfl a1 a2
   exact hx.step (E:=fH s E true fp) (E':=fH s E al fp) (w:=w) (w':=w) ⟨fun _ hx=>hx,fun _ _=>rfl,TD _,fun b _ hn=>⟨fun hh=>hn (Or.imp (fun hh=>⟨rfl,hh.2⟩) id hh),rfl⟩,fun _ _=>rfl⟩

end
end Go.Vx
namespace Go.Vx
open Go.RowKit Go.Bw

def jh (al:Bool)(O:Nat→Prop)(w:World)(b:Nat):Prop:=if al=true then O b else b<w.heap.size
def Gv (O:Nat→Prop)(w:World)(m:Nat)(φ0:Nat→Option Nat)(r:D)(bs:List Blk)(u:Value)(w':World):Prop:=
 Fr (fun k=>w.heap.size≤k∨∃j,j<m∧φ0 j=some k) w w'∧∃φ,(∀j,j<m→φ j=φ0 j)∧RD (eW O φ bs.length) w' r u∧(∀(j:Nat) b,bs[j]? =some b→HB (eW O φ bs.length) w' j b∧(b.row=true→af b.cells=true))∧
  (∀i j x,i<bs.length→j<bs.length→i≠j→φ i=some x→φ j≠some x)∧∀j x,m≤j→j<bs.length→φ j=some x→w.heap.size≤x
def SpecH (al:Bool)(P:Program)(f:FuncId)(ds:List D)(hin:List Blk)(r:D)(bs:List Blk):Prop:=
 hin.length≤bs.length∧∀(O:Nat→Prop) (φ:Nat→Option Nat) (w:World) (args:List Value),(∀x,O x→x<w.heap.size)→(∀(j:Nat) b,hin[j]? =some b→HB (eW O φ hin.length) w j b)→
  (∀i j x,i<hin.length→j<hin.length→i≠j→φ i=some x→φ j≠some x)→args.length=ds.length→(∀(j:Nat) d u,ds[j]? =some d→args[j]? =some u→RD (eW O φ hin.length) w d u)→
  Calls P f args.toArray w fun e w'=>∃u,e= .returned u∧Gv (jh al O w) w hin.length φ r bs u w'
def QY (al:Bool)(P:Program)(f:FuncId)(ds:List D)(hin:List Blk)(r:D)(bs:List Blk):Prop:=
 hin.length≤bs.length∧∀(O:Nat→Prop) (φ:Nat→Option Nat) (w:World) (args:List Value),(∀x,O x→x<w.heap.size)→(∀(j:Nat) b,hin[j]? =some b→HB (eW O φ hin.length) w j b)→
  (∀i j x,i<hin.length→j<hin.length→i≠j→φ i=some x→φ j≠some x)→args.length=ds.length→(∀(j:Nat) d u,ds[j]? =some d→args[j]? =some u→RD (eW O φ hin.length) w d u)→
  ∃u w',(callFunc f args.toArray).run P w= .ok (.value u) w'∧Gv (jh al O w) w hin.length φ r bs u w'
def az (P:Program)(f:FuncId):Prop:=∃fn,P.funcs[f]? =some fn∧fn.body.isNone=false∧(fn.name== "runtime.NumGoroutine")=false
inductive CallOk (al:Bool) (P:Program) (f:FuncId) (ds:List D) (hin:List Blk) (r:D) (bs:List Blk):Prop
 |fn (h:az P f) (s:SpecH al P f ds hin r bs)
 |ext (s:QY al P f ds hin r bs)
theorem CallOk.len {al:Bool}{P:Program}{f:FuncId}{ds:List D}{hin:List Blk}{r:D}{bs:List Blk}(h:CallOk al P f ds hin r bs):hin.length≤bs.length:=by
 cases h with
 |fn _ s=>exact s.1
 |ext s=>exact s.1
abbrev SD (al:Bool)(P:Program)(f:FuncId)(ds:List D)(r:D)(bs:List Blk):Prop:=SpecH al P f ds [] r bs
abbrev BH (P:Program)(f:FuncId)(ds:List D)(r:D)(bs:List Blk):Prop:=SpecH false P f ds [] r bs

mutual
def dp (κ γ:Nat→Nat):D→D
 | .ref k g off n sz=>.ref (κ k) (γ g) off n sz
 | .ptr k g off=>.ptr (κ k) (γ g) off
 | .agg cs=>.agg (f7 κ γ cs)
 | .tup cs=>.tup (f7 κ γ cs)
 | .ifc t x=>.ifc t (dp κ γ x)
 | .v c=>.v c
 | .sl nn n sz cells=>.sl nn n sz cells
 | .ep cells off=>.ep cells off
 | .fn f fi ca=>.fn f (f7 κ γ fi) (f7 κ γ ca)
 | .yl k g=>.yl (κ k) (γ g)
def f7 (κ γ:Nat→Nat):List D→List D
 |[]=>[]
 |d::r=>dp κ γ d::f7 κ γ r
end
theorem fw (κ γ:Nat→Nat)(l:List D):f7 κ γ l=l.map (dp κ γ):=by
 induction l with
 |nil=>rfl
 |cons d r ih=>simp[f7,ih]
def b7 (κ γ:Nat→Nat)(b:Blk):Blk:=bif b.row then b else⟨f7 κ γ b.cells,b.elem,b.row⟩
theorem io (κ γ:Nat→Nat)(b:Blk):(b7 κ γ b).elem=b.elem∧(b7 κ γ b).row=b.row∧(b7 κ γ b).cells.length=b.cells.length:=by
 unfold b7
 cases hr:b.row<;>simp[hr,fw]

theorem RD.map {E E':Env}{w':World}(κ γ:Nat→Nat){d:D}{u:Value}(h:RD E w' d u):(∀g,E.nm g→E'.nm (γ g)∧E'.φ (γ g)=E.φ g)→(∀b,E'.own b→E.own b)→RD E' w' (dp κ γ d) u:=by
 have cl:∀{E E':Env} {w':World},(∀b,E'.own b→E.own b)→Stp E.cl E'.cl w' w':=fun ho=>⟨fun _ h=>h.elim,fun _ h=>h.elim,TD _,fun b _ hb=>⟨fun h=>hb (ho b h),rfl⟩,fun _ _=>rfl⟩
 induction h with
 |v c h=>intro _ _;exact .v c h
 |@sl E1 w1 nn n size cells a c us hlen hd h1 hn hp hc h0 hr ih=>
  intro hn' ho
  exact((RD.sl nn n size cells a c us hlen hd h1 hn hp hc h0 hr).weak rfl).step (cl ho)|>.ofCl
 |ref k g off n sz c b off' t m hg hb hc ho hsh hm=>intro hn' _;exact .ref _ _ off n sz c b off' t m (hn' g hg).1 ((hn' g hg).2.trans hb) hc ho hsh hm
 |refn k g sz hg hb=>intro hn' _;exact .refn _ _ sz (hn' g hg).1 ((hn' g hg).2.trans hb)
 |ptr k g off b hg hb=>intro hn' _;exact .ptr _ _ off b (hn' g hg).1 ((hn' g hg).2.trans hb)
 |ep cells off b o us hlen hd h1 hb ho hr ih=>
  intro hn' ho'
  exact .ep cells off b o us hlen (fun i d u a1 a2=>(hd i d u a1 a2).step (cl ho')) h1 hb (fun h=>ho (ho' b h)) hr
 |agg cs us hlen _ h1 ih=>
  intro hn' ho
  simp only[dp,fw]
  exact .agg _ us (by simp[hlen]) (fun i d u a1 a2=>by rw[TN,UG]at a1;obtain⟨x,hx,rfl⟩:=a1;exact ih i x u hx a2 hn' ho) h1
 |tup cs us hlen _ ih=>
  intro hn' ho
  simp only[dp,fw]
  exact .tup _ us (by simp[hlen]) (fun i d u a1 a2=>by rw[TN,UG]at a1;obtain⟨x,hx,rfl⟩:=a1;exact ih i x u hx a2 hn' ho)
 |ifc t x u _ ih=>intro hn' ho;exact .ifc t _ u (ih hn' ho)
 |fn f fi ca us vs hl1 hl2 _ _ ih1 ih2=>
  intro hn' ho
  simp only[dp,fw]
  exact .fn f _ _ us vs (by simp[hl1]) (by simp[hl2]) (fun i d u a1 a2=>by rw[TN,UG]at a1;obtain⟨x,hx,rfl⟩:=a1;exact ih1 i x u hx a2 hn' ho)
   (fun i d u a1 a2=>by rw[TN,UG]at a1;obtain⟨x,hx,rfl⟩:=a1;exact ih2 i x u hx a2 hn' ho)
 |yl k g b hg hb=>intro hn' _;exact .yl _ _ b (hn' g hg).1 ((hn' g hg).2.trans hb)

def gZ (fp:List Nat)(ky:Nat)(j:Nat):Nat:=bif VL j fp.length then fp.getD j 0 else ky+(j-fp.length)
def gI (s:AS)(fp:List Nat)(nm:Nat)(j:Nat):Nat:=bif VL j fp.length then(match s.gat (fp.getD j 0)with|some p=>p.1|none=>0)else nm+(j-fp.length)
def ip (κ γ:Nat→Nat):Nat→List Blk→Up
 |_,[]=>[]
 |j,b::r=>(κ j,some (γ j,.b (b7 κ γ b)))::ip κ γ (j+1) r

theorem BI:∀{up:Up} {hp:Tr (Nat×Ob)} {k:Nat} {x:Nat×Ob},(gm up hp).get k=some x→(k,some x)∈up∨((∀p∈up,p.1≠k)∧hp.get k=some x)
 |[],hp,k,x,h=>.inr ⟨fun p hp=>(by cases hp),h⟩
 |p::r,hp,k,x,h=>by
  rcases UX h with⟨e,hv⟩|⟨e,h⟩
  ·obtain⟨a,b⟩:=p
   dsimp only at e hv
   subst e hv;exact .inl TP
  ·rcases BI h with h|⟨h1,h2⟩
   ·exact .inl (TU _ h)
   ·refine .inr ⟨fun q hq=>?_,h2⟩
    rcases List.mem_cons.1 hq with rfl|hq
    ·exact fun h=>e h.symm
    ·exact h1 q hq
theorem mS {κ γ:Nat→Nat}:∀{bs:List Blk} {j k:Nat} {x:Option (Nat×Ob)},(k,x)∈ip κ γ j bs→∃i b,bs[i]? =some b∧k=κ (j+i)∧x=some (γ (j+i),.b (b7 κ γ b))
 |[],_,_,_,h=>by cases h
 |b::r,j,k,x,h=>by
  rcases List.mem_cons.1 h with h|h
  ·cases h;exact⟨0,b,rfl,rfl,rfl⟩
  ·obtain⟨i,b',h1,h2,h3⟩:=mS h
   exact⟨i+1,b',by simpa using h1,by rw[h2,show j+1+i=j+(i+1) by omega],by rw[h3,show j+1+i=j+(i+1) by omega]⟩
theorem k6 {κ γ:Nat→Nat}:∀{bs:List Blk} {j i:Nat},i<bs.length→∃x,(κ (j+i),x)∈ip κ γ j bs
 |[],_,_,h=>by simp at h
 |b::r,j,i,h=>by
  cases i with
  |zero=>exact⟨_,TP⟩
  |succ i=>
   obtain⟨x,hx⟩:=k6 (κ:=κ) (γ:=γ) (bs:=r) (j:=j+1) (i:=i) (by simpa using h)
   exact⟨x,by rw[show j+(i+1)=j+1+i by omega];exact TU _ hx⟩

section
variable {P:Program} {cx:Cx} {E:Env} {s:AS} {a:Act} {w:World}

def rL (κ γ:Nat→Nat)(bs:List Blk)(r:D):D:=match bs with
 |[]=>r
 |_::_=>dp κ γ r
theorem SR.adopt {w':World}(h:SR cx E s a w){nm ky i:Nat}(hi:i∉s.us)(hg:s.nx+8*i=nm){fp:List Nat}(hnd:fp.Nodup)(hfp:∀k∈fp,∃g b,s.at k=some (g,b)){bs:List Blk}(hm:fp.length≤bs.length)(hlen:bs.length≤fp.length+8)
  {r:D} {u:Value} {O:Nat→Prop} (hO:∀b,b<w.heap.size→E.own b→O b) (hgv:Gv O w fp.length (gY s E fp) r bs u w'):
  let s':AS:={s with hp:=gm (ip (gZ fp ky) (gI s fp nm) 0 bs) s.hp,us:=i::s.us}
  ∃E',SR cx E' s' a w'∧Stp E E' w w'∧RD E' w' (rL (gZ fp ky) (gI s fp nm) bs r) u∧Mut s s' E E' w w':=by
 intro s'
 obtain⟨hfr,φ,hφ0,hr,hb,hinj,hlow⟩:=hgv
 let m:=fp.length
 let φ':Nat→Option Nat:=fun n=>if nm≤n∧n<nm+(bs.length-m)then φ (m+(n-nm))else E.φ n
 let nm':Nat→Prop:=fun n=>E.nm n∨(nm≤n∧n<nm+(bs.length-m))
 have hfresh:∀{n},nm≤n→n<nm+(bs.length-m)→¬E.nm n:=fun{n} h1 h2 hn=>by
  have hmm:m=fp.length:=rfl
  rcases h.nm n hn with h3|⟨j,hj,h3,h4⟩
  ·omega
  ·have:j=i:=by omega
   subst this;exact hi hj
 have hold:∀{k g o},s.gat k=some (g,o)→φ' g=E.φ g:=fun hk=>if_neg fun⟨h1,h2⟩=>hfresh h1 h2 (h.ob hk).nm
 have hlt:∀{k g o x},s.gat k=some (g,o)→E.φ g=some x→x<w.heap.size:=fun hk hx=>(h.ob hk).lt hx
 -- the names of the contract
 have hfp':∀{j},j<m→∃k g b,fp[j]? =some k∧s.gat k=some (g,.b b)∧gZ fp ky j=k∧gI s fp nm j=g:=fun{j} hj=>by
  have hk:fp[j]? =some fp[j]:=Ts hj
  obtain⟨g,b,hgb⟩:=hfp _ (UB hk)
  have hgb:=AS.at_iff.1 hgb
  have e0:VL j fp.length=true:=Tv hj
  have e1:fp.getD j 0=fp[j]:=by rw[To,hk];rfl
  exact⟨_,g,b,hk,hgb,by unfold gZ;rw[e0,cond_true,e1],by unfold gI;rw[e0,cond_true,e1,hgb]⟩
 have hnew:∀{j},m≤j→gZ fp ky j=ky+(j-m)∧gI s fp nm j=nm+(j-m):=fun{j} hj=>by
  have e0:VL j fp.length=false:=by
   cases hb:VL j fp.length with
   |false=>rfl
   |true=>have:=TC hb;have hmm:m=fp.length:=rfl;omega
  unfold gZ gI;rw[e0];exact⟨rfl,rfl⟩
 have hγφ:∀{j},j<bs.length→φ' (gI s fp nm j)=φ j:=fun{j} hj=>by
  by_cases hjm:j<m
  ·obtain⟨k,g,b,h1,h2,_,h4⟩:=hfp' hjm
   rw[h4,hold h2,hφ0 j hjm,fv h1 h2]
  ·rw[(hnew (by omega)).2]
   show(if nm≤nm+(j-m)∧nm+(j-m)<nm+(bs.length-m)then φ (m+(nm+(j-m)-nm))else _)=_
   rw[if_pos ⟨by omega,by omega⟩,show m+(nm+(j-m)-nm)=j by omega]
 have hγnm:∀{j},j<bs.length→nm' (gI s fp nm j):=fun{j} hj=>by
  by_cases hjm:j<m
  ·obtain⟨k,g,b,h1,h2,_,h4⟩:=hfp' hjm
   rw[h4];exact .inl (h.ob h2).nm
  ·rw[(hnew (by omega)).2];exact .inr ⟨by omega,by omega⟩
 -- what is kept behind the call
 have hsub:∀{k g o},s'.gat k=some (g,o)→(∃j b,j<bs.length∧bs[j]? =some b∧k=gZ fp ky j∧g=gI s fp nm j∧o= .b (b7 (gZ fp ky) (gI s fp nm) b))∨((∀j,j<bs.length→k≠gZ fp ky j)∧s.gat k=some (g,o)):=fun{k g o} hk=>by
  rcases BI hk with hk|⟨h1,h2⟩
  ·obtain⟨i,b,e1,e2,e3⟩:=mS hk
   rw[T0]at e2 e3
   cases e3
   exact .inl ⟨i,b,(List.getElem?_eq_some_iff.1 e1).1,e1,e2,rfl,rfl⟩
  ·refine .inr ⟨fun j hj e=>?_,h2⟩
   obtain⟨x,hx⟩:=k6 (κ:=gZ fp ky) (γ:=gI s fp nm) (bs:=bs) (j:=0) hj
   rw[T0]at hx
   exact h1 _ hx e.symm
 have hkept:∀{j x},j<bs.length→φ j=some x→(j<m∧bG s E.φ x)∨(m≤j∧w.heap.size≤x):=fun{j x} hj hx=>by
  by_cases hjm:j<m
  ·obtain⟨k,g,b,h1,h2,_,_⟩:=hfp' hjm
   rw[hφ0 j hjm,fv h1 h2]at hx
   exact .inl ⟨hjm,k,g,_,h2,hx⟩
  ·exact .inr ⟨by omega,hlow j x (by show m≤j;omega) hj hx⟩
 have howns:∀x,et E s' φ' x→(E.own x∧x<w.heap.size)∨(∃j,j<bs.length∧φ j=some x):=fun x hx0=>by
  rcases hx0 with hx0|⟨k,g,o,hk,hx⟩
  ·exact .inl ⟨hx0,h.lt x hx0⟩
  rcases hsub hk with⟨j,b,hj,_,_,rfl,_⟩|⟨_,h3⟩
  ·rw[hγφ hj]at hx;exact .inr ⟨j,hj,hx⟩
  ·rw[hold h3]at hx;exact .inl ⟨h.own_of ⟨k,g,o,h3,hx⟩,hlt h3 hx⟩
 have hblk:∀b,b<w.heap.size→¬bG s E.φ b→w'.heap[b]? =w.heap[b]?:=fun b hb hn=>hfr.block b hb fun hm=>by
  rcases hm with hm|⟨j,_,hx⟩
  ·omega
  ·obtain⟨k,g,o,_,h2,h3⟩:=ed hx
   exact hn ⟨k,g,o,h2,h3⟩
 have hs:Stp E ⟨φ',et E s' φ',nm'⟩ w w':=by
  refine⟨fun x hx=>.inl hx,fun x hx=>if_neg fun⟨h1,h2⟩=>hfresh h1 h2 hx,hfr.size,fun b hlt ho=>⟨fun hw=>?_,hblk b hlt fun hh=>ho (h.own_of hh)⟩,hfr.shape⟩
  rcases howns b hw with⟨h1,_⟩|⟨j,hj,hx⟩
  ·exact ho h1
  ·rcases hkept hj hx with⟨_,h1⟩|⟨_,h1⟩
   ·exact ho (h.own_of h1)
   ·omega
 have hownR:∀b,et E s' φ' b→(eW O φ bs.length).own b:=fun b hb=>by
  rcases howns b hb with⟨h0,h1⟩|h1
  ·exact .inl (hO b h1 h0)
  ·exact .inr h1
 have hsR:∀{d:D} {v:Value},RD (eW O φ bs.length).cl w' d v→RD ⟨φ',et E s' φ',nm'⟩ w' d v:=fun hd=>
  RD.ofCl (RD.step (E:=(eW O φ bs.length).cl) (E':=Env.cl ⟨φ',et E s' φ',nm'⟩) (w:=w') ⟨fun _ h=>h.elim,fun _ h=>h.elim,TD _,fun b hlt ho=>⟨fun hw=>ho (hownR b hw),rfl⟩,fun _ _=>rfl⟩ hd)
 have hmap:∀{d:D} {v:Value},RD (eW O φ bs.length) w' d v→RD ⟨φ',et E s' φ',nm'⟩ w' (dp (gZ fp ky) (gI s fp nm) d) v:=fun hd=>hd.map _ _ (fun g hg=>⟨hγnm hg,hγφ hg⟩) hownR
 have hres:RD ⟨φ',et E s' φ',nm'⟩ w' (rL (gZ fp ky) (gI s fp nm) bs r) u:=by
  cases hbs:bs with
  |cons _ _=>exact hmap hr
  |nil=>
   have hr0:=hr
   exact RD.step (E:=eW O φ bs.length) ⟨fun g hg=>absurd hg (by rw[hbs];exact UR g),fun g hg=>absurd hg (by rw[hbs];exact UR g),TD _,fun b hlt ho=>⟨fun hw=>ho (hownR b hw),rfl⟩,fun _ _=>rfl⟩ hr0
 have hob:∀{k g o},s'.gat k=some (g,o)→OB ⟨φ',et E s' φ',nm'⟩ w' g o:=fun{k g o} hk=>by
  rcases hsub hk with⟨j,b,hj,hbj,rfl,rfl,rfl⟩|⟨h2,h3⟩
  ·obtain⟨⟨_,hb1⟩,hcl⟩:=hb j b hbj
   obtain⟨f1,f2,f3⟩:=io (gZ fp ky) (gI s fp nm) b
   refine⟨hγnm hj,?_⟩
   show match φ' (gI s fp nm j)with|none=>_|some x=>_
   have e1:=hγφ hj
   rw[e1]
   have hb1':match φ j with|none=>b.cells=[]∧b.row=true|some x=>(eW O φ bs.length).own x∧x<w'.heap.size∧_:=hb1
   cases hp:φ j with
   |none=>
    rw[hp]at hb1'
    refine⟨?_,by rw[f2];exact hb1'.2⟩
    exact Ua (by rw[f3,hb1'.1];rfl)
   |some x=>
    rw[hp]at hb1'
    obtain⟨_,hlt,cur,fr,c1,c2,c3,c4,c5⟩:=hb1'
    refine⟨.inr ⟨_,_,_,hk,e1.trans hp⟩,hlt,cur,fr,by rw[f1];exact c1,c2,by rw[f3];exact c3,fun hr=>by rw[f3];exact c4 (by rw[←f2];exact hr),fun i d hd=>?_⟩
    unfold b7 at hd
    cases hrow:b.row with
    |true=>
     rw[hrow,cond_true]at hd
     obtain⟨v,v1,v2,v3⟩:=c5 i d hd
     exact⟨v,v1,v2,hsR (v3.weak (bn (hcl hrow) hd))⟩
    |false=>
     rw[hrow,cond_false]at hd
     dsimp only at hd
     rw[fw,TN,UG]at hd
     obtain⟨d0,hd0,rfl⟩:=hd
     obtain⟨v,v1,v2,v3⟩:=c5 i d0 hd0
     exact⟨v,v1,v2,hmap v3⟩
  ·refine(h.ob h3).step hs fun x hx=>⟨.inr ⟨k,g,o,hk,(hold h3).trans hx⟩,?_⟩
   refine hfr.block x (hlt h3 hx) fun hm=>?_
   rcases hm with hm|⟨j,hj,hx'⟩
   ·have:=hlt h3 hx;omega
   ·obtain⟨k',g',b',e1,e2,e3,_⟩:=hfp' hj
    rw[fv e1 e2]at hx'
    have hne:k≠k':=fun e=>h2 j (by have hmm:m=fp.length:=rfl;omega) (by rw[e3];exact e)
    exact h.inj k k' g g' o _ hne h3 e2 x hx hx'
 have hmut:Mut s s' E ⟨φ',et E s' φ',nm'⟩ w w':=⟨fun b hb=>.inl hb,hblk,fun x hlt' ⟨k,g,o,hk,hx⟩=>by
  have hx:φ' g=some x:=hx
  rcases hsub hk with⟨j,b,hj,_,_,rfl,_⟩|⟨_,h3⟩
  ·rw[hγφ hj]at hx
   rcases hkept hj hx with⟨_,h1⟩|⟨_,h1⟩
   ·exact h1
   ·omega
  ·rw[hold h3]at hx;exact⟨k,g,o,h3,hx⟩⟩
 refine⟨⟨φ',et E s' φ',nm'⟩,h.turn φ' nm' rfl hs (fun k g b hk=>hob (AS.at_iff.1 hk)) (fun k g r hk=>hob (AS.lat_iff.1 hk)) ?_ ?_ ?_ ?_ hmut.heap,hs,hres,hmut⟩
 ·intro k1 k2 g1 g2 o1 o2 hkk h1 h2 x hx1 hx2
  have cross:∀{j k g o},j<bs.length→φ j=some x→(∀j,j<bs.length→k≠gZ fp ky j)→s.gat k=some (g,o)→E.φ g=some x→False:=fun{j k g o} hj hx hne h3 hx3=>by
   by_cases hjm:j<m
   ·obtain⟨k',g',b',e1,e2,e3,_⟩:=hfp' hjm
    rw[hφ0 j hjm,fv e1 e2]at hx
    exact h.inj k k' g g' o _ (fun e=>hne j hj (by rw[e3];exact e)) h3 e2 x hx3 hx
   ·have:=hlow j x (by show m≤j;omega) hj hx;have:=hlt h3 hx3;omega
  rcases hsub h1 with⟨j1,b1,hj1,_,e1,e2,_⟩|⟨n1,h3⟩<;>rcases hsub h2 with⟨j2,b2,hj2,_,e3,e4,_⟩|⟨n2,h4⟩
  ·subst e2 e4
   rw[hγφ hj1]at hx1
   rw[hγφ hj2]at hx2
   exact hinj j1 j2 x hj1 hj2 (fun e=>hkk (by rw[e1,e3,e])) hx1 hx2
  ·subst e2
   rw[hγφ hj1]at hx1
   rw[hold h4]at hx2
   exact cross hj1 hx1 n2 h4 hx2
  ·subst e4
   rw[hold h3]at hx1
   rw[hγφ hj2]at hx2
   exact cross hj2 hx2 n1 h3 hx1
  ·rw[hold h3]at hx1
   rw[hold h4]at hx2
   exact h.inj k1 k2 g1 g2 o1 o2 hkk h3 h4 x hx1 hx2
 ·rintro x ⟨k,g,o,hk,hx⟩
  rcases hsub hk with⟨j,b,hj,_,_,rfl,_⟩|⟨_,h3⟩
  ·rw[hγφ hj]at hx
   rcases hkept hj hx with⟨_,h1⟩|⟨_,h1⟩
   ·exact h.low x h1
   ·exact cx.hM x (T6 h.szB h1)
  ·rw[hold h3]at hx;exact h.low x ⟨k,g,o,h3,hx⟩
 ·refine hfr.mono fun k hm=>?_
  rcases hm with hm|⟨j,_,hx⟩
  ·exact cx.hM k (T6 h.szB hm)
  ·obtain⟨k',g,o,_,h2,h3⟩:=ed hx
   exact h.low k ⟨k',g,o,h2,h3⟩
 ·rintro n (hn|⟨h1,h2⟩)
  ·rcases h.nm n hn with h1|⟨j,hj,h1⟩
   ·exact .inl h1
   ·exact .inr ⟨j,TU _ hj,h1⟩
  ·exact .inr ⟨i,TP,by show s.nx+8*i≤n;omega,by show n<s.nx+8*i+8;have hmm:m=fp.length:=rfl;omega⟩
end
end Go.Vx
namespace Go.Vx
open Go.RowKit Go.Bw
section
variable {P:Program} {cx:Cx} {E:Env} {s:AS} {a:Act} {w:World} {i:Nat} {o:Oper} {T:TT}

def xF (T:TT)(s:AS)(ts:Array TypeId)(xs:Array Operand):Ev:=
 match ts.toList,xs.toList with
 |[t],[x]=>match T.get t,ft s x with
  |some ⟨.slice _,_,_,_,_⟩,some (.v (.slice none 0 0))=>.ok (some (.v (.int .i64 0))) []
  |_,_=>.stuck
 |_,_=>.stuck
theorem zC (hT:T.ok P)(h:SR cx E s a w){c:Call}(ho:o.op= .call c)(hc:c.callee= .builtin .cap){v:Option D}{up:Up}(he:(xF T s c.argTypes c.args).run v up):ce P cx E s a w i o v up:=by
 unfold xF at he
 split at he
 case h_2=>exact he.elim
 case h_1 t x hts hxs=>
 split at he
 case h_2=>exact he.elim
 case h_1 e z1 z2 z3 z4 hti hx=>
 obtain⟨rfl,rfl⟩:=he
 have e1:c.argTypes= #[t]:=by apply Vl;simpa using hts
 have e2:c.args.map a.eval= #[a.eval x]:=by apply Vl;rw[VH,hxs];rfl
 have hrx:=h.eval hx
 generalize hux:a.eval x=ux at hrx
 cases hrx
 refine .pure h ?_ (.v _ rfl)
 unfold execOp
 have hu:=(hT t _ hti).1
 simp[ho,resolve,hc,TS,TV,TE,invoke,builtin,e1,e2,hux,Builtin.cap_,run_underlying hu,goInt]

theorem l8 (t tx ty e:TypeId)(j:TypeInfo)(z:Value)(kk:IntKind)(ht:P.underlying t=some (.slice e))(hk:P.underlying tx=some (.int kk))(hi:P.info? e=some j)(hz:j.zero=some z)(k:IntKind)(n:Nat)(h0:0<n)(hs:0<j.size)
  (hn:n≤140737488355328) (hb:n*j.bytes≤140737488355328):
  ∃us:List Value,grownCap w n 0 e*z.cells.size=us.length∧(WB #[t,tx] ty #[.slice none 0 0,.int k n]).run P w= .ok (.slice (some ⟨w.heap.size,0,none⟩) n (grownCap w n 0 e)) (w.drew.alloc (.cells us.toArray e)):=by
 have hw:IntKind.i64.wrap (n:Int)=n:=XW _ (by omega)
 have hne:¬n=0:=by omega
 have hsz:¬j.size=0:=by omega
 have hnx:VP n 0=n:=by unfold VP;rw[if_pos (by omega)]
 have hc:=grownCap_ge w n 0 e
 refine⟨(VS z.cells n).toList++(VS z.cells (grownCap w n 0 e-n)).toList,?_,?_⟩
 ·simp only[Tt,W9,VS,Array.size_map,Array.size_range]
  rw[←UN];congr 1;omega
 ·have h1:¬((n:Int)<0):=by omega
  have h2:¬(281474976710656<(n:Int)*(j.bytes:Int)):=by
   have:((n*j.bytes:Nat):Int)≤140737488355328:=by omega
   rw[YS]at this;omega
  have h3:¬(281474976710656<n*j.bytes):=by omega
  have h4:¬(9223372036854775807<(n:Int)):=by omega
  have h5:¬(n*j.size=0):=by have:=Nat.mul_pos h0 hs;omega
  simp[h5,WB,run_underlying ht,run_underlying hk,sizeOf,typeInfo,zeroValue,hi,hz,asInt,asIntOf,hw,h1,h2,h3,h4,hne,hsz,hnx,Question.forced,WD,newRow,grownCap]
  congr 2
  apply Vl
  simp
def rM (T:TT)(s:AS)(nm ky:Nat)(ts:Array TypeId)(xs:Array Operand):Ev:=
 match ts.toList,xs.toList with
 |[t,tx],[x,y]=>match T.get t,T.get tx,ft s x,ft s y with
  |some ⟨.slice e,_,_,_,_⟩,some ⟨.int _,_,_,_,_⟩,some (.v (.slice none 0 0)),some (.v (.int _ n))=>match T.get e with
   |some ei=>.cond (decide (0<n)&&decide (0<ei.size)&&Tz n.toNat 140737488355328&&Tz (n.toNat*ei.bytes) 140737488355328)
     (.ok (some (.ref ky nm 0 n.toNat ei.size)) [(ky,some (nm,.b ⟨[],e,true⟩)),(ky,none)])
   |none=>.stuck
  |_,_,_,_=>.stuck
 |_,_=>.stuck
theorem wa (hT:T.ok P)(h:SR cx E s a w)(hi:i∉s.us){nm ky:Nat}(hg:s.nx+8*i≤nm∧nm<s.nx+8*i+8){c:Call}(ho:o.op= .call c)(hc:c.callee= .builtin .append){v:Option D}{up:Up}(he:(rM T s nm ky c.argTypes c.args).run v up):
  ce P cx E s a w i o v up:=by
 unfold rM at he
 split at he
 case h_2=>exact he.elim
 case h_1 t tx x y hts hxs=>
 split at he
 case h_2=>exact he.elim
 case h_1 e z1 z2 z3 z4 kk z5 z6 z7 z8 k n hti htx hx hy=>
 split at he
 case h_2=>exact he.elim
 case h_1 ei hei=>
 obtain⟨hcond,rfl,rfl⟩:=he
 simp only[Tw,decide_eq_true_eq]at hcond
 obtain⟨⟨⟨h0,hs0⟩,hn1⟩,hn2⟩:=hcond
 have hn1:=TC hn1
 have hn2:=TC hn2
 obtain⟨m,rfl⟩:=UI (Yo h0)
 simp only[Vf]at hn1 hn2 ⊢
 have e1:c.argTypes= #[t,tx]:=by apply Vl;simpa using hts
 have e2:c.args.map a.eval= #[a.eval x,a.eval y]:=by apply Vl;rw[VH,hxs];rfl
 have run0:∀{u:Value} {w':World},(WB #[t,tx] o.type #[a.eval x,a.eval y]).run P w= .ok u w'→(execOp a.eval o).run P w= .ok (.value u) w':=fun hu=>by
  unfold execOp
  simp only[ho,resolve,hc,TS,TV,TE,invoke,builtin,e1,e2,hu]
 have hrx:=h.eval hx
 have hry:=h.eval hy
 generalize hux:a.eval x=ux at hrx run0
 generalize huy:a.eval y=uy at hry run0
 cases hrx;cases hry
 obtain⟨hu1,hzl,⟨j0,hj1,hj2,hj3,hj4⟩,_⟩:=hT e ei hei
 obtain⟨us,hul,hr⟩:=l8 (P:=P) (w:=w) t tx o.type e j0 ei.zero kk (hT t _ hti).1 (hT tx _ htx).1 hj1 hj2 k m (by omega) (by rw[hj3];exact hs0) hn1 (by rw[hj4];exact hn2)
 obtain⟨k1,k2⟩:=h.kill ky
 have k1':=k1.drew
 obtain⟨q1,q2,q3,q4,q5⟩:=k1'.new (ky:=ky) hi hg e [] us true (0,0) (gS.zero _) (by simp) (fun hh=>by cases hh) (fun j d hj=>by simp at hj)
 refine⟨_,_,(k2.trans (Stp.drew _ w)).trans q2,q1,⟨fun b hb=>q5.own b (.inl hb),fun b hb _=>Vk w.drew _ b hb,fun x hx hw=>?_⟩,.slice (some ⟨w.heap.size,0,none⟩) m (grownCap w m 0 e),?_,?_⟩
 ·obtain⟨k',g',blk',hk',hx'⟩:=q5.old x hx hw
  rcases UX hk' with⟨_,hv⟩|⟨_,hk'⟩
  ·cases hv
  ·exact⟨k',g',blk',hk',hx'⟩
 ·exact run0 hr
 ·have hc2:=grownCap_ge w m 0 e
  have hc3:=grownCap_le_maxLen w m 0 e (by unfold maxLen;omega)
  refine .ref ky nm 0 m ei.size _ w.heap.size 0 e _ q3 q4 ⟨hc2,by unfold maxLen at hc3;unfold fY;omega⟩ (.inl rfl) (aN (b9 w.drew _)) ?_
  simp only[List.size_toArray]
  rw[←hul,hzl];omega

theorem JO (h:SR cx E s a w){d:D}{u:Value}(hr:RD E w d u){dd:TypeDesc}{c:Bool}{n:Nat}{cells:List D}(hs:im s 1 dd d=some (c,n,cells))(hc:c=true)(hsl:cY dd=true)(hn:0<n):
  ∃(ad:Addr) (cap:Nat) (us:List Value),u= .slice (some ad) n cap∧us.length=n∧cells.length=n∧(∀(j:Nat) v,us[j]? =some v→w.cell? (ad.add j)=some v)∧(∀v∈us,v.oneCell'=true)∧∀(j:Nat) e v,cells[j]? =some e→us[j]? =some v→RD E w e v:=by
 cases hr with
 |v cst h1=>
  unfold im at hs
  split at hs
  case h_3 e=>cases e;cases hs;omega
  case h_4 b e=>
   cases e;cases hs
   rw[Tw]at hc
   have:=hc.1
   cases dd<;>simp[il,cY]at this hsl
  all_goals first|(rename_i e;cases e;done)|cases hs
 |sl nn n' sz cs ad c' us hlen hd hone hn' hs' hc2 hnil hr=>
  cases hs
  rw[Tw]at hc
  obtain rfl:sz=1:=TB hc.2
  rcases hr with hr|⟨b,off,rfl,hb,ho',hcell⟩
  ·omega
  ·exact⟨_,_,us,rfl,by omega,by omega,fun j v hv=>by rw[U8];exact hcell j v hv,hone,fun j e v a1 a2=>(hd j e v a1 a2).ofCl⟩
 |ref k g off n' sz c' b off' t m hg hb hc2 hoff hsh hm=>
  simp only[im]at hs
  cases hk:s.at k with
  |none=>rw[hk]at hs;cases hs
  |some p=>
  obtain⟨g',blk⟩:=p
  rw[hk]at hs
  have hs:=Option.some.inj hs
  injection hs with bY gd
  injection gd with gd qE
  subst bY gd qE
  simp only[Tw]at hc
  obtain⟨⟨⟨hst,hgg⟩,hsz⟩,hle⟩:=hc
  have e:g=g':=TB hgg
  subst e
  obtain rfl:sz=1:=TB hsz
  have hle:=TC hle
  obtain⟨hlt,_,cur,fr,hcur,_,hcl,_,hcell⟩:=h.block hk hb
  have hv:Vw E w b 0 blk.cells:=fun j d hj=>by
   obtain⟨v,hv1,hv2,hv3⟩:=hcell j d hj
   exact⟨v,by rw[T0,cell_of_row w b j cur blk.elem fr hcur];exact hv1,hv2,hv3⟩
  obtain⟨us,hl,hrg,h1,hd⟩:=hv.seg hle
  rw[T0]at hrg
  have hcells:(bif Tx off 0&&Tx (n'*1) blk.cells.length then blk.cells else(blk.cells.drop off).take (n'*1))=(blk.cells.drop off).take (n'*1):=by
   cases hq:(Tx off 0&&Tx (n'*1) blk.cells.length)with
   |false=>rfl
   |true=>
    rw[Tw]at hq
    have e1:=TB hq.1
    have e2:=TB hq.2
    subst e1
    rw[cond_true,U4,e2,Uy]
  rw[hcells]
  have hof:off'=off:=by
   rcases hoff with q|⟨q,_⟩
   ·exact q
   ·omega
  subst hof
  exact⟨_,_,us,rfl,by omega,by rw[TR,Ul];omega,fun j v hv=>by rw[U8];exact hrg j v hv,h1,hd⟩
 |refn k g sz hg hb=>
  simp only[im]at hs
  cases hk:s.at k with
  |none=>rw[hk]at hs;cases hs
  |some p=>rw[hk]at hs;cases hs;omega
 |_=>cases hs
def rN (T:TT)(s:AS)(ts:Array TypeId)(xs:Array Operand):Ev:=
 match ts.toList,xs.toList with
 |[t,tx],[x,y]=>match T.get t,T.get tx,ft s x,ft s y with
  |some ⟨.slice e,_,_,_,_⟩,some ti,some (.ref k g off n 1),some dy=>match T.get e,s.at k,im s 1 ti.desc dy with
   |some ei,some p,some (c2,n2,news)=>
    .cond (c2&&cY ti.desc&&Tx ei.size 1&&Tx g p.1&&VL 0 (UW n2 n)&&Tz (off+n) p.2.cells.length)
     (.list (aj p.2.cells off (news.take (UW n2 n))) fun cs=>.ok (some (.v (.int .i64 ((UW n2 n:Nat):Int)))) [(k,some (g,.b ⟨cs,p.2.elem,p.2.row⟩))])
   |_,_,_=>.stuck
  |_,_,_,_=>.stuck
 |_,_=>.stuck
theorem wb (hT:T.ok P)(h:SR cx E s a w){c:Call}(ho:o.op= .call c)(hc:c.callee= .builtin .copy){v:Option D}{up:Up}(he:(rN T s c.argTypes c.args).run v up):ce P cx E s a w i o v up:=by
 unfold rN at he
 split at he
 case h_2=>exact he.elim
 case h_1 t tx x y hts hxs=>
 split at he
 case h_2=>exact he.elim
 case h_1 e z1 z2 z3 z4 ti k g off n dy hti htx hx hy=>
 split at he
 case h_2=>exact he.elim
 case h_1 ei p c2 n2 news hei hp hsrc=>
 obtain⟨g',blk⟩:=p
 obtain⟨hcond,rfl,rfl⟩:=he
 simp only[Tw]at hcond
 obtain⟨⟨⟨⟨⟨hc2,hsl⟩,hsz⟩,hgg⟩,h0⟩,hle⟩:=hcond
 obtain rfl:g=g':=TB hgg
 have hsz:=TB hsz
 have h0:0<UW n2 n:=TC h0
 have hle:=TC hle
 have hm1:UW n2 n≤n2:=YT _ _
 have hm2:UW n2 n≤n:=Nat.min_le_right _ _
 have e1:c.argTypes= #[t,tx]:=by apply Vl;simpa using hts
 have e2:c.args.map a.eval= #[a.eval x,a.eval y]:=by apply Vl;rw[VH,hxs];rfl
 have run0:∀{u:Value} {w':World},(Builtin.copy_ #[t,tx] o.type #[a.eval x,a.eval y]).run P w= .ok u w'→(execOp a.eval o).run P w= .ok (.value u) w':=fun hu=>by
  unfold execOp
  simp only[ho,resolve,hc,TS,TV,TE,invoke,builtin,e1,e2,hu]
 have hrx:=h.eval hx
 have hry:=h.eval hy
 generalize hux:a.eval x=ux at hrx run0
 generalize huy:a.eval y=uy at hry run0
 obtain⟨ad,cap,us,rfl,hul,hnl,hsr,hone,hrd⟩:=JO h hry hsrc hc2 hsl (by omega)
 obtain⟨hu1,hzl,⟨j0,hj1,hj2,hj3,hj4⟩,_⟩:=hT e ei hei
 cases hrx with
 |refn k g sz hg hb=>
  omega
 |ref _ _ _ _ _ cc b off' tt mm hg hb hc3 hoff hsh hmm=>
 have hof:off'=off:=by
  rcases hoff with q|⟨q,_⟩
  ·exact q
  ·omega
 subst hof
 obtain⟨hlt,hown,cur,fr,hcur,hfz,hcl,hrow,hcell⟩:=h.block hp hb
 have hcs:(us.take (UW n2 n)).length=UW n2 n:=by rw[TR];omega
 have hns:(news.take (UW n2 n)).length=UW n2 n:=by rw[TR];omega
 have hfit:∀j,j<(us.take (UW n2 n)).length→off'+j<cur.size:=fun j hj=>by rw[hcs]at hj;omega
 have hr:=run_copy_cells (P:=P) w t tx o.type e b off' n cc ad n2 cap (us.take (UW n2 n)) (hT t _ hti).1 (by rw[hj1];simp only[WA,hj3,hsz]) hcs
  (fun j v hv=>by
   rw[Un]at hv
   split at hv
   ·exact hsr j v hv
   ·cases hv)
  (fun j hj=>by rw[cell_of_row w b _ cur blk.elem fr hcur,Va (hfit j hj)];rfl)
  (fun j hj=>jF w b _ cur blk.elem fr hcur hfz (hfit j hj))
  (fun v hv=>hone v (U1 hv))
 obtain⟨cur',hcur',hsz',hget'⟩:=fO w b off' cur blk.elem fr (us.take (UW n2 n)) hcur (by rw[hcs];omega)
 obtain⟨hgr,hz⟩:=dm b (us.take (UW n2 n)) off' w
 have hst:=h.store (i:=i) hp hb (aj blk.cells off' (news.take (UW n2 n))) (dX (by rw[hns];omega)) hgr hz cur cur' fr hcur hcur' hsz' (fun j e hj=>by
  rw[ci (by rw[hns];omega),hns]at hj
  rw[hget',hcs]
  split at hj
  ·rename_i hr
   rw[if_pos hr]
   have hj1:=(List.getElem?_eq_some_iff.1 hj).1
   rw[hns]at hj1
   have hu:(us.take (UW n2 n))[j-off']? =some (us.take (UW n2 n))[j-off']:=Ts (by rw[hcs];omega)
   refine⟨_,hu,hone _ (U1 (Uo _)),?_⟩
   rw[Un]at hu hj
   rw[if_pos (by omega)]at hu hj
   exact hrd _ _ _ hj hu
  ·rename_i hr
   rw[if_neg hr]
   exact hcell _ _ hj)
 refine⟨_,_,hst.2.1,hst.1,hst.2.2,_,run0 hr,?_⟩
 rw[hcs]
 exact .v _ rfl
end
end Go.Vx
namespace Go.Vx
open Go.RowKit Go.Bw

def wc (T:TT)(s:AS)(nm ky:Nat)(src dst:TypeId)(x:Operand):Ev:=
 match T.get src,T.get dst with
 |some ⟨.slice _,_,_,_,_⟩,some ⟨.slice _,_,_,_,_⟩=>xE T s src dst x
 |some ⟨.slice _,_,_,_,_⟩,_=>xA T s src dst x
 |_,some ⟨.slice _,_,_,_,_⟩=>xB T s nm ky src dst x
 |_,_=>ns T s src dst x
def SE (T:TT)(ts:Array TypeId):Bool:=match ts.toList with
 |[_,tx]=>match T.get tx with
  |some ⟨.int _,_,_,_,_⟩=>true
  |_=>false
 |_=>false
def BJ (T:TT)(s:AS)(nm ky:Nat)(c:Call):Ev:=bif SE T c.argTypes then rM T s nm ky c.argTypes c.args else kU T s nm ky c.argTypes c.args
def wd (T:TT)(s:AS)(nm ky:Nat)(c:Call):Ev:=
 match c.callee with
 | .builtin .len=>wZ T s c.argTypes c.args
 | .builtin .append=>BJ T s nm ky c
 | .builtin .cap=>xF T s c.argTypes c.args
 | .builtin .copy=>rN T s c.argTypes c.args
 | .builtin .min=>tD s false c.args
 | .builtin .max=>tD s true c.args
 |_=>.stuck
def ev (T:TT)(s:AS)(nm ky:Nat)(o:Oper):Ev:=
 match o.op with
 | .move x=>ig s x
 | .assign x=>ig s x
 | .pick c x y=>qZ s c x y
 | .alloc t=>nh T nm ky t
 | .box t x=>wW s nm ky t x
 | .build t ps=>nE T s t ps
 | .buildSlice t n ps=>fQ T s nm ky t n ps
 | .load t x=>ie T s t x
 | .store t x y=>ni T s t x y
 | .binOp op t x y _=>wX T s op t x y
 | .unOp op _ x=>DL s op x
 | .convert src dst x=>wc T s nm ky src dst x
 | .makeInterface t x=>nk T s t x
 | .makeFunc f fi ca=>rJ s f fi ca
 | .makeSlice t l c=>rH T s nm ky t l c
 | .slice t x lo hi mx=>nu T s t x lo hi mx
 | .fieldAddr t x f=>gn T s t x f
 | .field t x f=>nl T s t x f
 | .indexAddr t x ix=>gq T s t x ix
 | .index t x ix=>nq T s t x ix
 | .extract x n=>jG s x n
 | .typeAssert x _ t ok=>EE T s x t ok
 | .call c=>wd T s nm ky c
 | .nilCheck x=>qY s x
 |_=>.stuck


def we (b:Bool)(X:Prop):Prop:=match b with
 |true=>X
 |false=>False
def jZ {α:Type}(o:Option α)(K:α→Prop):Prop:=match o with
 |some x=>K x
 |none=>False
def M2 (b:Bool)(X Y:Prop):Prop:=match b with
 |true=>X
 |false=>Y
structure bytP (cs:List D)(K:List UInt8→Prop):Prop where
 h:∃bs,cs=bs.map dB∧K bs
theorem bA {b:Bool}{X:Prop}:we b X↔b=true∧X:=by cases b<;>simp[we]
theorem aM {α:Type}{o:Option α}{K:α→Prop}:jZ o K↔∃x,o=some x∧K x:=by cases o<;>simp[jZ]
theorem iq {b:Bool}{X Y:Prop}:M2 b X Y↔(b=true→X)∧(b=false→Y):=by cases b<;>simp[M2]

def Ev.vc:Ev→(Option D→Up→Prop)→Prop
 | .ok v up,K=>K v up
 | .cond b k,K=>we b (k.vc K)
 | .opt o k,K=>jZ o fun d=>(k d).vc K
 | .bytes cs k,K=>bytP cs fun bs=>(k bs).vc K
 | .list cs k,K=>(k cs).vc K
 | .stuck,_=>False

theorem Ev.vc_run:∀{e:Ev} {K:Option D→Up→Prop},e.vc K→∃v up,e.run v up∧K v up
 | .ok v up,_,h=>⟨v,up,⟨rfl,rfl⟩,h⟩
 | .cond b k,_,h=>let⟨hb,h⟩:=bA.1 h;let⟨v,up,h1,h2⟩:=Ev.vc_run h;⟨v,up,⟨hb,h1⟩,h2⟩
 | .opt o k,_,h=>let⟨d,hd,h⟩:=aM.1 h;let⟨v,up,h1,h2⟩:=Ev.vc_run h;⟨v,up,⟨d,hd,h1⟩,h2⟩
 | .list cs k,_,h=>let⟨v,up,h1,h2⟩:=Ev.vc_run (e:=k cs) h;⟨v,up,h1,h2⟩
 | .bytes cs k,_,⟨bs,hb,h⟩=>let⟨v,up,h1,h2⟩:=Ev.vc_run h;⟨v,up,⟨bs,hb,h1⟩,h2⟩
 | .stuck,_,h=>h.elim

def eJ (s:AS)(o:Oper):Option (FuncId×List D):=
 match o.op with
 | .call c=>match c.callee with
  | .value x=>match ft s x,gH s c.args.toList with
   |some (.fn (.func f) fi ca),some ds=>some (f,fi++ds++ca)
   |_,_=>none
  |_=>none
 |_=>none

def f8:List Nat→Bool
 |[]=>true
 |k::r=>!(r.any fun x=>Tx x k)&&f8 r
theorem dq:∀{l:List Nat},f8 l=true→l.Nodup
 |[],_=>List.nodup_nil
 |k::r,h=>by
  simp only[f8,Tw,VC]at h
  refine List.nodup_cons.2 ⟨fun hm=>?_,dq h.2⟩
  have:=List.any_eq_false.1 h.1 k hm
  simp at this
structure callP (P:Program)(s:AS)(ds:List D)(f:FuncId)(nm ky:Nat)(K:Option D→Up→Prop):Prop where
 h:∃al fp q hin r bs,jY s al fp ds=some (true,q)∧ki s fp fp=some (true,hin)∧CallOk al P f q hin r bs∧(f8 fp&&Tz bs.length (fp.length+8))=true∧K (some (rL (gZ fp ky) (gI s fp nm) bs r)) (ip (gZ fp ky) (gI s fp nm) 0 bs)

def dY (P:Program)(T:TT)(s:AS)(nm ky:Nat)(o:Oper)(K:Option D→Up→Prop):Prop:=
 match eJ s o with
 |some p=>callP P s p.2 p.1 nm ky K
 |none=>(ev T s nm ky o).vc K

structure FOK (F:Fence):Prop where
 fn:∀f,F.fn f
 dep:F.depth=none
 call:∀{n:Nat} {P:Program} {f:FuncId} {args:Array Value} {w:World} {R:Ending→World→Prop},Calls P f args w R→CallsIn F n P f args w R
theorem FOK.wide:FOK Y1:=⟨fun _=>trivial,rfl,fun h=>callsIn_wide.2 h⟩
theorem FOK.inRound {F:Fence}(h:FOK F)(l:Nat):FOK (F.inRound l):=⟨h.fn,h.dep,fun hc=>CallsIn.inRound l (h.call hc)⟩

theorem g6 {l:List Nat}(h:l.Nodup){i j x:Nat}(h1:l[i]? =some x)(h2:l[j]? =some x):i=j:=by
 obtain⟨a1,b1⟩:=List.getElem?_eq_some_iff.1 h1
 obtain⟨a2,b2⟩:=List.getElem?_eq_some_iff.1 h2
 have hp:=List.pairwise_iff_getElem.1 h
 rcases VR i j with hlt|e|hlt
 ·exact absurd (b1.trans b2.symm) (hp i j a1 a2 hlt)
 ·exact e
 ·exact absurd (b2.trans b1.symm) (hp j i a2 a1 hlt)
section
variable {P:Program} {cx:Cx} {E:Env} {s:AS} {a:Act} {w:World} {i:Nat} {o:Oper} {T:TT} {F:Fence} {n:Nat}

theorem BK (hT:T.ok P)(h:SR cx E s a w)(hi:i∉s.us){nm ky:Nat}(hg:s.nx+8*i≤nm∧nm<s.nx+8*i+8){v:Option D}{up:Up}(he:(ev T s nm ky o).run v up):ce P cx E s a w i o v up:=by
 unfold ev at he
 split at he
 case h_1 ho=>exact nV h (.inl ho) he
 case h_2 ho=>exact nV h (.inr ho) he
 case h_3 ho=>exact vA h ho he
 case h_4 ho=>exact tg hT h hi hg ho he
 case h_5 ho=>exact za h hi hg ho he
 case h_6 ho=>exact ub hT h ho he
 case h_7 ho=>exact l7 hT h hi hg ho he
 case h_8 ho=>exact nU hT h ho he
 case h_9 ho=>exact th hT h ho he
 case h_10 ho=>exact tB hT h ho he
 case h_11 ho=>exact vC h ho he
 case h_12 ho=>
  unfold wc at he
  split at he
  ·exact zz hT h ho he
  ·exact zx hT h ho he
  ·exact zy hT h hi hg ho he
  ·exact tC hT h ho he
 case h_13 ho=>exact tj hT h ho he
 case h_14 ho=>exact v7 h ho he
 case h_15 ho=>exact v6 hT h hi hg ho he
 case h_16 ho=>exact tE hT h ho he
 case h_17 ho=>exact m4 hT h ho he
 case h_18 ho=>exact tn hT h ho he
 case h_19 ho=>exact m5 hT h ho he
 case h_20 ho=>exact tq hT h ho he
 case h_21 ho=>exact pz h ho he
 case h_22 ho=>exact BF hT h ho he
 case h_23 c ho=>
  unfold wd at he
  split at he
  case h_1 hc=>exact zb hT h ho hc he
  case h_2 hc=>
   unfold BJ at he
   cases hz:SE T c.argTypes with
   |true=>rw[hz]at he;exact wa hT h hi hg ho hc he
   |false=>rw[hz]at he;exact rD hT h hi hg ho hc he
  case h_3 hc=>exact zC hT h ho hc he
  case h_4 hc=>exact wb hT h ho hc he
  case h_5 hc=>exact pO h ho (mx:=false) hc he
  case h_6 hc=>exact pO h ho (mx:=true) hc he
  case h_7=>exact he.elim
 case h_24 ho=>exact vz h ho he
 case h_25=>exact he.elim

theorem ir {f:FuncId}(hf:az P f)(args:Array Value):(callFunc f args).run P w= .ok (.enter f args) w:=by
 obtain⟨fn,h1,h2,h3⟩:=hf
 unfold callFunc
 show(match P.funcs[f]? with|none=>stuck _|some fn=>_).run P w=_
 rw[h1]
 simp only[h2,h3,Vh,if_false,V0,TV]

def eK (tm:Tr D)(dst:Option Nat)(v:Option D):Tr D:=
 match dst with
 |some t=>tm.set t v
 |none=>tm
def ji (nt:Nat)(o:Oper):Bool:=match o.dst with|some t=>VL t nt&&XX t|none=>true

def M3 (E:Env)(w:World)(v:Option D)(u:Value):Prop:=match v with|some d=>RD E w d u|none=>u=undef

theorem cV (h:SR cx E s a w)(ho:ji cx.nt o=true){v:Option D}{u:Value}(hr:M3 E w v u):SR cx E {s with tm:=eK s.tm o.dst v} (a.put o.dst u) w:=by
 cases hdst:o.dst with
 |none=>exact h
 |some t=>
  unfold ji at ho
  rw[hdst]at ho
  rw[Tw]at ho
  have:t<cx.nt:=TC ho.1
  cases v with
  |some d=>exact h.put this hr
  |none=>exact h.unput u

theorem rO (hF:FOK F)(hT:T.ok P)(h:SR cx E s a w)(hi:i∉s.us){ky:Nat}{K:Option D→Up→Prop}(hv:dY P T s (s.nx+8*i) ky o K){next:Act→World→Prop}{Q:Exit→Act→World→Prop}
  (hn:∀v up E' w' u,K v up→Stp E E' w w'→SR cx E' {s with hp:=gm up s.hp,us:=i::s.us} a w'→Mut s {s with hp:=gm up s.hp,us:=i::s.us} E E' w w'→M3 E' w' v u→next (a.put o.dst u) w'):
  o.wpIn F n P a w next Q:=by
 refine⟨fun f _=>hF.fn f,?_⟩
 unfold dY at hv
 split at hv
 case h_1 p hp=>
  obtain⟨al,fp,q,hin,r,bs,hq,hin',hcall,hlen,hK⟩:=hv
  rw[Tw]at hlen
  obtain⟨hnd,hlen⟩:=hlen
  unfold eJ at hp
  split at hp
  case h_2=>cases hp
  case h_1 c ho=>
  split at hp
  case h_2=>cases hp
  case h_1 x hc=>
  split at hp
  case h_2=>cases hp
  case h_1 f fi ca ds hx hds=>
  cases hp
  dsimp only at hq hcall
  have hrx:=h.eval hx
  obtain⟨hl1,hl2⟩:=fg h _ _ hds
  generalize hux:a.eval x=ux at hrx
  cases hrx with
  |fn _ _ _ us vs hu1 hu2 hu3 hu4=>
  have hargs:(us++c.args.toList.map a.eval++vs).length=(fi++ds++ca).length∧∀(j:Nat) d u,(fi++ds++ca)[j]? =some d→(us++c.args.toList.map a.eval++vs)[j]? =some u→RD E w d u:=by
   have app:∀{l1 l2:List D} {m1 m2:List Value},m1.length=l1.length→m2.length=l2.length→(∀(j:Nat) d u,l1[j]? =some d→m1[j]? =some u→RD E w d u)→(∀(j:Nat) d u,l2[j]? =some d→m2[j]? =some u→RD E w d u)→
     (m1++m2).length=(l1++l2).length∧∀(j:Nat) d u,(l1++l2)[j]? =some d→(m1++m2)[j]? =some u→RD E w d u:=by
    intro l1 l2 m1 m2 e1 e2 r1 r2
    refine⟨by simp[e1,e2],fun j d u hd hu=>?_⟩
    by_cases hj:j<l1.length
    ·rw[TQ hj]at hd
     rw[TQ (by omega)]at hu
     exact r1 j d u hd hu
    ·rw[TO (by omega)]at hd
     rw[TO (by omega),e1]at hu
     exact r2 _ d u hd hu
   obtain⟨q1,q2⟩:=app hu1 hl1 hu3 hl2
   exact app q1 hu2 q2 hu4
  obtain⟨t1,t2⟩:=k5 _ hq rfl
  obtain⟨i1,i2,i3⟩:=qa h (al:=al) fp 0 (fun j k hj=>by rw[T0];exact hj) hin' rfl
  dsimp only at i1
  have hm:=hcall.len
  have p1:∀x,(al=true∧E.own x)→x<w.heap.size:=fun x hx=>h.lt x hx.2
  have p2:∀(j:Nat) b,hin[j]? =some b→HB (eW (fun b=>al=true∧E.own b) (gY s E fp) hin.length) w j b:=fun j b hj=>by
   have:=i3 j b hj
   rw[T0]at this
   rw[i1];exact this
  have p3:∀i j x,i<hin.length→j<hin.length→i≠j→gY s E fp i=some x→gY s E fp j≠some x:=fun j1 j2 x h1 h2 hne hx1 hx2=>by
   obtain⟨k1,g1,o1,e1,e2,e3⟩:=ed hx1
   obtain⟨k2,g2,o2,e4,e5,e6⟩:=ed hx2
   have hkk:k1≠k2:=fun e=>hne (by
    subst e
    exact g6 (dq hnd) e1 e4)
   exact h.inj k1 k2 g1 g2 o1 o2 hkk e2 e5 x e3 e6
  have p4:(us++c.args.toList.map a.eval++vs).length=q.length:=by rw[hargs.1,t1]
  have p5:∀(j:Nat) d u,q[j]? =some d→(us++c.args.toList.map a.eval++vs)[j]? =some u→RD (eW (fun b=>al=true∧E.own b) (gY s E fp) hin.length) w d u:=fun j d u hd hu=>by
   have hlt:j<(fi++ds++ca).length:=by rw[←t1];exact(List.getElem?_eq_some_iff.1 hd).1
   obtain⟨p,a1,a2,a3⟩:=t2 j _ (Ts hlt)
   rw[hd]at a3;cases a3
   have hrd:=hargs.2 j _ u (Ts hlt) hu
   rw[i1]
   exact pZ h hrd rfl rfl a1 a2
  have fin:∀u w',Gv (jh al (fun b=>al=true∧E.own b) w) w hin.length (gY s E fp) r bs u w'→next (a.put o.dst u) w':=fun u w' hgv=>by
   rw[i1]at hgv
   have hm:=hm
   rw[i1]at hm
   obtain⟨E',s1,s2,s3,s4⟩:=h.adopt (ky:=ky) hi rfl (dq hnd) i2 hm (TC hlen) (fun b hb ho=>by
    unfold jh
    cases al with
    |false=>rw[if_neg (by simp)];exact hb
    |true=>rw[if_pos rfl];exact⟨rfl,ho⟩) hgv
   exact hn _ _ E' w' u hK s2 s1 s4 s3
  have e1:(us.toArray++c.args.map a.eval)++vs.toArray=(us++c.args.toList.map a.eval++vs).toArray:=by apply Vl;simp
  cases hcall with
  |fn hfok hspec=>
   have hsp:=hspec.2 _ _ w _ p1 p2 p3 p4 p5
   have hrun:(o.semAt F.round a.eval).run P w= .ok (.enter f (us++c.args.toList.map a.eval++vs).toArray) w:=by
    rw[Wz _ _ _ (fun c' hc'=>by rw[ho]at hc';cases hc')]
    unfold execOp
    simp only[ho,resolve,hc,TS,Ww,hux,TV,TE,invoke,e1,ir hfok]
   rw[hrun]
   refine⟨fun hd=>(by rw[hF.dep]at hd;cases hd),(hF.call hsp).mono ?_⟩
   rintro e w' ⟨u,rfl,hgv⟩
   exact fin u w' hgv
  |ext hspec=>
   obtain⟨u,w',hr,hgv⟩:=hspec.2 _ _ w _ p1 p2 p3 p4 p5
   have hrun:(o.semAt F.round a.eval).run P w= .ok (.value u) w':=by
    rw[Wz _ _ _ (fun c' hc'=>by rw[ho]at hc';cases hc')]
    unfold execOp
    simp only[ho,resolve,hc,TS,Ww,hux,TV,TE,invoke,e1,hr]
   rw[hrun]
   exact fin u w' hgv
 case h_2 hp=>
  obtain⟨v,up,hrun,hK⟩:=Ev.vc_run hv
  obtain⟨E',w',s1,s2,s4,s3⟩:=BK hT h hi ⟨TD _,by omega⟩ hrun
  have hnd:∀c,o.op≠ .defer c:=fun c hc=>by
   unfold ev at hrun;rw[hc]at hrun;exact hrun.elim
  rw[Wz _ _ _ hnd]
  cases v with
  |some d=>
   obtain⟨u,hu,hr⟩:=s3
   rw[hu]
   exact hn _ _ E' w' u hK s1 s2 s4 hr
  |none=>
   rw[s3]
   exact hn _ _ E' w' undef hK s1 s2 s4 rfl

end
end Go.Vx

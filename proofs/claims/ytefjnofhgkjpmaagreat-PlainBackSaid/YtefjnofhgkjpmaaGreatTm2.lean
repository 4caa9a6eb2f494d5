/- Part 2. -/
import Derived.Test.YtefjnofhgkjpmaaGreatTm1
import Derived.IntWalk
import Derived.Test.YtefjnofhgkjpmaaGreatRows
set_option linter.unusedVariables false
set_option linter.unusedSimpArgs false
set_option maxRecDepth 100000
set_option maxHeartbeats 4000000
open Array renaming getD_eq_getD_getElem? → Xv, getElem?_eq_getElem → WO, replicate → YK, toArray_toList → WF
open BitVec renaming ofInt → Vb, toNat_ofNat → Yk
open Bool renaming and_eq_true → U9, not_eq_false' → ZY, or_eq_false_iff → X5, or_eq_true → Xf
open ByteArray renaming mk → WU
open Go.IntKind renaming i64 → VN, wrap → Vo
open Go.IntWalk renaming i64_in → Zp, u32_in → Zs, u8_in → ZS
open Go.Region renaming wanted → XB
open Go.Vx.Blk renaming mk → U1
open Go.Vx.D renaming ptr → Vh, ref → U6, sl → Vl, tup → V2
open Go.Vx.Tr renaming get_set → X6, ofL → aap, of_ofL → aaq, of_set → WC, okK → Zq
open Inhabited renaming default → mq
open Int renaming natCast_emod → Yy, toNat → AB, toNat_of_nonneg → WS
open List renaming all_cons → YF, all_eq_true → Yx, any_eq_true → Y5, append_assoc → Ve, append_nil → VS, cons_append → XE, eq_nil_of_length_eq_zero → VQ, filterMap_cons → ZK, flatMap_cons → Wf, getD_eq_getElem?_getD → UZ, getElem?_eq_getElem → U4, getElem?_map → Vu, getElem?_of_mem → Wc, getElem_mem → V3, length_append → U2, length_cons → VE, length_map → Vj, length_nil → WZ, map_cons → WM, mem_append_left → WG, mem_cons_of_mem → Vy, mem_cons_self → Vr, mem_filter → Yi, mem_of_getElem? → We, mem_reverse → aao, mem_singleton → XS, pairwise_append → YH, range → Wa, range_succ → XU, replicate → Vk, take_length → Wd
open Nat renaming add_mul → Wt, and_le_left → Zg, and_two_pow_sub_one_eq_mod → XO, beq → U5, beq_refl → Wo, ble → U7, ble_eq_true_of_le → U8, blt → Xl, eq_of_beq_eq_true → Vc, le_of_ble_eq_true → Vf, le_refl → Vd, le_trans → Vq, lt_of_lt_of_le → VZ, lt_or_ge → VL, lt_trichotomy → Xp, mod_eq_of_lt → Wq, mul_one → VG, not_succ_le_zero → YI, or_lt_two_pow → aab, pow_le_pow_right → VD, succ_le_succ → Xa, zero_add → VK, zero_le → VI, zero_lt_one → Xt, zero_mul → WT
open Prod renaming fst → Va, snd → U0
open UInt8 renaming ofNat → V6, toNat → U3, toNat_ofNat' → WQ
namespace Go.Vx
open Go.RowKit Go.Bw
section
variable {P:Program} {cx:Cx} {E:Env} {s:AS} {a:Act} {w:World} {i:Nat} {o:Oper} {T:TT} {F:Fence} {n:Nat}

structure Sub (s S:AS):Prop where
 tm:∀t d,s.tm.get t=some d->S.tm.get t=some d
 hp:∀k g o,s.gat k=some (g,o)->S.gat k=some (g,o)
 nx:s.nx=S.nx

theorem SR.part {S:AS}(h:SR cx E S a w)(hs:Sub s S):SR cx E {s with us:=S.us} a w:=
 {
  fr:=λ t d hd=>h.fr t d (hs.tm t d hd),sz:=h.sz,df:=h.df,hp:=λ k g b hk=>h.hp k g b (AS.at_iff.2 (hs.hp k g _ (AS.at_iff.1 hk))),lp:=λ k g b hk=>h.lp k g b (AS.lat_iff.2 (hs.hp k g _ (AS.lat_iff.1 hk)))
  inj:=λ k k' g g' b b' hkk h1 h2=>h.inj k k' g g' b b' hkk (hs.hp _ _ _ h1) (hs.hp _ _ _ h2)
  lt:=h.lt,low:=λ x ⟨k,g,b,hk,hx⟩=>h.low x ⟨k,g,b,hs.hp k g b hk,hx⟩,base:=h.base,bel:=h.bel,szB:=h.szB,nm:=λ g hg=>by
   have:=h.nm g hg;rw[<-hs.nx]at this;exact this}

def lk:Up->Nat->Option (Option (Nat×Ob))
 |[],_=>none
 |p::r,k=>if p.1=k then some p.2 else lk r k
def oG (up:Up):Bool:=up.all λ p=>Zq p.1
theorem iF:∀{up:Up} (hp:Tr (Nat×Ob)) (k:Nat),oG up=true->(gy up hp).get k=(lk up k).getD (hp.get k)
 |[],hp,k,_=>rfl
 |p::r,hp,k,h=>by
  simp only[oG,YF,U9]at h;show((gy r hp).set p.1 p.2).get k=_;rw[X6 _ _ _ h.1];simp only[lk]
  by_cases e:p.1=k
  ·rw[ZF e.symm,ZF e];rfl
  ·rw[ZE (λ h=>e h.symm),ZE e];exact iF hp k h.2

theorem SR.extend {S:AS}(h:SR cx E S a w)(hs:Sub s S){E':Env}{w':World}{up:Up}(hok:oG up=true){i:Nat}(st:Stp E E' w w')(h':SR cx E' {s with hp:=gy up s.hp,us:=i::S.us} a w')
  (mu:Mut {s with us:=S.us} {s with hp:=gy up s.hp,us:=i::S.us} E E' w w'):SR cx E' {S with hp:=gy up S.hp,us:=i::S.us} a w':=by
 have cases2:∀{k g b},AS.gat {S with hp:=gy up S.hp,us:=i::S.us} k=some (g,b)->AS.gat {s with hp:=gy up s.hp,us:=i::S.us} k=some (g,b)∨(S.gat k=some (g,b)∧s.gat k=none):=fun{k g b} hk=>by
  have hk:(gy up S.hp).get k=some (g,b):=hk;show(gy up s.hp).get k=some (g,b)∨_;rw[iF _ _ hok]at hk ⊢
  cases hu:lk up k with
  |some v=>rw[hu]at hk;exact .inl hk
  |none=>
   rw[hu]at hk;simp only[Option.getD_none]at hk ⊢
   cases hsk:s.hp.get k with
   |none=>exact .inr ⟨hk,hsk⟩
   |some p=>
    obtain⟨g',b'⟩:=p;have hSk:S.gat k=some (g',b'):=hs.hp k g' b' hsk;have hSk':S.hp.get k=some (g',b'):=hSk;rw[hSk']at hk;exact .inl hk
 have own_s:∀{x},bR {s with us:=S.us} E.φ x->∃k g b,s.gat k=some (g,b)∧E.φ g=some x:=λ h=>h
 have notown:∀{k g b x},S.gat k=some (g,b)->s.gat k=none->E.φ g=some x->¬bR {s with us:=S.us} E.φ x:=fun{k g b x} hk hsk hx ho=>by
  obtain⟨k',g',b',h1,h2⟩:=own_s ho;refine h.inj k k' g g' b b' (λ e=>?_) hk (hs.hp _ _ _ h1) x hx h2;subst e;rw[hsk]at h1;cases h1
 have ltS:∀{k g b x},S.gat k=some (g,b)->E.φ g=some x->x<w.heap.size:=λ hk hx=>(h.ob hk).lt hx
 have hob:∀{k g b},AS.gat {S with hp:=gy up S.hp,us:=i::S.us} k=some (g,b)->OB E' w' g b:=fun{k g b} hk=>by
  rcases cases2 hk with h1|⟨h1,h2⟩
  ·exact h'.ob h1
  ·exact(h.ob h1).step st λ x hx=>⟨mu.own x (h.own_of ⟨k,g,b,h1,hx⟩),mu.heap x (ltS h1 hx) (notown h1 h2 hx)⟩
 refine{h' with
  fr:=λ t d hd=>by obtain⟨u,hu,hr⟩:=h.fr t d hd;exact⟨u,hu,hr.step st⟩
  df:=h.df.step mu.own λ b hb hd=>mu.heap b (h.lt b hb) fun⟨k,g,o,hk,hx⟩=>h.unmarked hd ⟨k,g,o,hs.hp _ _ _ hk,hx⟩
  hp:=λ k g b hk=>hob (AS.at_iff.1 hk)
  lp:=λ k g b hk=>hob (AS.lat_iff.1 hk)
  inj:=λ k1 k2 g1 g2 b1 b2 hkk h1 h2 x hx1 hx2=>?_
  nm:=λ g hg=>?_
  low:=λ x ⟨k,g,b,hk,hx⟩=>?_}
 ·have mix:∀{k1 k2 g1 g2 b1 b2 x},AS.gat {s with hp:=gy up s.hp,us:=i::S.us} k1=some (g1,b1)->S.gat k2=some (g2,b2)->s.gat k2=none->E'.φ g1=some x->E'.φ g2=some x->False:=fun{k1 k2 g1 g2 b1 b2 x} h1 h2 h3 hx1 hx2=>by
   have e2:=st.φ g2 (h.ob h2).nm;rw[e2]at hx2;exact notown h2 h3 hx2 (mu.old x (ltS h2 hx2) ⟨k1,g1,b1,h1,hx1⟩)
  rcases cases2 h1 with a1|⟨a1,a2⟩<;>rcases cases2 h2 with c1|⟨c1,c2⟩
  ·exact h'.inj k1 k2 g1 g2 b1 b2 hkk a1 c1 x hx1 hx2
  ·exact mix a1 c1 c2 hx1 hx2
  ·exact mix c1 a1 a2 hx2 hx1
  ·have e1:=st.φ g1 (h.ob a1).nm
   have e2:=st.φ g2 (h.ob c1).nm;rw[e1]at hx1;rw[e2]at hx2;exact h.inj k1 k2 g1 g2 b1 b2 hkk a1 c1 x hx1 hx2
 ·rcases cases2 hk with h1|⟨h1,h2⟩
  ·exact h'.low x ⟨k,g,b,h1,hx⟩
  ·have e2:=st.φ g (h.ob h1).nm
   rw[e2]at hx;exact h.low x ⟨k,g,b,h1,hx⟩
 ·have:=h'.nm g hg
  dsimp only at this ⊢;rw[hs.nx]at this;exact this

theorem Ax {S:AS}(hF:FOK F)(hT:T.ok P)(h:SR cx E S a w)(hs:Sub s S)(hi:i∉S.us){ky:Nat}(hdst:jn cx.nt o=true){K:Option D->Up->Prop}(hv:dX P T {s with us:=S.us} (s.nx+8*i) ky o K)(hok:∀v up,K v up->oG up=true){next:Act->World->Prop}{Q:Exit->Act->World->Prop}
  (hn:∀v up E' a' w',K v up->SR cx E' {S with tm:=ey S.tm o.dst v,hp:=gy up S.hp,us:=i::S.us} a' w'->Stp E E' w w'->Mut S {S with tm:=ey S.tm o.dst v,hp:=gy up S.hp,us:=i::S.us} E E' w w'->next a' w'):o.wpIn F n P a w next Q:=
 rY hF hT (h.part hs) hi hv λ v up E' w' u hK s1 s2 s3 hr=>hn v up E' _ w' hK (da (s:={S with hp:=gy up S.hp,us:=i::S.us}) (h.extend hs (hok v up hK) s1 s2 s3) hdst hr) s1
  ⟨s3.own,λ b hb hno=>s3.heap b hb fun⟨k,g,ob,hk,hx⟩=>hno ⟨k,g,ob,hs.hp _ _ _ hk,hx⟩,λ x hx ⟨k,g,ob,hk,hx'⟩=>by
   have hk:(gy up S.hp).get k=some (g,ob):=hk;rw[iF _ _ (hok v up hK)]at hk
   cases hu:lk up k with
   |some vv=>
    have hk2:AS.gat {s with hp:=gy up s.hp,us:=i::S.us} k=some (g,ob):=by
     show(gy up s.hp).get k=_;rw[iF _ _ (hok v up hK)];rw[hu]at hk ⊢;exact hk
    obtain⟨k',g',o',h1,h2⟩:=s3.old x hx ⟨k,g,ob,hk2,hx'⟩;exact⟨k',g',o',hs.hp _ _ _ h1,h2⟩
   |none=>
    rw[hu]at hk;have hk:S.gat k=some (g,ob):=hk;refine⟨k,g,ob,hk,?_⟩;rw[<-s1.φ g (h.ob hk).nm];exact hx'⟩

def gP:List Operand->List Nat
 |[]=>[]
 | .tmp t::r=>t::gP r
 |_::r=>gP r
def un (tm:Tr D):List Nat->Tr D
 |[]=>.e
 |t::r=>match tm.get t with
  |some d=>(un tm r).set t (some d)
  |none=>un tm r
def ya (tm:Tr D):List Nat->List Nat
 |[]=>[]
 |t::r=>match tm.get t with
  |some d=>BD d++ya tm r
  |none=>ya tm r
def uo (hp:Tr (Nat×Ob)):List Nat->Tr (Nat×Ob)
 |[]=>.e
 |k::r=>match hp.get k with
  |some v=>(uo hp r).set k (some v)
  |none=>uo hp r
theorem jZ (tm:Tr D):∀(ts:List Nat) (t:Nat) (d:D),(un tm ts).get t=some d->t∈ts∧tm.get t=some d
 |[],t,d,h=>by cases h
 |x::r,t,d,h=>by
  simp only[un]at h
  cases hx:tm.get x with
  |none=>rw[hx]at h;obtain⟨h1,h2⟩:=jZ tm r t d h;exact⟨Vy _ h1,h2⟩
  |some v=>
   rw[hx]at h;rcases WC h with⟨rfl,hv⟩|⟨_,h⟩
   ·cases hv;exact⟨Vr,hx⟩
   ·obtain⟨h1,h2⟩:=jZ tm r t d h;exact⟨Vy _ h1,h2⟩
theorem j5 (hp:Tr (Nat×Ob)):∀(ks:List Nat) (k:Nat) v,(uo hp ks).get k=some v->k∈ks∧hp.get k=some v
 |[],t,d,h=>by cases h
 |x::r,t,d,h=>by
  simp only[uo]at h
  cases hx:hp.get x with
  |none=>rw[hx]at h;obtain⟨h1,h2⟩:=j5 hp r t d h;exact⟨Vy _ h1,h2⟩
  |some v=>
   rw[hx]at h;rcases WC h with⟨rfl,hv⟩|⟨_,h⟩
   ·cases hv;exact⟨Vr,hx⟩
   ·obtain⟨h1,h2⟩:=j5 hp r t d h;exact⟨Vy _ h1,h2⟩
def yb (s:AS):Nat->List Nat->List Nat
 |0,ks=>ks
 |f+1,ks=>ks++yb s f (ks.flatMap λ k=>match s.at k with
  |some p=>bif p.2.row then[]else qt p.2.cells
  |none=>[])
def Kd (o:Oper):Bool:=match o.op with
 | .call c=>match c.callee with
  | .builtin _=>false
  |_=>true
 |_=>false
def Ke (o:Oper):Bool:=match o.op with
 | .move _=>true
 | .assign _=>true
 | .nilCheck _=>true
 | .fieldAddr _ _ _=>true
 |_=>false
def HC:Option D->Bool
 |some (.ref _ _ _ _ _)=>true
 |some (.sl _ _ _ _)=>true
 |_=>false
def Nw (s:AS)(o:Oper):Bool:=match o.op with
 | .slice _ (.tmp t) _ _ _=>HC (s.tm.get t)
 | .call c=>match c.callee,c.args.toList with
  | .builtin .len,[.tmp t]=>HC (s.tm.get t)
  |_,_=>false
 |_=>false
def Ay (s:AS)(o:Oper):List Nat:=bif Ke o||Nw s o then[]else bif Kd o then yb s 5 (ya s.tm (gP o.op.operands.toList))else ya s.tm (gP o.op.operands.toList)

structure Rec where
 rt:List Nat
 rk:List Nat
 dst:Option Nat
 v:Option D
 up:Up
 ld:Option (Nat×Nat×Nat×Option D)
def Fh (T:TT)(s:AS)(o:Oper):Option (Nat×Nat×Nat×Option D):=
 match o.op with
 | .load ty (.tmp t)=>match T.get ty,s.tm.get t with
  |some ti,some (.ptr k _ off)=>match s.at k with
   |some p=>bif ti.desc.isRow|| !((Ay s o).any λ x=>U5 x k)|| !((gP o.op.operands.toList).any λ x=>U5 x t)then none else some (k,off,p.1,p.2.cells[off]?)
   |none=>none
  |_,_=>none
 |_=>none
def AS.eff (s:AS)(i:Nat)(r:Rec):AS:={s with tm:=ey s.tm r.dst r.v,hp:=gy r.up s.hp,us:=i::s.us}
def BH (s:AS)(ts ks:List Nat):AS:={tm:=un s.tm ts,hp:=uo s.hp ks,nx:=s.nx,us:=[]}


def ez (o:Oper):List Nat:=(o.after.toList.filter (Region.binds .any)).map (·.on)
def BI (pr:List (List Nat)):Nat->List Oper->Bool
 |_,[]=>true
 |i,o::r=>(ez o).all (λ e=>Xl e i)&&(pr.getD i []).all (λ j=>(ez o).any λ e=>U5 e j||(pr.getD e []).any λ x=>U5 x j)&&BI pr (i+1) r
theorem qz {pr:List (List Nat)}:∀(l:List Oper) (i:Nat),BI pr i l=true->∀(j:Nat) o,l[j]? =some o->(∀e∈ez o,e<i+j)∧∀x∈pr.getD (i+j) [],∃e∈ez o,e=x∨x∈pr.getD e []
 |[],i,_,j,o,h=>by simp at h
 |o'::r,i,h,j,o,hj=>by
  simp only[BI,U9,Yx,Y5,Xf]at h;obtain⟨⟨h1,h2⟩,h3⟩:=h
  cases j with
  |zero=>
   simp at hj;subst hj;refine⟨λ e he=>Vf (h1 e he),λ x hx=>?_⟩;obtain⟨e,he,h4⟩:=h2 x hx;refine⟨e,he,?_⟩;rcases h4 with h4|⟨y,hy,h4⟩
   ·exact .inl (Vc h4)
   ·have:=Vc h4;subst this;exact .inr hy
  |succ j=>
   have:=qz r (i+1) h3 j o (by simpa using hj);rw[show i+1+j=i+(j+1) by omega]at this;exact this

def dA (r:Rec):Bool:=(match r.dst with|some t=>Zq t|none=>true)&&oG r.up
def qD:Up->List Nat
 |[]=>[]
 |p::r=>p.1::qD r
def uq (a b:List Nat):Bool:=a.all λ x=>b.all λ y=>!U5 x y
theorem dK {a b:List Nat}(h:uq a b=true){x:Nat}(h1:x∈a)(h2:x∈b):False:=by
 simp only[uq,Yx]at h;have:=h x h1 x h2;simp at this
def fF (a b:Rec):Bool:=
 uq a.dst.toList b.rt&&uq b.dst.toList a.rt&&uq a.dst.toList b.dst.toList&&uq (qD a.up) b.rk&&uq (qD a.up) (qD b.up)
def dC (a b:Rec):Bool:=fF a b&&uq (qD b.up) a.rk
theorem jp {a b:Rec}(h:dC a b=true):fF a b=true:=by rw[dC,U9]at h;exact h.1
def qE (a b:Rec):Prop:=∃k off g c b2,a.ld=some (k,off,g,c)∧lk b.up k=some (some (g,.b b2))∧b2.cells[off]? =c
def Kf (a b:Rec):Bool:=match a.ld with
 |some p=>match lk b.up p.1 with
  |some (some (g,.b _))=>U5 g p.2.2.1
  |_=>false
 |none=>false
def wq (a b:Rec):Option D:=match a.ld with
 |some p=>match lk b.up p.1 with
  |some (some (_,.b b2))=>b2.cells[p.2.1]?
  |_=>none
 |none=>none
def wt (a:Rec):Option D:=match a.ld with
 |some p=>p.2.2.2
 |none=>none
theorem BJ {a b:Rec}(h:Kf a b=true)(e:wq a b=wt a):qE a b:=by
 unfold Kf at h;unfold wq wt at e
 split at h
 case h_2=>cases h
 case h_1 p hp=>
 rw[hp]at e;dsimp only at e
 split at h
 case h_2=>cases h
 case h_1 g b2 hb=>
 rw[hb]at e;have:=Vc h;subst this;exact⟨p.1,p.2.1,p.2.2.1,p.2.2.2,b2,hp,hb,e⟩
def yc (pr:List (List Nat))(i:Nat)(a:Rec):Nat->List Rec->Bool
 |_,[]=>true
 |j,b::r=>((pr.getD j []).any (λ x=>U5 x i)||dC a b)&&yc pr i a (j+1) r
def wu (pr:List (List Nat)):Nat->List Rec->Bool
 |_,[]=>true
 |i,a::r=>yc pr i a (i+1) r&&wu pr (i+1) r
theorem oH {pr:List (List Nat)}{i:Nat}{a:Rec}:∀(l:List Rec) (j:Nat),yc pr i a j l=true->∀(k:Nat) b,l[k]? =some b->i∈pr.getD (j+k) []∨dC a b=true
 |[],j,_,k,b,h=>by simp at h
 |b'::r,j,h,k,b,hk=>by
  simp only[yc,U9,Xf,Y5]at h
  cases k with
  |zero=>
   simp at hk;subst hk;rcases h.1 with⟨x,hx,h4⟩|h4
   ·have:=Vc h4;subst this;exact .inl hx
   ·exact .inr h4
  |succ k=>
   have:=oH r (j+1) h.2 k b (by simpa using hk);rw[show j+1+k=j+(k+1) by omega]at this;exact this
theorem qF {pr:List (List Nat)}:∀(l:List Rec) (i:Nat),wu pr i l=true->∀(j k:Nat) a b,j<k->l[j]? =some a->l[k]? =some b->(i+j)∈pr.getD (i+k) []∨dC a b=true
 |[],i,_,j,k,a,b,_,h,_=>by simp at h
 |a'::r,i,h,j,k,a,b,hjk,hj,hk=>by
  simp only[wu,U9]at h
  cases k with
  |zero=>omega
  |succ k=>
   cases j with
   |zero=>
    simp at hj;subst hj;have:=oH r (i+1) h.1 k b (by simpa using hk);rw[show i+1+k=i+(k+1) by omega]at this;exact this
   |succ j=>
    have:=qF r (i+1) h.2 j k a b (by omega) (by simpa using hj) (by simpa using hk);rw[show i+1+k=i+(k+1) by omega,show i+1+j=i+(j+1) by omega]at this;exact this

def CF (pr:List (List Nat))(l:List Rec):Prop:=∀(i j:Nat) a b,i<j->l[i]? =some a->l[j]? =some b->i∈pr.getD j []∨dC a b=true∨(fF a b=true∧qE a b)
theorem CF.of_ok {pr:List (List Nat)}{l:List Rec}(h:wu pr 0 l=true):CF pr l:=λ i j a b hij ha hb=>by
 have:=qF l 0 h i j a b hij ha hb;rw[VK,VK]at this;exact this.imp id .inl
def yd (pr:List (List Nat))(i:Nat)(a:Rec):Nat->List Rec->Bool
 |_,[]=>true
 |j,b::r=>((pr.getD j []).any (λ x=>U5 x i)||dC a b||(fF a b&&Kf a b))&&yd pr i a (j+1) r
def wv (pr:List (List Nat)):Nat->List Rec->Bool
 |_,[]=>true
 |i,a::r=>yd pr i a (i+1) r&&wv pr (i+1) r
def Az (pr:List (List Nat))(i:Nat)(a:Rec):Nat->List Rec->List (Option D×Option D)
 |_,[]=>[]
 |j,b::r=>bif (pr.getD j []).any (λ x=>U5 x i)||dC a b then Az pr i a (j+1) r else(wq a b,wt a)::Az pr i a (j+1) r
def HD (pr:List (List Nat)):Nat->List Rec->List (Option D×Option D)
 |_,[]=>[]
 |i,a::r=>Az pr i a (i+1) r++HD pr (i+1) r
theorem oI {pr:List (List Nat)}{i:Nat}{a:Rec}:∀(l:List Rec) (j:Nat),yd pr i a j l=true->(∀p∈Az pr i a j l,p.1=p.2)->∀(k:Nat) b,l[k]? =some b->i∈pr.getD (j+k) []∨dC a b=true∨(fF a b=true∧qE a b)
 |[],j,_,_,k,b,h=>by simp at h
 |b'::r,j,h,hs,k,b,hk=>by
  rw[yd,U9]at h;rw[Az]at hs
  cases k with
  |zero=>
   simp at hk;subst hk
   cases hc:((pr.getD j []).any (λ x=>U5 x i)||dC a b')with
   |true=>
    rw[Xf]at hc;rcases hc with hc|hc
    ·obtain⟨x,hx,h4⟩:=List.any_eq_true.1 hc
     have:=Vc h4;subst this;exact .inl hx
    ·exact .inr (.inl hc)
   |false=>
    rw[hc,Bool.false_or,U9]at h;rw[hc,cond_false]at hs;exact .inr (.inr ⟨h.1.1,BJ h.1.2 (hs _ Vr)⟩)
  |succ k=>
   have hs':∀p∈Az pr i a (j+1) r,p.1=p.2:=λ p hp=>hs p (by cases((pr.getD j []).any (λ x=>U5 x i)||dC a b')<;>simp[hp])
   have:=oI r (j+1) h.2 hs' k b (by simpa using hk);rw[show j+1+k=j+(k+1) by omega]at this;exact this
theorem qG {pr:List (List Nat)}:∀(l:List Rec) (i:Nat),wv pr i l=true->(∀p∈HD pr i l,p.1=p.2)->∀(j k:Nat) a b,j<k->l[j]? =some a->l[k]? =some b->(i+j)∈pr.getD (i+k) []∨dC a b=true∨(fF a b=true∧qE a b)
 |[],i,_,_,j,k,a,b,_,h,_=>by simp at h
 |a'::r,i,h,hs,j,k,a,b,hjk,hj,hk=>by
  rw[wv,U9]at h;rw[HD]at hs
  cases k with
  |zero=>omega
  |succ k=>
   cases j with
   |zero=>
    simp at hj;subst hj;have:=oI r (i+1) h.1 (λ p hp=>hs p (WG _ hp)) k b (by simpa using hk);rw[show i+1+k=i+(k+1) by omega]at this;exact this
   |succ j=>
    have:=qG r (i+1) h.2 (λ p hp=>hs p (List.mem_append_right _ hp)) j k a b (by omega) (by simpa using hj) (by simpa using hk);rw[show i+1+k=i+(k+1) by omega,show i+1+j=i+(j+1) by omega]at this;exact this
theorem CF.of_rx {pr:List (List Nat)}{l:List Rec}(h:wv pr 0 l=true)(hs:∀p∈HD pr 0 l,p.1=p.2):CF pr l:=λ i j a b hij ha hb=>by
 have:=qG l 0 h hs i j a b hij ha hb
 rwa [VK,VK]at this

def aZ:Rec:=⟨[],[],none,none,[],none⟩
def iG (recs:List Rec)(s:AS)(π:List Nat):AS:=π.foldl (λ S i=>S.eff i (recs.getD i aZ)) s
theorem oJ (recs:List Rec)(s:AS)(π:List Nat)(i:Nat):iG recs s (π++[i])=(iG recs s π).eff i (recs.getD i aZ):=by simp[iG]

theorem fb {β:Type}(f:AS->β)(wr:Nat->Option β)(recs:List Rec)(hf:∀S i,f (S.eff i (recs.getD i aZ))=(wr i).getD (f S)):∀(π:List Nat) (S:AS),f (iG recs S π)=((π.filterMap wr).getLast?).getD (f S)
 |[],S=>rfl
 |i::π,S=>by
  have ih:=fb f wr recs hf π (S.eff i (recs.getD i aZ));show f (iG recs (S.eff i (recs.getD i aZ)) π)=_;rw[ih,hf]
  cases hw:wr i with
  |none=>simp[hw]
  |some v=>
   simp only[ZK,hw];rw[List.getLast?_cons]
   cases(π.filterMap wr).getLast?<;>rfl

def bH (recs:List Rec)(t i:Nat):Option (Option D):=if(recs.getD i aZ).dst=some t then some (recs.getD i aZ).v else none
def sd (recs:List Rec)(k i:Nat):Option (Option (Nat×Ob)):=lk (recs.getD i aZ).up k
theorem ww {recs:List Rec}(h:recs.all dA=true)(i:Nat):dA (recs.getD i aZ)=true:=by
 rcases VL i recs.length with hi|hi
 ·have e:recs.getD i aZ=recs[i]:=by simp[hi]
  rw[e];exact List.all_eq_true.1 h _ (V3 hi)
 ·have e:recs.getD i aZ=aZ:=by simp[hi]
  rw[e];rfl
theorem Kg (recs:List Rec)(hok:recs.all dA=true)(t:Nat)(S:AS)(i:Nat):(S.eff i (recs.getD i aZ)).tm.get t=(bH recs t i).getD (S.tm.get t):=by
 have h:=ww hok i;show(ey S.tm (recs.getD i aZ).dst (recs.getD i aZ).v).get t=_;unfold bH
 cases hd:(recs.getD i aZ).dst with
 |none=>rfl
 |some x=>
  rw[dA,hd,U9]at h;simp only[ey,Option.some.injEq];rw[X6 _ _ _ h.1]
  by_cases e:x=t
  ·rw[ZF e.symm,ZF e];rfl
  ·rw[ZE (λ h=>e h.symm),ZE e];rfl
theorem se (recs:List Rec)(hok:recs.all dA=true)(k:Nat)(S:AS)(i:Nat):(S.eff i (recs.getD i aZ)).hp.get k=(sd recs k i).getD (S.hp.get k):=by
 have h:=ww hok i;rw[dA,U9]at h;exact iF _ _ h.2

theorem oK:∀(l m:List Nat),l.Pairwise (· < ·)->m.Pairwise (· < ·)->(∀x,x∈l↔x∈m)->l=m
 |[],[],_,_,_=>rfl
 |[],y::m,_,_,h=>by have:=(h y).2 Vr;cases this
 |x::l,[],_,_,h=>by have:=(h x).1 Vr;cases this
 |x::l,y::m,h1,h2,h=>by
  rw[List.pairwise_cons]at h1 h2;have e:x=y:=by
   rcases List.mem_cons.1 ((h x).1 Vr)with e|hx
   ·exact e
   ·rcases List.mem_cons.1 ((h y).2 Vr)with e|hy
    ·exact e.symm
    ·have:=h1.1 y hy;have:=h2.1 x hx;omega
  subst e;rw[oK l m h1.2 h2.2 λ z=>?_];have:=h z;constructor
  ·intro hz
   rcases List.mem_cons.1 (this.1 (Vy _ hz))with e|hz'
   ·have:=h1.1 z hz;omega
   ·exact hz'
  ·intro hz
   rcases List.mem_cons.1 (this.2 (Vy _ hz))with e|hz'
   ·have:=h2.1 z hz;omega
   ·exact hz'

theorem cO {β:Type}(wr:Nat->Option β)(l:List Nat):l.filterMap wr=(l.filter λ i=>(wr i).isSome).filterMap wr:=by
 induction l with
 |nil=>rfl
 |cons x l ih=>
  cases h:wr x with
  |none=>simp[h,ih]
  |some v=>simp[h,ih]

structure Ord (pr:List (List Nat))(recs:List Rec)(π:List Nat):Prop where
 lin:π.Pairwise λ x y=>y∉pr.getD x []∧x≠y
 cl:∀x∈π,∀y∈pr.getD x [],y∈π
 lt:∀x∈π,x<recs.length

section
variable {pr:List (List Nat)} {recs:List Rec} {π:List Nat}

theorem oM (hcf:CF pr recs)(ho:Ord pr recs π){m:Nat}(W:Nat->Bool)(hW:∀x y,x<recs.length->y<recs.length->x<y->W x=true->W y=true->fF (recs.getD x aZ) (recs.getD y aZ)=false)
  (hmem:∀x,W x=true->(x∈π↔x<m)):π.filter W=(Wa m).filter W:=by
 refine oK _ _ ?_ (List.Pairwise.filter _ (List.pairwise_lt_range)) λ x=>?_
 ·have h1:=ho.lin.filter W
  refine h1.imp_of_mem fun{x y} hx hy ⟨h2,h3⟩=>?_
  rw[Yi]at hx hy;rcases Xp x y with h|h|h
  ·exact h
  ·exact absurd h h3
  ·have hxl:=ho.lt x hx.1
   have hyl:=ho.lt y hy.1;have:=hcf y x (recs.getD y aZ) (recs.getD x aZ) h (by simp[hyl]) (by simp[hxl]);rcases this with h4|h4|h4
   ·exact absurd h4 h2
   ·have h4:=jp h4;rw[hW y x hyl hxl h hy.2 hx.2]at h4;cases h4
   ·have h4:=h4.1;rw[hW y x hyl hxl h hy.2 hx.2]at h4;cases h4
 ·rw[Yi,Yi,List.mem_range]
  constructor
  ·rintro⟨h1,h2⟩;exact⟨(hmem x h2).1 h1,h2⟩
  ·rintro⟨h1,h2⟩;exact⟨(hmem x h2).2 h1,h2⟩

theorem Kh {a b:Rec}{t:Nat}(ha:a.dst=some t)(hb:b.dst=some t):fF a b=false:=by
 cases h:fF a b with
 |false=>rfl
 |true=>
  simp only[fF,U9]at h;exact(dK h.1.1.2 (x:=t) (by simp[ha]) (by simp[hb])).elim
theorem dL {up:Up}{k:Nat}(h:(lk up k).isSome=true):k∈qD up:=by
 induction up with
 |nil=>simp[lk]at h
 |cons p r ih=>
  simp only[lk]at h
  by_cases e:p.1=k
  ·subst e;exact Vr
  ·rw[ZE e]at h;exact Vy _ (ih h)
theorem BK {a b:Rec}{k:Nat}(ha:(lk a.up k).isSome=true)(hb:(lk b.up k).isSome=true):fF a b=false:=by
 cases h:fF a b with
 |false=>rfl
 |true=>
  simp only[fF,U9]at h;exact(dK h.2 (dL ha) (dL hb)).elim

theorem ye (hcf:CF pr recs)(ho:Ord pr recs π){m:Nat}(hm:m<=recs.length){β:Type}(f:AS->β)(wr:Nat->Option β)(hf:∀S i,f (S.eff i (recs.getD i aZ))=(wr i).getD (f S))
  (hww:∀x y,x<recs.length->y<recs.length->(wr x).isSome=true->(wr y).isSome=true->fF (recs.getD x aZ) (recs.getD y aZ)=false)
  (hout:∀x,recs.length<=x->wr x=none)
  (hread:m=recs.length∧(∀x,x<m->x∈π)∨(m∉π∧(∀y∈pr.getD m [],y∈π)∧m<recs.length∧∀x,x<recs.length->(wr x).isSome=true->fF (recs.getD x aZ) (recs.getD m aZ)=false∧dC (recs.getD m aZ) (recs.getD x aZ)=false∧(fF (recs.getD m aZ) (recs.getD x aZ)=true->¬qE (recs.getD m aZ) (recs.getD x aZ)))) (s:AS):
  f (iG recs s π)=f (iG recs s (Wa m)):=by
 rw[fb f wr recs hf,fb f wr recs hf,cO wr π,cO wr (Wa m),
  oM hcf ho (m:=m) (λ i=>(wr i).isSome) (λ x y hx hy _ h1 h2=>hww x y hx hy h1 h2) λ x hx=>?_]
 have hxl:x<recs.length:=by
  rcases VL x recs.length with h|h
  ·exact h
  ·rw[hout x h]at hx;cases hx
 rcases hread with⟨rfl,hall⟩|⟨hmn,hpr,hml,hr⟩
 ·exact⟨λ _=>hxl,λ _=>hall x hxl⟩
 ·obtain⟨r1,r2,r3⟩:=hr x hxl hx
  constructor
  ·intro hxp
   rcases Xp x m with h|h|h
   ·exact h
   ·subst h;exact absurd hxp hmn
   ·have:=hcf m x (recs.getD m aZ) (recs.getD x aZ) h (by simp[hml]) (by simp[hxl])
    rcases this with h4|h4|h4
    ·exact absurd (ho.cl x hxp m h4) hmn
    ·rw[r2]at h4;cases h4
    ·exact absurd h4.2 (r3 h4.1)
  ·intro h
   have:=hcf x m (recs.getD x aZ) (recs.getD m aZ) h (by simp[hxl]) (by simp[hml]);rcases this with h4|h4|h4
   ·exact hpr x h4
   ·have h4:=jp h4;rw[r1]at h4;cases h4
   ·have h4:=h4.1;rw[r1]at h4;cases h4

theorem qH (hok:recs.all dA=true)(hcf:CF pr recs)(ho:Ord pr recs π){m t:Nat}(hm:m<=recs.length)
  (hread:m=recs.length∧(∀x,x<m->x∈π)∨(m∉π∧(∀y∈pr.getD m [],y∈π)∧m<recs.length∧t∈(recs.getD m aZ).rt)) (s:AS):(iG recs s π).tm.get t=(iG recs s (Wa m)).tm.get t:=by
 have dst:∀{x},(bH recs t x).isSome=true->(recs.getD x aZ).dst=some t:=fun{x} h=>by
  unfold bH at h;split at h
  ·assumption
  ·cases h
 refine ye hcf ho hm (λ S=>S.tm.get t) (bH recs t) (λ S i=>Kg recs hok t S i) (λ x y _ _ h1 h2=>Kh (dst h1) (dst h2)) (λ x hx=>by simp[bH,aZ,hx]) (hread.imp id fun⟨h1,h2,h3,h4⟩=>⟨h1,h2,h3,λ x _ hx=>⟨?_,?_,λ q=>absurd q ?_⟩⟩) s
 ·cases h:fF (recs.getD x aZ) (recs.getD m aZ)with
  |false=>rfl
  |true=>
   simp only[fF,U9]at h;exact(dK h.1.1.1.1 (x:=t) (by rw[dst hx];exact Vr) h4).elim
 ·cases h:dC (recs.getD m aZ) (recs.getD x aZ)with
  |false=>rfl
  |true=>
   have h:=jp h;simp only[fF,U9]at h;exact(dK h.1.1.1.2 (x:=t) (by rw[dst hx];exact Vr) h4).elim
 ·intro h
  simp only[fF,U9]at h;exact(dK h.1.1.1.2 (x:=t) (by rw[dst hx];exact Vr) h4).elim
theorem qI (hok:recs.all dA=true)(hcf:CF pr recs)(ho:Ord pr recs π){m k:Nat}(hm:m<=recs.length)
  (hread:m=recs.length∧(∀x,x<m->x∈π)∨(m∉π∧(∀y∈pr.getD m [],y∈π)∧m<recs.length∧k∈(recs.getD m aZ).rk∧(recs.getD m aZ).ld=none)) (s:AS):(iG recs s π).hp.get k=(iG recs s (Wa m)).hp.get k:=by
 refine ye hcf ho hm (λ S=>S.hp.get k) (sd recs k) (λ S i=>se recs hok k S i) (λ x y _ _ h1 h2=>BK h1 h2) (λ x hx=>by simp[sd,aZ,hx,lk]) (hread.imp id fun⟨h1,h2,h3,h4,h5⟩=>⟨h1,h2,h3,λ x _ hx=>⟨?_,?_,λ _ ⟨k',off,g,c,b2,h6,_⟩=>by rw[h5]at h6;cases h6⟩⟩) s
 ·cases h:fF (recs.getD x aZ) (recs.getD m aZ)with
  |false=>rfl
  |true=>
   simp only[fF,U9]at h;exact(dK h.1.2 (dL hx) h4).elim
 ·cases h:dC (recs.getD m aZ) (recs.getD x aZ)with
  |false=>rfl
  |true=>
   rw[dC,U9]at h;exact(dK h.2 (dL hx) h4).elim
theorem qJ {α:Type}(Q:α->Prop)[DecidablePred Q]:∀l:List α,(∃x∈l,Q x)->∃l1 z l2,l=l1++z::l2∧Q z∧∀x∈l2,¬Q x
 |[],⟨x,h,_⟩=>by cases h
 |y::l,⟨x,h,hq⟩=>by
  by_cases hl:∃x∈l,Q x
  ·obtain⟨l1,z,l2,rfl,h1,h2⟩:=qJ Q l hl
   exact⟨y::l1,z,l2,rfl,h1,h2⟩
  ·rcases List.mem_cons.1 h with rfl|h
   ·exact⟨[],x,l,rfl,hq,λ z hz q=>hl ⟨z,hz,q⟩⟩
   ·exact absurd ⟨x,h,hq⟩ hl
theorem Fi (hok:recs.all dA=true)(hcf:CF pr recs)(ho:Ord pr recs π){m k off g:Nat}{c:Option D}(hml:m<recs.length)(hmn:m∉π)(hpr:∀y∈pr.getD m [],y∈π)(hld:(recs.getD m aZ).ld=some (k,off,g,c))(hrk:k∈(recs.getD m aZ).rk)(s:AS){b:Blk}
  (hb:(iG recs s (Wa m)).hp.get k=some (g,.b b)) (hc:b.cells[off]? =c):∃b2,(iG recs s π).hp.get k=some (g,.b b2)∧b2.cells[off]? =c:=by
 have hww:∀x y,(sd recs k x).isSome=true->(sd recs k y).isSome=true->fF (recs.getD x aZ) (recs.getD y aZ)=false:=λ x y h1 h2=>BK h1 h2
 have early:∀x,x<m->(sd recs k x).isSome=true->x∈π:=λ x hx hw=>by
  have hno:fF (recs.getD x aZ) (recs.getD m aZ)≠true:=λ h=>by
   simp only[fF,U9]at h;exact(dK h.1.2 (dL hw) hrk).elim
  rcases hcf x m (recs.getD x aZ) (recs.getD m aZ) hx (by simp[show x<recs.length by omega]) (by simp[hml])with h4|h4|h4
  ·exact hpr x h4
  ·exact absurd (jp h4) hno
  ·exact absurd h4.1 hno
 have out:∀x,(sd recs k x).isSome=true->x<recs.length:=λ x hw=>by
  rcases VL x recs.length with h|h
  ·exact h
  ·simp[sd,aZ,h,lk]at hw
 by_cases hE:∃y∈π,m<y∧(sd recs k y).isSome=true
 ·obtain⟨y,hy,hmy,hwy⟩:=hE
  obtain⟨l1,z,l2,hπ,hz,hl2⟩:=qJ (λ x=>(sd recs k x).isSome=true) π ⟨y,hy,hwy⟩;have hzl:=out z hz;have hzπ:z∈π:=by rw[hπ];simp
  have hmz:m<z:=by
   rcases Xp m z with h|h|h
   ·exact h
   ·exact absurd (h▸hzπ) hmn
   ·have hyz:z<y:=by omega
    have hord:z∈pr.getD y []:=by
     rcases hcf z y (recs.getD z aZ) (recs.getD y aZ) hyz (by simp[hzl]) (by simp[out y hwy])with h4|h4|h4
     ·exact h4
     ·have h4:=jp h4;rw[hww z y hz hwy]at h4;cases h4
     ·have h4:=h4.1;rw[hww z y hz hwy]at h4;cases h4
    have hy1:y∈l1:=by
     rw[hπ]at hy;rcases List.mem_append.1 hy with h5|h5
     ·exact h5
     ·rcases List.mem_cons.1 h5 with h5|h5
      ·omega
      ·exact absurd hwy (hl2 y h5)
    have hlin:=ho.lin;rw[hπ,YH]at hlin;exact absurd hord (hlin.2.2 y hy1 z Vr).1
  have hst:qE (recs.getD m aZ) (recs.getD z aZ):=by
   rcases hcf m z (recs.getD m aZ) (recs.getD z aZ) hmz (by simp[hml]) (by simp[hzl])with h4|h4|h4
   ·exact absurd (ho.cl z hzπ m h4) hmn
   ·rw[dC,U9]at h4
    exact(dK h4.2 (dL hz) hrk).elim
   ·exact h4.2
  obtain⟨k',off',g',c',b2,e1,e2,e3⟩:=hst;rw[hld]at e1;simp only[Option.some.injEq,Prod.mk.injEq]at e1;obtain⟨rfl,rfl,rfl,rfl⟩:=e1;refine⟨b2,?_,e3⟩;rw[fb (λ S=>S.hp.get k) (sd recs k) recs (λ S i=>se recs hok k S i),hπ,List.filterMap_append,ZK];have hn:l2.filterMap (sd recs k)=[]:=List.filterMap_eq_nil_iff.2 λ x hx=>by
   cases hq:sd recs k x with
   |none=>rfl
   |some v=>exact absurd (by rw[hq];rfl) (hl2 x hx)
  have hwz:sd recs k z=some (some (g,.b b2)):=e2;rw[hwz];dsimp only;rw[hn,List.getLast?_append];rfl
 ·refine⟨b,?_,hc⟩
  rw[<-hb,fb (λ S=>S.hp.get k) (sd recs k) recs (λ S i=>se recs hok k S i),fb (λ S=>S.hp.get k) (sd recs k) recs (λ S i=>se recs hok k S i),cO (sd recs k) π,cO (sd recs k) (Wa m),
   oM hcf ho (m:=m) (λ i=>(sd recs k i).isSome) (λ x y _ _ _ h1 h2=>hww x y h1 h2) λ x hx=>⟨λ hxp=>?_,λ h=>early x h hx⟩]
  rcases Xp x m with h|h|h
  ·exact h
  ·exact absurd (h▸hxp) hmn
  ·exact absurd ⟨x,hxp,h,hx⟩ hE
end

def qK (T:TT)(s:AS)(o:Oper)(v:Option D)(up:Up):Rec:=⟨gP o.op.operands.toList,Ay s o,o.dst,v,up,Fh T s o⟩
def dT (T:TT)(s:AS)(t:Nat)(o:Oper)(v:Option D)(up:Up):Rec:=⟨t::gP o.op.operands.toList,Ay s o,o.dst,v,up,Fh T s o⟩
def eD (s:AS)(o:Oper):AS:=BH s (gP o.op.operands.toList) (Ay s o)
structure okcP (pr:List (List Nat))(log:List Rec):Prop where
 cf:CF pr log.reverse
 ok:log.all dA=true
theorem okcP.of {pr:List (List Nat)}{log:List Rec}(h:(wu pr 0 log.reverse&&log.all dA)=true):okcP pr log:=by
 rw[U9]at h;exact⟨CF.of_ok h.1,h.2⟩
theorem okcP.rx {pr:List (List Nat)}{log:List Rec}(h:(wv pr 0 log.reverse&&log.all dA)=true)(hs:∀p∈HD pr 0 log.reverse,p.1=p.2):okcP pr log:=by
 rw[U9]at h;exact⟨CF.of_rx h.1 hs,h.2⟩
def nu (P:Program)(T:TT)(nt kb:Nat)(all:List Oper)(pr:List (List Nat)):Nat->List Oper->AS->List Rec->(AS->Prop)->Prop
 |_,[],s,log,K=>okcP pr log∧K s
 |i,o::r,s,log,K=>wo (jn nt o) (match o.guard with
  |none=>dX P T (eD s o) (s.nx+8*i) (s.nx+8*i) o λ v up=>nu P T nt kb all pr (i+1) r (s.eff i (qK T s o v up)) (qK T s o v up::log) K
  |some jw=>match(all[jw.1]?).bind (·.dst)with
   |some t=>match s.tm.get t with
    |some (.v (.bool b))=>Nt b
     (bif jw.2 then dX P T (eD s o) (s.nx+8*i) (s.nx+8*i) o λ v up=>nu P T nt kb all pr (i+1) r (AS.eff {s with tm:=s.tm.set t (some (.v (.bool true)))} i (dT T s t o v up)) (dT T s t o v up::log) K
      else nu P T nt kb all pr (i+1) r (AS.eff {s with tm:=s.tm.set t (some (.v (.bool true)))} i ⟨[t],[],o.dst,some (.tup []),[],none⟩) (⟨[t],[],o.dst,some (.tup []),[],none⟩::log) K)
     (bif jw.2 then nu P T nt kb all pr (i+1) r (AS.eff {s with tm:=s.tm.set t (some (.v (.bool false)))} i ⟨[t],[],o.dst,some (.tup []),[],none⟩) (⟨[t],[],o.dst,some (.tup []),[],none⟩::log) K
      else dX P T (eD s o) (s.nx+8*i) (s.nx+8*i) o λ v up=>nu P T nt kb all pr (i+1) r (AS.eff {s with tm:=s.tm.set t (some (.v (.bool false)))} i (dT T s t o v up)) (dT T s t o v up::log) K)
    |some (.tup [])=>nu P T nt kb all pr (i+1) r (s.eff i ⟨[t],[],o.dst,some (.tup []),[],none⟩) (⟨[t],[],o.dst,some (.tup []),[],none⟩::log) K
    |_=>False
   |none=>False)

theorem gD {nm ky:Nat}{K:Option D->Up->Prop}(h:dX P T s nm ky o K):∃v up,dX P T s nm ky o (λ v' up'=>v'=v∧up'=up)∧K v up:=by
 unfold dX at h ⊢
 split at h
 case h_1 p hp=>
  obtain⟨al,fp,q,hin,r,bs,h1,h2,h4,h5,h6⟩:=h.h;exact⟨_,_,⟨al,fp,q,hin,r,bs,h1,h2,h4,h5,rfl,rfl⟩,h6⟩
 case h_2 hp=>
  have key:∀(e:Ev) (K:Option D->Up->Prop),e.vc K->∃v up,e.vc (λ v' up'=>v'=v∧up'=up)∧K v up:=by
   intro e
   induction e with
   |ok v up=>intro K h;exact⟨v,up,⟨rfl,rfl⟩,h⟩
   |cond b k ih=>intro K h;obtain⟨h0,h⟩:=bF.1 h;obtain⟨v,up,h1,h2⟩:=ih K h;exact⟨v,up,bF.2 ⟨h0,h1⟩,h2⟩
   |opt o k ih=>intro K h;obtain⟨d,hd,h⟩:=aP.1 h;obtain⟨v,up,h1,h2⟩:=ih d K h;exact⟨v,up,aP.2 ⟨d,hd,h1⟩,h2⟩
   |bytes cs k ih=>intro K h;obtain⟨bs,hb,h⟩:=h.h;obtain⟨v,up,h1,h2⟩:=ih bs K h;exact⟨v,up,⟨bs,hb,h1⟩,h2⟩
   |list cs k ih=>intro K h;exact ih cs K h
   |stuck=>intro K h;exact h.elim
  exact key _ K h

structure AEq (s s':AS):Prop where
 tm:∀t,s.tm.get t=s'.tm.get t
 hp:∀k,s.hp.get k=s'.hp.get k
 nx:s.nx=s'.nx
theorem AEq.refl (s:AS):AEq s s:=⟨λ _=>rfl,λ _=>rfl,rfl⟩
theorem AEq.eff {s s':AS}(h:AEq s s')(i j:Nat)(r:Rec)(hr:dA r=true):AEq (s.eff i r) (s'.eff j r):=by
 rw[dA,U9]at hr;refine⟨λ t=>?_,λ k=>?_,h.nx⟩
 ·show(ey s.tm r.dst r.v).get t=(ey s'.tm r.dst r.v).get t
  cases hd:r.dst with
  |none=>exact h.tm t
  |some x=>
   rw[hd]at hr;simp only[ey];rw[X6 _ _ _ hr.1,X6 _ _ _ hr.1,h.tm]
 ·show(gy r.up s.hp).get k=(gy r.up s'.hp).get k
  rw[iF _ _ hr.2,iF _ _ hr.2,h.hp]
theorem AEq.know {s s':AS}(h:AEq s s'){t:Nat}{d:D}(ht:s.tm.get t=some d)(hok:Zq t=true):AEq {s with tm:=s.tm.set t (some d)} s':=
 ⟨λ x=>by
  rw[X6 _ _ _ hok]
  by_cases e:x=t
  ·subst e;rw[ZF rfl,<-h.tm,ht]
  ·rw[ZE e];exact h.tm x,h.hp,h.nx⟩

def Ud (T:TT)(S:AS)(ts:List Nat)(o:Oper)(r:Rec):Prop:=∀k off g c,r.ld=some (k,off,g,c)->∃ty t ti gp b,o.op= .load ty (.tmp t)∧T.get ty=some ti∧ti.desc.isRow=false∧t∈ts∧S.tm.get t=some (.ptr k gp off)∧S.hp.get k=some (g,.b b)∧b.cells[off]? =c∧k∈r.rk
theorem BL {T:TT}{s S:AS}{o:Oper}{r:Rec}(he:AEq s S)(h:r.ld=Fh T s o)(hk:r.rk=Ay s o):Ud T S (gP o.op.operands.toList) o r:=λ k off g c q=>by
 rw[h]at q;unfold Fh at q
 split at q
 case h_2=>cases q
 case h_1 ty t ho=>
 split at q
 case h_2=>cases q
 case h_1 ti k' gp off' h1 h2=>
 split at q
 case h_2=>cases q
 case h_1 p hp=>
 cases hb:(ti.desc.isRow|| !((Ay s o).any λ x=>U5 x k')|| !((gP o.op.operands.toList).any λ x=>U5 x t))with
 |true=>rw[hb]at q;cases q
 |false=>
  rw[hb]at q;simp only[cond_false,Option.some.injEq,Prod.mk.injEq]at q;obtain⟨rfl,rfl,rfl,rfl⟩:=q;rw[X5,X5,ZY,ZY]at hb;obtain⟨⟨b1,b2⟩,b3⟩:=hb;obtain⟨x,hx,e⟩:=List.any_eq_true.1 b2;have e:=Vc e;subst e;obtain⟨y,hy,e⟩:=List.any_eq_true.1 b3;have e:=Vc e;subst e;have hp2:s.at x=some (p.1,p.2):=hp;rw[AS.at_iff]at hp2;exact⟨ty,y,ti,gp,p.2,ho,h1,b1,hy,by rw[<-he.tm];exact h2,by rw[<-he.hp];exact hp2,rfl,by rw[hk];exact hx⟩
def BM (P:Program)(T:TT)(nt kb:Nat)(all:List Oper)(S:AS)(i:Nat)(o:Oper)(r:Rec):Prop:=
 jn nt o=true∧r.dst=o.dst∧
 (((o.guard=none∨∃j want t,o.guard=some (j,want)∧(all[j]?).bind (·.dst)=some t∧S.tm.get t=some (.v (.bool want))∧t∈r.rt)∧
   ∃s1 ts,AEq s1 S∧(∀t∈ts,t∈r.rt)∧(dX P T (BH s1 ts r.rk) (S.nx+8*i) (S.nx+8*i) o λ v up=>v=r.v∧up=r.up)∧Ud T S ts o r)∨
  (∃j want t,o.guard=some (j,want)∧(all[j]?).bind (·.dst)=some t∧(S.tm.get t=some (.v (.bool (!want)))∨S.tm.get t=some (.tup []))∧t∈r.rt∧r.v=some (.tup [])∧r.up=[]))

theorem BM.congr {nt kb:Nat}{all:List Oper}{S S':AS}(h:AEq S S'){r:Rec}(hf:BM P T nt kb all S i o r):BM P T nt kb all S' i o r:=by
 obtain⟨h1,h2,h3⟩:=hf;refine⟨h1,h2,?_⟩;rcases h3 with⟨h3,s1,ts,h4,h5,h6,h7⟩|⟨j,want,t,h3,h4,h5,h6⟩
 ·refine .inl ⟨h3.imp id fun⟨j,want,t,a1,a2,a3,a4⟩=>⟨j,want,t,a1,a2,by rw[<-h.tm];exact a3,a4⟩,s1,ts,⟨λ t=>(h4.tm t).trans (h.tm t),λ k=>(h4.hp k).trans (h.hp k),h4.nx.trans h.nx⟩,h5,by rw[<-h.nx];exact h6,λ k off g c q=>?_⟩
  obtain⟨ty,t,ti,gp,b,a1,a2,a3,a4,a5,a6,a7⟩:=h7 k off g c q;exact⟨ty,t,ti,gp,b,a1,a2,a3,a4,by rw[<-h.tm];exact a5,by rw[<-h.hp];exact a6,a7⟩
 ·exact .inr ⟨j,want,t,h3,h4,by rw[<-h.tm];exact h5,h6⟩

theorem yf {nt kb:Nat}{all:List Oper}{pr:List (List Nat)}{K:AS->Prop}:∀(l:List Oper) (i:Nat) (s:AS) (log:List Rec),nu P T nt kb all pr i l s log K->log.all dA=true
 |[],i,s,log,h=>by
  exact h.1.ok
 |o::l,i,s,log,h=>by
  have step:∀(s1:AS) (r:Rec),nu P T nt kb all pr (i+1) l s1 (r::log) K->log.all dA=true:=λ s1 r h=>by
   have:=yf l (i+1) s1 (r::log) h;rw[YF,U9]at this;exact this.2
  obtain⟨_,h⟩:=bF.1 h
  cases hg:o.guard with
  |none=>
   rw[hg]at h;obtain⟨v,up,h1,h2⟩:=gD h;exact step _ _ h2
  |some jw=>
   rw[hg]at h;dsimp only at h
   split at h
   case h_2=>exact h.elim
   case h_1 t ht=>
   split at h
   case h_3=>exact h.elim
   case h_2 hb=>exact step _ _ h
   case h_1 b hb=>
   obtain⟨h1,h2⟩:=iC.1 h;obtain⟨j,want⟩:=jw
   cases b<;>cases want
   ·obtain⟨v,up,_,h4⟩:=gD (h2 rfl);exact step _ _ h4
   ·exact step _ _ (h2 rfl)
   ·exact step _ _ (h1 rfl)
   ·obtain⟨v,up,_,h4⟩:=gD (h1 rfl);exact step _ _ h4

def sf (P:Program)(T:TT)(nt kb:Nat)(all:List Oper)(pr:List (List Nat))(K:AS->Prop)(l:List Oper)(i:Nat)(S:AS)(log:List Rec):Prop:=
 ∃recs:List Rec,recs.length=l.length∧CF pr (log.reverse++recs)∧recs.all dA=true∧(∃s',K s'∧AEq s' (recs.foldl (λ S r=>S.eff 0 r) S))∧∀(j:Nat) o r,l[j]? =some o->recs[j]? =some r->BM P T nt kb all ((recs.take j).foldl (λ S r=>S.eff 0 r) S) (i+j) o r
theorem BN {nt kb:Nat}{all:List Oper}(hall:∀o∈all,jn nt o=true){pr:List (List Nat)}{K:AS->Prop}:∀(l:List Oper) (i:Nat) (s S:AS) (log:List Rec),AEq s S->nu P T nt kb all pr i l s log K->
  sf P T nt kb all pr K l i S log
 |[],i,s,S,log,he,h=>⟨[],rfl,by have:=h.1.cf;simpa using this,rfl,⟨s,h.2,he⟩,λ j o r hj=>by simp at hj⟩
 |o::l,i,s,S,log,he,h=>by
  obtain⟨hd,h⟩:=bF.1 h;have cont:∀(s1:AS) (r:Rec),AEq s1 S->BM P T nt kb all S i o r->nu P T nt kb all pr (i+1) l (s1.eff i r) (r::log) K->
    sf P T nt kb all pr K (o::l) i S log:=by
   intro s1 r he1 hf hv;have hrok:dA r=true:=by
    have:=yf l (i+1) _ (r::log) hv;rw[YF,U9]at this;exact this.1
   obtain⟨recs,h1,h2,h2',h3,h4⟩:=BN hall l (i+1) _ (S.eff 0 r) (r::log) (he1.eff i 0 r hrok) hv;refine⟨r::recs,by simp[h1],by simpa using h2,by rw[YF,hrok,h2'];rfl,h3,λ j o' r' ho hr=>?_⟩
   cases j with
   |zero=>simp at ho hr;subst ho hr;exact hf
   |succ j=>
    have:=h4 j o' r' (by simpa using ho) (by simpa using hr);rw[show i+1+j=i+(j+1) by omega]at this;exact this
  cases hg:o.guard with
  |none=>
   rw[hg]at h;obtain⟨v,up,h1,h2⟩:=gD h;exact cont s _ he ⟨hd,rfl,.inl ⟨.inl hg,s,_,he,λ t ht=>ht,by rw[<-he.nx];exact h1,BL he rfl rfl⟩⟩ h2
  |some jw=>
   obtain⟨j,want⟩:=jw;rw[hg]at h;dsimp only at h
   split at h
   case h_2=>exact h.elim
   case h_1 t ht=>
   split at h
   case h_3=>exact h.elim
   case h_2 hb=>exact cont s _ he ⟨hd,rfl,.inr ⟨j,want,t,hg,ht,.inr (by rw[<-he.tm];exact hb),Vr,rfl,rfl⟩⟩ h
   case h_1 b hb=>
   have hokt:Zq t=true:=by
    obtain⟨o',h1,h2⟩:=Option.bind_eq_some_iff.1 ht;have:=hall o' (We h1);unfold jn at this;rw[h2,U9]at this;exact this.2
   obtain⟨h1,h2⟩:=iC.1 h;have run:∀c,b=c->c=want->dX P T (eD s o) (s.nx+8*i) (s.nx+8*i) o (λ v up=>nu P T nt kb all pr (i+1) l (AS.eff {s with tm:=s.tm.set t (some (.v (.bool c)))} i (dT T s t o v up)) (dT T s t o v up::log) K)->sf P T nt kb all pr K (o::l) i S log:=λ c hbc hcw hv=>by
    obtain⟨v,up,h1,h2⟩:=gD hv;have he1:=he.know (t:=t) (d:=.v (.bool c)) (by rw[hb,hbc]) hokt;exact cont _ _ he1 ⟨hd,rfl,.inl ⟨.inr ⟨j,want,t,hg,ht,by rw[<-he.tm,hb,hbc,hcw],Vr⟩,s,_,he,λ t ht=>Vy _ ht,by rw[<-he.nx];exact h1,BL he rfl rfl⟩⟩ h2
   have skip:∀c,b=c->c= !want->nu P T nt kb all pr (i+1) l (AS.eff {s with tm:=s.tm.set t (some (.v (.bool c)))} i ⟨[t],[],o.dst,some (.tup []),[],none⟩) (⟨[t],[],o.dst,some (.tup []),[],none⟩::log) K->sf P T nt kb all pr K (o::l) i S log:=λ c hbc hcw hv=>by
    have he1:=he.know (t:=t) (d:=.v (.bool c)) (by rw[hb,hbc]) hokt;exact cont _ _ he1 ⟨hd,rfl,.inr ⟨j,want,t,hg,ht,.inl (by rw[<-he.tm,hb,hbc,hcw]),Vr,rfl,rfl⟩⟩ hv
   cases b<;>cases want
   ·exact run false rfl rfl (h2 rfl)
   ·exact skip false rfl rfl (h2 rfl)
   ·exact skip true rfl rfl (h1 rfl)
   ·exact run true rfl rfl (h1 rfl)
end
section
variable {P:Program} {cx:Cx} {E:Env} {s:AS} {a:Act} {w:World} {i:Nat} {o:Oper} {T:TT} {F:Fence} {n:Nat}

theorem oO (tm:Tr D)(hp:Tr (Nat×Ob))(nx:Nat)(u u':List Nat)(x:Operand):fq ⟨tm,hp,nx,u⟩ x=fq ⟨tm,hp,nx,u'⟩ x:=by cases x<;>rfl
theorem mp (tm:Tr D)(hp:Tr (Nat×Ob))(nx:Nat)(u u':List Nat):∀l,gN ⟨tm,hp,nx,u⟩ l=gN ⟨tm,hp,nx,u'⟩ l
 |[]=>rfl
 |x::r=>by simp only[gN,oO tm hp nx u u',mp tm hp nx u u' r]
theorem oP (tm:Tr D)(hp:Tr (Nat×Ob))(nx:Nat)(u u':List Nat):∀l,gC ⟨tm,hp,nx,u⟩ l=gC ⟨tm,hp,nx,u'⟩ l
 |[]=>rfl
 |(m,x)::r=>by simp only[gC,oO tm hp nx u u',oP tm hp nx u u' r]
theorem qL (tm:Tr D)(hp:Tr (Nat×Ob))(nx:Nat)(u u':List Nat)(k:Nat):AS.at ⟨tm,hp,nx,u⟩ k=AS.at ⟨tm,hp,nx,u'⟩ k:=rfl
theorem AA (tm:Tr D)(hp:Tr (Nat×Ob))(nx:Nat)(u u':List Nat)(d:D):mg ⟨tm,hp,nx,u⟩ d=mg ⟨tm,hp,nx,u'⟩ d:=by cases d<;>rfl
theorem Fj (tm:Tr D)(hp:Tr (Nat×Ob))(nx:Nat)(u u':List Nat)(es:Nat)(dd:TypeDesc)(d:D):iz ⟨tm,hp,nx,u⟩ es dd d=iz ⟨tm,hp,nx,u'⟩ es dd d:=by
 unfold iz;split<;>first|rfl|(simp only[qL tm hp nx u u'])
theorem Fk (tm:Tr D)(hp:Tr (Nat×Ob))(nx:Nat)(u u':List Nat)(e:TypeId)(es:Nat)(d:D):wd ⟨tm,hp,nx,u⟩ e es d=wd ⟨tm,hp,nx,u'⟩ e es d:=by
 unfold wd;split<;>first|rfl|(simp only[qL tm hp nx u u'])
theorem Ki (tm:Tr D)(hp:Tr (Nat×Ob))(nx:Nat)(u u':List Nat)(x:Option Operand):BA ⟨tm,hp,nx,u⟩ x=BA ⟨tm,hp,nx,u'⟩ x:=by
 cases x with
 |none=>rfl
 |some x=>simp only[BA,oO tm hp nx u u']
theorem yg (tm:Tr D)(hp:Tr (Nat×Ob))(nx:Nat)(u u' fp:List Nat)(d:D):Ar ⟨tm,hp,nx,u⟩ fp d=Ar ⟨tm,hp,nx,u'⟩ fp d:=by cases d<;>rfl
theorem ur (tm:Tr D)(hp:Tr (Nat×Ob))(nx:Nat)(u u' fp:List Nat):∀l,m6 ⟨tm,hp,nx,u⟩ fp l=m6 ⟨tm,hp,nx,u'⟩ fp l
 |[]=>rfl
 |d::r=>by simp only[m6,yg tm hp nx u u' fp d,ur tm hp nx u u' fp r]
theorem Fl (tm:Tr D)(hp:Tr (Nat×Ob))(nx:Nat)(u u' fp:List Nat)(b:Blk)(off m:Nat):As ⟨tm,hp,nx,u⟩ fp b off m=As ⟨tm,hp,nx,u'⟩ fp b off m:=by
 unfold As;rw[ur tm hp nx u u']
theorem ut (tm:Tr D)(hp:Tr (Nat×Ob))(nx:Nat)(u u' fp:List Nat):∀l,i9 ⟨tm,hp,nx,u⟩ fp l=i9 ⟨tm,hp,nx,u'⟩ fp l
 |[]=>rfl
 |d::r=>by simp only[i9,yg tm hp nx u u' fp d,ut tm hp nx u u' fp r]
theorem Fm (tm:Tr D)(hp:Tr (Nat×Ob))(nx:Nat)(u u' fp:List Nat)(b:Blk):qc ⟨tm,hp,nx,u⟩ fp b=qc ⟨tm,hp,nx,u'⟩ fp b:=by
 unfold qc;rw[ut tm hp nx u u']
mutual
theorem BO (tm:Tr D)(hp:Tr (Nat×Ob))(nx:Nat)(u u':List Nat)(al:Bool)(fp:List Nat):∀d,oz ⟨tm,hp,nx,u⟩ al fp d=oz ⟨tm,hp,nx,u'⟩ al fp d
 | .v _=>rfl
 | .sl ..=>rfl
 | .ref ..=>by simp only[oz,qL tm hp nx u u',Fl tm hp nx u u']
 | .ptr ..=>by simp only[oz,qL tm hp nx u u',Fm tm hp nx u u']
 | .ep ..=>rfl
 | .yl ..=>rfl
 | .fn _ fi ca=>by simp only[oz,iH tm hp nx u u' al fp fi,iH tm hp nx u u' al fp ca]
 | .agg cs=>by simp only[oz,iH tm hp nx u u' al fp cs]
 | .tup cs=>by simp only[oz,iH tm hp nx u u' al fp cs]
 | .ifc t x=>by simp only[oz,BO tm hp nx u u' al fp x]
theorem iH (tm:Tr D)(hp:Tr (Nat×Ob))(nx:Nat)(u u':List Nat)(al:Bool)(fp:List Nat):∀l,ko ⟨tm,hp,nx,u⟩ al fp l=ko ⟨tm,hp,nx,u'⟩ al fp l
 |[]=>rfl
 |d::r=>by simp only[ko,BO tm hp nx u u' al fp d,iH tm hp nx u u' al fp r]
end
theorem uu (tm:Tr D)(hp:Tr (Nat×Ob))(nx:Nat)(u u' fp:List Nat):∀l,kE ⟨tm,hp,nx,u⟩ fp l=kE ⟨tm,hp,nx,u'⟩ fp l
 |[]=>rfl
 |k::r=>by simp only[kE,qL tm hp nx u u',uu tm hp nx u u' fp r,iH tm hp nx u u']
theorem Ny (tm:Tr D)(hp:Tr (Nat×Ob))(nx:Nat)(u u':List Nat)(nm ky:Nat):ev T ⟨tm,hp,nx,u⟩ nm ky o=ev T ⟨tm,hp,nx,u'⟩ nm ky o:=by
 unfold ev
 split<;>(try unfold wm)<;>(try unfold wn)<;>(try split)<;>
  simp only[iw,rL,nI,xP,nS,fT,iv,nJ,xQ,E9,xU,xV,xW,nQ,nL,rT,rS,nR,gz,nM,gA,nO,jT,xS,BF,rW,xX,rX,k7,ud,Fb,rK,
   oO tm hp nx u u',mp tm hp nx u u',oP tm hp nx u u',qL tm hp nx u u',AA tm hp nx u u',Fj tm hp nx u u',Fk tm hp nx u u',Ki tm hp nx u u']
theorem Fo (u':List Nat){nm ky:Nat}{K:Option D->Up->Prop}(h:dX P T s nm ky o K):dX P T {s with us:=u'} nm ky o K:=by
 obtain⟨tm,hp,nx,u⟩:=s;have e1:ew ⟨tm,hp,nx,u'⟩ o=ew ⟨tm,hp,nx,u⟩ o:=by
  unfold ew
  split<;>(try rfl)
  split<;>(try rfl)
  simp only[oO tm hp nx u' u,mp tm hp nx u' u]
 unfold dX at h ⊢;dsimp only;rw[e1,Ny tm hp nx u' u]
 split at h
 case h_1 p hp'=>
  obtain⟨al,fp,q,hin,r,bs,h1,h2,h3⟩:=h.h;exact⟨al,fp,q,hin,r,bs,by rw[iH tm hp nx u' u];exact h1,by rw[uu tm hp nx u' u];exact h2,h3⟩
 case h_2 hp'=>exact h

theorem Fp {s s2:AS}{nm ky:Nat}{o:Oper}{K:Option D->Up->Prop}{ty:TypeId}{t:Nat}{ti:TI}{k gp off g:Nat}{c:Option D}{b2:Blk}(ho:o.op= .load ty (.tmp t))(hti:T.get ty=some ti)(hrow:ti.desc.isRow=false)
  (h1:∀d,s.tm.get t=some d->d= .ptr k gp off) (h2:∀p:Nat×Blk,s.at k=some (p.1,p.2)->p.1=g∧p.2.cells[off]? =c) (ht2:s2.tm.get t=some (.ptr k gp off)) (hk2:s2.at k=some (g,b2)) (hc2:b2.cells[off]? =c) (h:dX P T s nm ky o K):dX P T s2 nm ky o K:=by
 have hn:∀S:AS,ew S o=none:=λ S=>by unfold ew;rw[ho]
 have he:∀S:AS,ev T S nm ky o=iv T S ty (.tmp t):=λ S=>by unfold ev;rw[ho]
 unfold dX at h ⊢;rw[hn]at h ⊢;dsimp only at h ⊢;rw[he]at h ⊢;unfold iv at h ⊢;rw[hti]at h ⊢;have e2:fq s2 (.tmp t)=some (.ptr k gp off):=ht2;rw[e2]
 cases hd:fq s (.tmp t)with
 |none=>rw[hd]at h;exact h.elim
 |some d=>
  rw[hd]at h;have:=h1 d hd;subst this;dsimp only[mg]at h ⊢;rw[hk2]
  cases hp:s.at k with
  |none=>rw[hp]at h;exact h.elim
  |some p=>
   rw[hp]at h;obtain⟨e3,e4⟩:=h2 p hp;dsimp only at h ⊢;rw[e3]at h;unfold nH at h ⊢;rw[hrow]at h ⊢;rw[cond_false,e4]at h;rw[cond_false,hc2];exact h

theorem oQ {E:Env}{w:World}:RD E w (.tup []) undef:=RD.tup [] [] rfl (by simp)
theorem oS {cx:Cx}{E:Env}{s:AS}{a:Act}{w:World}(h:SR cx E s a w){all:List Oper}{j t:Nat}(hj:(all[j]?).bind (·.dst)=some t)(ht:s.tm.get t=some (.tup [])):yielded all.toArray a.tmps j=none:=by
 obtain⟨u,hu,hr⟩:=h.fr t _ ht
 cases hr
 unfold yielded;have e1:((all.toArray[j]?).bind (·.dst))=some t:=by simpa using hj
 rw[e1];simp only[Option.bind_some,hu]
theorem iI {nt kb:Nat}{all:List Oper}{pr:List (List Nat)}{K:AS->Prop}:∀(l:List Oper) (i:Nat) (s:AS) (log:List Rec),nu P T nt kb all pr i l s log K->∀o∈l,jn nt o=true
 |[],i,s,log,h,o,ho=>by cases ho
 |o::l,i,s,log,h,o',ho=>by
  obtain⟨hd,h⟩:=bF.1 h;rcases List.mem_cons.1 ho with rfl|ho
  ·exact hd
  cases hg:o.guard with
  |none=>
   rw[hg]at h;obtain⟨v,up,h1,h2⟩:=gD h;exact iI l _ _ _ h2 o' ho
  |some jw=>
   rw[hg]at h;dsimp only at h
   split at h
   case h_2=>exact h.elim
   case h_1 t ht=>
   split at h
   case h_3=>exact h.elim
   case h_2 hb=>exact iI l _ _ _ h o' ho
   case h_1 b hb=>
   obtain⟨h1,h2⟩:=iC.1 h;obtain⟨j,want⟩:=jw
   cases b<;>cases want
   ·obtain⟨v,up,_,h4⟩:=gD (h2 rfl);exact iI l _ _ _ h4 o' ho
   ·exact iI l _ _ _ (h2 rfl) o' ho
   ·exact iI l _ _ _ (h1 rfl) o' ho
   ·obtain⟨v,up,_,h4⟩:=gD (h1 rfl);exact iI l _ _ _ h4 o' ho

theorem jq (recs:List Rec)(s:AS):∀π:List Nat,(iG recs s π).us=π.reverse++s.us∧(iG recs s π).nx=s.nx:=by
 intro π
 induction π generalizing s with
 |nil=>exact⟨rfl,rfl⟩
 |cons i π ih=>
  obtain⟨h1,h2⟩:=ih (s.eff i (recs.getD i aZ));refine⟨?_,h2⟩;show(iG recs (s.eff i (recs.getD i aZ)) π).us=_;rw[h1];simp[AS.eff]

theorem oT (recs:List Rec)(hok:recs.all dA=true)(s:AS):∀k,k<=recs.length->AEq ((recs.take k).foldl (λ S r=>S.eff 0 r) s) (iG recs s (Wa k))
 |0,_=>.refl s
 |k+1,hk=>by
  have ih:=oT recs hok s k (by omega);have hlt:k<recs.length:=by omega
  rw[XU,oJ,List.take_succ_eq_append_getElem hlt,List.foldl_append];have e:recs.getD k aZ=recs[k]:=by simp[hlt]
  rw[e];exact ih.eff 0 k _ (List.all_eq_true.1 hok _ (V3 hlt))

theorem qM:∀(N:Nat) (l:List Nat),l.Nodup->(∀x∈l,x<N)->l.length<=N
 |0,l,_,h=>by
  cases l with
  |nil=>exact Vd _
  |cons x l=>have:=h x Vr;omega
 |N+1,l,hn,h=>by
  have ih:=qM N (l.erase N) (hn.erase N) λ x hx=>by
   rw[hn.mem_erase_iff]at hx;have:=h x hx.2;omega
  by_cases hm:N∈l
  ·rw[List.length_erase_of_mem hm]at ih;omega
  ·rw[List.erase_of_not_mem hm]at ih;omega

theorem SR.alike {S S':AS}(h:SR cx E S a w)(he:AEq S' S){N:Nat}(hus:∀k∈S.us,k<N):SR cx E (S'.fin N) a w:=by
 have hat:∀k,(S'.fin N).gat k=S.gat k:=he.hp;have hob:∀{k g o},(S'.fin N).gat k=some (g,o)->OB E w g o:=fun{k g o} hk=>h.ob (by rw[<-hat];exact hk)
 exact{
     fr:=λ t d hd=>h.fr t d (by rw[<-he.tm];exact hd),sz:=h.sz,df:=h.df,hp:=λ k g b hk=>hob (AS.at_iff.1 hk),lp:=λ k g b hk=>hob (AS.lat_iff.1 hk)
     inj:=λ k k' g g' b b' hkk h1 h2=>h.inj k k' g g' b b' hkk (by rw[<-hat];exact h1) (by rw[<-hat];exact h2),lt:=h.lt,low:=λ x ⟨k,g,b,hk,hx⟩=>h.low x ⟨k,g,b,by rw[<-hat];exact hk,hx⟩,base:=h.base,bel:=h.bel,szB:=h.szB
     nm:=λ g hg=>.inl (by
      show g<S'.nx+8*N;rw[he.nx];rcases h.nm g hg with h1|⟨j,hj,h1⟩
      ·omega
      ·have:=hus j hj;omega)}
theorem AEq.own {S S':AS}(he:AEq S' S){φ:Nat->Option Nat}{x N:Nat}(h:bR (S'.fin N) φ x):bR S φ x:=by
 obtain⟨k,g,o,hk,hx⟩:=h;refine⟨k,g,o,?_,hx⟩;show S.hp.get k=_;rw[<-he.hp];exact hk

theorem AWP.draw {rd:Bool}{nt kb xn id:Nat}{ops:Array Oper}{K:AX->AS->Prop}(hT:T.ok P)(hfol:P.follows .mixedOrders=true)(pr:List (List Nat))(hpr:BI pr 0 ops.toList=true)
  (h:nu P T nt kb ops.toList pr 0 ops.toList s [] λ s'=>K .normal (s'.fin ops.size)):AWP P rd nt xn (.region id ops true) s K:=by
 refine⟨λ F n cx E0 a0 w0 Q hF hro hn hu hs hQ=>?_⟩;subst hn;obtain⟨recs,hlen,hcf,hrok,⟨s',hK,hAE⟩,hfacts⟩:=BN (iI ops.toList 0 s [] h) ops.toList 0 s s [] (.refl s) h;rw[List.reverse_nil,List.nil_append]at hcf;have hlen:recs.length=ops.size:=by simpa using hlen
 have hspec:=qz ops.toList 0 hpr;have main:∀fuel listed (π:List Nat) a w E,fuel+π.length=ops.size->listed.size=ops.size->(∀x,x<ops.size->(listed.getD x true=true↔x∈π))->Ord pr recs π->(∀x∈π,∀o,ops.toList[x]? =some o->∀e∈ez o,e∈π)->
   SR cx E (iG recs s π) a w->Stp E0 E w0 w->Mut s (iG recs s π) E0 E w0 w->wpAnyIn F n P .any ops Q fuel listed a w:=by
  intro fuel;have fin:∀(π:List Nat) a w E,Ord pr recs π->(∀x,x<ops.size->x∈π)->SR cx E (iG recs s π) a w->Stp E0 E w0 w->Mut s (iG recs s π) E0 E w0 w->Q .normal a w:=by
   intro π a w E ho hall hsr hst hmut;have e1:AEq s' (iG recs s π):=by
    have e2:=oT recs hrok s recs.length (Vd _);rw[Wd]at e2;refine⟨λ t=>?_,λ k=>?_,?_⟩
    ·rw[hAE.tm,e2.tm,qH hrok hcf ho (m:=recs.length) (Vd _) (.inl ⟨rfl,λ x hx=>hall x (by omega)⟩)]
    ·rw[hAE.hp,e2.hp,qI hrok hcf ho (m:=recs.length) (Vd _) (.inl ⟨rfl,λ x hx=>hall x (by omega)⟩)]
    ·rw[hAE.nx,e2.nx,(jq recs s _).2,(jq recs s π).2]
   refine hQ .normal _ E a w hK rfl (hsr.alike e1 λ k hk=>?_) (hst.x _) ⟨hmut.own,hmut.heap,λ x hx ho'=>hmut.old x hx (e1.own ho')⟩;rw[(jq recs s π).1,hu,VS,aao]at hk;have:=ho.lt k hk;omega
  induction fuel with
  |zero=>
   intro listed π a w E hf hsz hli ho hed hsr hst hmut;have hnd:π.Nodup:=ho.lin.imp λ h=>h.2
   have hall:∀x,x<ops.size->x∈π:=λ x hx=>by
    apply Classical.byContradiction;intro hn;have:=qM ops.size (x::π) (List.nodup_cons.2 ⟨hn,hnd⟩) λ y hy=>by
     rcases List.mem_cons.1 hy with rfl|hy
     ·exact hx
     ·have:=ho.lt y hy;omega
    simp only[VE]at this;omega
   refine⟨?_,fin π a w E ho hall hsr hst hmut⟩;apply List.eq_nil_iff_forall_not_mem.2;intro x hx;rw[mem_ready]at hx;obtain⟨h1,o,h2,_⟩:=hx;have hlt:x<ops.size:=(Array.getElem?_eq_some_iff.1 h2).1;rw[(hli x hlt).2 (hall x hlt)]at h1;cases h1
  |succ fuel ih=>
   intro listed π a w E hf hsz hli ho hed hsr hst hmut;have hready:∀x o,ops[x]? =some o->x∉π->(∀e∈ez o,e∈π)->x∈Region.ready .any ops listed:=λ x o hxo hxp he=>by
    have hlt:x<ops.size:=(Array.getElem?_eq_some_iff.1 hxo).1;rw[mem_ready];refine⟨?_,o,hxo,λ e hea hb=>?_⟩
    ·cases hl:listed.getD x true with
     |false=>rfl
     |true=>exact absurd ((hli x hlt).1 hl) hxp
    ·have hm:e.on∈ez o:=by
      unfold ez;exact List.mem_map.2 ⟨e,List.mem_filter.2 ⟨by simpa using hea,hb⟩,rfl⟩
     have hep:=he _ hm;have hlt2:e.on<ops.size:=by have:=ho.lt _ hep;omega
     have:=(hli _ hlt2).2 hep;simp only[Xv]at this ⊢;rw[WO (by omega)]at this ⊢;exact this
   refine⟨λ hr=>?_,λ i hi=>?_⟩
   ·refine fin π a w E ho (λ x=>?_) hsr hst hmut
    induction x using Nat.strongRecOn with
    |_ x ihx=>
     intro hx;apply Classical.byContradiction;intro hxp;have hxo:ops[x]? =some ops[x]:=WO hx;have:=hready x ops[x] hxo hxp λ e he=>by
      have h1:=(hspec x ops[x] (by simp[hx])).1 e he;rw[VK]at h1;exact ihx e h1 (by omega)
     rw[hr]at this;cases this
   ·rw[mem_ready]at hi
    obtain⟨hl,o,hio,hedges⟩:=hi;have hlt:i<ops.size:=(Array.getElem?_eq_some_iff.1 hio).1;have hip:i∉π:=λ h=>by rw[(hli i hlt).2 h]at hl;cases hl
    have hedg:∀e∈ez o,e∈π:=λ e he=>by
     unfold ez at he;obtain⟨e',he',rfl⟩:=List.mem_map.1 he;obtain⟨h1,h2⟩:=List.mem_filter.1 he';have h3:=hedges e' (by simpa using h1) h2;have hlt2:e'.on<ops.size:=by
      rcases VL e'.on ops.size with h|h
      ·exact h
      ·simp only[Xv]at h3
       rw[Array.getElem?_eq_none (by omega)]at h3;cases h3
     refine(hli _ hlt2).1 ?_;simp only[Xv]at h3 ⊢;rw[WO (by omega)]at h3 ⊢;exact h3
    have hol:ops.toList[i]? =some o:=by simpa using hio
    have hprs:∀y∈pr.getD i [],y∈π:=λ y hy=>by
     have:=(hspec i o hol).2 y (by rw[VK];exact hy);obtain⟨e,he,h1⟩:=this;rcases h1 with rfl|h1
     ·exact hedg _ he
     ·exact ho.cl e (hedg e he) y h1
    have hilen:i<recs.length:=by omega
    have hri:recs[i]? =some (recs.getD i aZ):=by simp[hilen]
    have hfact:=hfacts i o (recs.getD i aZ) hol hri;rw[VK]at hfact;have hfa:=(oT recs hrok s i (by omega))
    have hfact:=hfact.congr hfa;obtain⟨hdst,hrd,hcase⟩:=hfact;have lookT:∀t,t∈(recs.getD i aZ).rt->(iG recs s π).tm.get t=(iG recs s (Wa i)).tm.get t:=λ t ht=>qH hrok hcf ho (by omega) (.inr ⟨hip,hprs,hilen,ht⟩) s
    have lookH:(recs.getD i aZ).ld=none->∀k,k∈(recs.getD i aZ).rk->(iG recs s π).hp.get k=(iG recs s (Wa i)).hp.get k:=λ hn k hk=>qI hrok hcf ho (by omega) (.inr ⟨hip,hprs,hilen,hk,hn⟩) s
    have hius:i∉(iG recs s π).us:=by rw[(jq recs s π).1,hu,VS,aao];exact hip
    have next:∀E' a' w',SR cx E' ((iG recs s π).eff i (recs.getD i aZ)) a' w'->Stp E E' w w'->Mut (iG recs s π) ((iG recs s π).eff i (recs.getD i aZ)) E E' w w'->wpAnyIn F n P .any ops Q fuel (listed.setIfInBounds i true) a' w':=by
     intro E' a' w' hs' hst' hmut';refine ih (listed.setIfInBounds i true) (π++[i]) a' w' E' (by simp;omega) (by simpa using hsz) (λ x hx=>?_) ⟨?_,?_,?_⟩ ?_ (by rw[oJ];exact hs') (hst.trans hst') (by rw[oJ];exact hmut.trans hmut' hst.size)
     ·by_cases e:i=x
      ·subst e
       simp[hsz,hlt]
      ·have h1:=hli x hx
       simp only[Xv,Array.getElem?_setIfInBounds_ne e]at h1 ⊢;rw[h1];simp[Ne.symm e]
     ·rw[YH]
      refine⟨ho.lin,List.pairwise_singleton _ _,λ x hx y hy=>?_⟩;rw[XS]at hy;subst hy;exact⟨λ h=>hip (ho.cl x hx _ h),λ h=>by subst h;exact hip hx⟩
     ·intro x hx y hy
      rcases List.mem_append.1 hx with hx|hx
      ·exact WG _ (ho.cl x hx y hy)
      ·rw[XS]at hx;subst hx
       exact WG _ (hprs y hy)
     ·intro x hx
      rcases List.mem_append.1 hx with hx|hx
      ·exact ho.lt x hx
      ·rw[XS]at hx;subst hx;exact hilen
     ·intro x hx o' ho' e he
      rcases List.mem_append.1 hx with hx|hx
      ·exact WG _ (hed x hx o' ho' e he)
      ·rw[XS]at hx;subst hx
       rw[hol]at ho';cases ho';exact WG _ (hedg e he)
    unfold wpOpIn;rw[hio];dsimp only;rcases hcase with⟨hg,s1,ts,ck,hts,hv,hldG⟩|⟨j,want,t,hg,hjt,hgt,htr,hv0,hup0⟩
    ·have hwant:XB o (yielded ops a.tmps)=true:=by
      rcases hg with hg|⟨j,want,t,hg,hjt,hgt,htr⟩
      ·simp[XB,hg]
      ·have hy:=kL (all:=ops.toList) hsr hjt (b:=want) (by rw[lookT t htr];exact hgt)
       simp only[WF]at hy;simp[XB,hg,hy]
     rw[ZF hwant];have hgo:∃s2,Sub s2 (iG recs s π)∧s2.nx=(iG recs s (Wa i)).nx∧dX P T s2 ((iG recs s (Wa i)).nx+8*i) ((iG recs s (Wa i)).nx+8*i) o λ v up=>v=(recs.getD i aZ).v∧up=(recs.getD i aZ).up:=by
      cases hld:(recs.getD i aZ).ld with
      |none=>
       refine⟨BH s1 ts (recs.getD i aZ).rk,⟨λ t d hd=>?_,λ k g b hk=>?_,?_⟩,ck.nx,hv⟩
       ·obtain⟨h1,h2⟩:=jZ _ _ _ _ hd
        rw[lookT t (hts t h1),<-ck.tm];exact h2
       ·obtain⟨h1,h2⟩:=j5 _ _ _ _ hk
        show(iG recs s π).hp.get k=_;rw[lookH hld k h1,<-ck.hp];exact h2
       ·show s1.nx=_
        rw[ck.nx,(jq recs s _).2,(jq recs s π).2]
      |some q=>
       obtain⟨k,off,g,c⟩:=q;obtain⟨ty,t,ti,gp,b,a1,a2,a3,a4,a5,a6,a7,a8⟩:=hldG k off g c hld;obtain⟨b2,e1,e2⟩:=Fi hrok hcf ho hilen hip hprs hld a8 s a6 a7;refine⟨{iG recs s π with us:=[]},⟨λ t d hd=>hd,λ k g b hk=>hk,rfl⟩,?_,?_⟩
       ·exact(jq recs s π).2.trans (jq recs s _).2.symm
       ·have ht2:(iG recs s π).tm.get t=some (.ptr k gp off):=by rw[lookT t (hts t a4)];exact a5
        exact Fp a1 a2 a3 (λ d hd=>by
         obtain⟨_,h2⟩:=jZ _ _ _ _ hd;rw[ck.tm,a5]at h2;exact(Option.some.inj h2).symm) (λ p hp=>by
         obtain⟨h1,h2⟩:=j5 _ _ _ _ (AS.at_iff.1 hp);rw[ck.hp,a6]at h2;have h3:=Option.some.inj h2;simp only[Prod.mk.injEq,Ob.b.injEq]at h3;exact⟨h3.1.symm,by rw[<-h3.2,a7]⟩) ht2 (AS.at_iff.2 e1) e2 hv
     obtain⟨s2,hsub,hnx,hv⟩:=hgo;have hrk:=ww hrok i;rw[dA,U9]at hrk;refine Ax (s:=s2) (K:=λ v up=>v=(recs.getD i aZ).v∧up=(recs.getD i aZ).up) hF hT hsr hsub hius hdst (Fo _ (by rw[hnx];exact hv)) (λ v up hvu=>by rw[hvu.2];exact hrk.2) λ v up E' a' w' hvu hs' hst' hmut'=>?_
     obtain⟨rfl,rfl⟩:=hvu;refine next E' a' w' ?_ hst' ?_
     ·unfold AS.eff
      rw[hrd];exact hs'
     ·unfold AS.eff
      rw[hrd];exact hmut'
    ·have hwant:XB o (yielded ops a.tmps)=false:=by
      rcases hgt with hgt|hgt
      ·have hy:=kL (all:=ops.toList) hsr hjt (b:=!want) (by rw[lookT t htr];exact hgt)
       simp only[WF]at hy;simp only[XB,hg,hy];cases want<;>rfl
      ·have hy:=oS (all:=ops.toList) hsr hjt (by rw[lookT t htr];exact hgt)
       simp only[WF]at hy;simp only[XB,hg,hy];rfl
     rw[ZE (by rw[hwant];simp)];refine⟨λ f _=>hF.fn f,next E _ w ?_ (Stp.refl E w) ?_⟩
     ·unfold AS.eff
      rw[hrd,hv0,hup0];exact da (s:={iG recs s π with us:=i::(iG recs s π).us}) (hsr.us i) hdst (v:=some (.tup [])) oQ
     ·unfold AS.eff
      rw[hup0];exact⟨λ _ h=>h,λ _ _ _=>rfl,λ _ _ h=>h⟩
 refine wpIn_region_any hfol (main ops.size _ [] a0 _ E0 (by simp) (by simp) (λ x hx=>?_) ⟨List.Pairwise.nil,(λ x hx=>by cases hx),(λ x hx=>by cases hx)⟩ (λ x hx=>by cases hx) (hs.drew) (Stp.drew E0 w0) ⟨λ _ h=>h,λ _ _ _=>rfl,λ _ _ h=>h⟩);simp[hx]
end

def R7 (x:Nat)(l:List Nat):List Nat:=bif l.any (λ y=>U5 x y)then l else x::l
def BP:List Nat->List Nat->List Nat
 |[],m=>m
 |x::l,m=>BP l (R7 x m)
def Kj:List Oper->List (List Nat)->List (List Nat)
 |[],acc=>acc
 |o::r,acc=>Kj r (acc++[(ez o).foldl (λ m e=>BP (e::acc.getD e []) m) []])

def ia (s:AS)(c:Operand)(b:Bool):AS:=
 match c with
 | .tmp t=>{s with tm:=s.tm.set t (some (.v (.bool b)))}
 |_=>s
section
variable {P:Program} {T:TT} {rd:Bool} {nt xn kb:Nat}

theorem SR.know' {cx:Cx}{E:Env}{s:AS}{a:Act}{w:World}(h:SR cx E s a w){c:Operand}{b:Bool}(hc:fq s c=some (.v (.bool b))):SR cx E (ia s c b) a w:=by
 cases c with
 |tmp t=>exact h.know hc rfl
 |_=>exact h
theorem sg (s:AS)(c:Operand)(b:Bool):(ia s c b).us=s.us∧(ia s c b).hp=s.hp:=by cases c<;>exact⟨rfl,rfl⟩
theorem Mut.know {s s':AS}{E E':Env}{w w':World}{c:Operand}{b:Bool}(h:Mut (ia s c b) s' E E' w w'):Mut s s' E E' w w':=by
 have e:∀φ x,bR (ia s c b) φ x↔bR s φ x:=λ φ x=>by
  unfold bR AS.gat;rw[(sg s c b).2]
 exact⟨h.own,λ x hx hn=>h.heap x hx λ ho=>hn ((e _ _).1 ho),λ x hx ho=>(e _ _).1 (h.old x hx ho)⟩

def D.sim (d d':D):Prop:=∀E w u,RD E w d u->RD E w d' u
theorem D.sim.refl (d:D):d.sim d:=λ _ _ _ h=>h
def cQ:List D->List D->Prop
 |[],[]=>True
 |d::r,d'::r'=>d.sim d'∧cQ r r'
 |_,_=>False
theorem cQ.refl:∀l:List D,cQ l l
 |[]=>trivial
 |d::r=>⟨.refl d,cQ.refl r⟩
theorem cQ.get:∀{l l':List D},cQ l l'->l.length=l'.length∧∀(j:Nat) d',l'[j]? =some d'->∃d,l[j]? =some d∧d.sim d'
 |[],[],_=>⟨rfl,λ j d h=>by simp at h⟩
 |d::r,d'::r',⟨h1,h2⟩=>by
  obtain⟨e,g⟩:=cQ.get h2;refine⟨by simp[e],λ j x hx=>?_⟩
  cases j with
  |zero=>simp at hx;subst hx;exact⟨d,rfl,h1⟩
  |succ j=>simpa using g j x (by simpa using hx)
 |[],_::_,h=>h.elim
 |_::_,[],h=>h.elim
theorem D.sim.agg {l l':List D}(h:cQ l l'):(D.agg l).sim (.agg l'):=λ E w u hr=>by
 obtain⟨e,g⟩:=h.get
 cases hr with
 |agg _ us hlen hd h1=>
  refine .agg _ us (by rw[hlen,e]) (λ i d' u hd' hu=>?_) h1;obtain⟨d,hd1,hs⟩:=g i d' hd';exact hs _ _ _ (hd i d u hd1 hu)

def HE (s:AS):List (Nat×D)->Prop
 |[]=>True
 |p::r=>(∃d,s.tm.get p.1=some d∧d.sim p.2)∧HE s r
def HF (s:AS):List (Nat×(Nat×Blk))->List Nat->Prop
 |[],[]=>True
 |(_,(g,b))::r,k::ks=>(∃b0,s.at k=some (g,b0)∧b0.elem=b.elem∧(b.row=false->b0.row=false)∧(b0.row=true->b.row=true)∧cQ b0.cells b.cells)∧HF s r ks
 |_,_=>False
def UU (tm:List (Nat×D))(hp:List (Nat×(Nat×Blk)))(lp:List (Nat×(Nat×LRec)))(nx:Nat):AS:=⟨aap tm,aap (hp.map (λ p=>(p.1,(p.2.1,Ob.b p.2.2)))++lp.map (λ p=>(p.1,(p.2.1,Ob.l p.2.2)))),nx,[]⟩
def HG (s:AS):List (Nat×(Nat×LRec))->List Nat->Prop
 |[],[]=>True
 |(_,(g,r))::l,k::ks=>(∃r0,s.lat k=some (g,r0)∧r0.st=r.st∧r0.pend=r.pend∧r0.params=r.params∧r0.assign=r.assign∧r0.body=r.body∧r0.nt=r.nt∧∃tm,r.tm=aap tm∧∀p∈tm,∃d,r0.tm.get p.1=some d∧d.sim p.2)∧HG s l ks
 |_,_=>False

structure Le (s s':AS):Prop where
 h:∃tm hp lp nx,s'=UU tm hp lp nx∧HE s tm∧(∃ks ls,HF s hp ks∧HG s lp ls∧gc (ks++ls)=true)∧s.nx<=nx∧s.us=[]

end
end Go.Vx
namespace Go.Vx
open Go.RowKit Go.Bw

def BQ:Nat->List Blk->Tr (Nat×Ob)
 |_,[]=>.e
 |i,b::r=>(BQ (i+1) r).set i (some (i,.b b))
theorem qN:∀(bs:List Blk) (i k:Nat) {g:Nat} {o:Ob},(BQ i bs).get k=some (g,o)->i<=k∧g=k∧∃b,o= .b b∧bs[k-i]? =some b
 |[],i,k,g,o,h=>by cases h
 |x::r,i,k,g,o,h=>by
  rcases WC h with⟨rfl,hv⟩|⟨e,h⟩
  ·cases hv;exact⟨Vd _,rfl,x,rfl,by simp⟩
  ·obtain⟨h1,h2,b,h3,h4⟩:=qN r (i+1) k h
   exact⟨by omega,h2,b,h3,by rw[show k-i=(k-(i+1))+1 by omega,List.getElem?_cons_succ];exact h4⟩
def s0 (ds:List D)(hin:List Blk):AS:={tm:=na 0 ds,hp:=BQ 0 hin,nx:=hin.length}

mutual
def D.pl:D->Bool
 | .v _=>true
 | .agg cs=>yh cs
 | .ifc _ x=>x.pl
 |_=>false
def yh:List D->Bool
 |[]=>true
 |d::r=>d.pl&&yh r
end
theorem j6 {l:List D}:yh l=true↔∀d∈l,d.pl=true:=by
 induction l with
 |nil=>simp[yh]
 |cons x l ih=>simp[yh,ih]
theorem bn (bs:Z1):yh (bs.map dB)=true:=j6.2 λ d hd=>by simp only[List.mem_map]at hd;obtain⟨b,_,rfl⟩:=hd;rfl
theorem RD.plain {E:Env}{w:World}{d:D}{u:Value}(h:RD E w d u):d.pl=true->∀(E':Env) (w':World),RD E' w' d u:=by
 induction h with
 |v c h=>exact λ _ _ _=>.v c h
 |agg cs us hlen _ h1 ih=>exact λ hc E' w'=> .agg cs us hlen (λ i d u a1 a2=>ih i d u a1 a2 (j6.1 hc d (We a1)) E' w') h1
 |ifc t x u _ ih=>exact λ hc E' w'=> .ifc t x u (ih hc E' w')
 |_=>intro hc;cases hc
mutual
theorem D.pl_closed:∀(d:D),d.pl=true->d.closed=true
 | .v _,_=>rfl
 | .agg cs,h=>iJ cs h
 | .ifc _ x,h=>D.pl_closed x h
 | .sl ..,h=>nomatch h
 | .ref ..,h=>nomatch h
 | .ptr ..,h=>nomatch h
 | .ep ..,h=>nomatch h
 | .tup _,h=>nomatch h
 | .fn ..,h=>nomatch h
 | .yl ..,h=>nomatch h
theorem iJ:∀(l:List D),yh l=true->ab l=true
 |[],_=>rfl
 |d::r,h=>by
  have h':(d.pl&&yh r)=true:=h;rw[U9]at h';show(d.closed&&ab r)=true;rw[D.pl_closed d h'.1,iJ r h'.2];rfl
end


mutual
def nv (al:Bool)(n:Nat):D->Bool
 | .v _=>true
 | .sl _ _ _ _=>al
 | .ref _ g _ _ _=>Xl g n
 | .ptr _ g _=>Xl g n
 | .ep _ _=>al
 | .agg cs=>eU al n cs
 | .tup cs=>eU al n cs
 | .ifc _ x=>nv al n x
 | .fn _ fi ca=>eU al n fi&&eU al n ca
 | .yl _ g=>Xl g n
def eU (al:Bool)(n:Nat):List D->Bool
 |[]=>true
 |d::r=>nv al n d&&eU al n r
end
theorem gd {al:Bool}{n:Nat}:∀{l:List D},eU al n l=true->∀(j:Nat) d,l[j]? =some d->nv al n d=true
 |[],_,j,d,h=>by simp at h
 |x::r,h,j,d,hj=>by
  simp only[eU,U9]at h
  cases j with
  |zero=>simp at hj;subst hj;exact h.1
  |succ j=>exact gd h.2 j d (by simpa using hj)

def Nz (al:Bool)(n:Nat)(b:Blk):Bool:=bif b.row then(bif al then ab b.cells else yh b.cells)else eU al n b.cells
def Fq (al:Bool)(n:Nat)(κ γ:Nat->Nat)(s:AS):List Nat->List Nat->List Blk->Prop
 |[],[],[]=>True
 |k::ks,g::gs,b::bs=>s.at k=some (g,cb κ γ b)∧Nz al n b=true∧Fq al n κ γ s ks gs bs
 |_,_,_=>False
theorem uv {al:Bool}{n:Nat}{κ γ:Nat->Nat}{s:AS}:∀{ks gs:List Nat} {bs:List Blk},Fq al n κ γ s ks gs bs->ks.length=bs.length∧gs.length=bs.length∧∀(j:Nat) b,bs[j]? =some b->s.at (ks.getD j 0)=some (gs.getD j 0,cb κ γ b)∧Nz al n b=true
 |[],[],[],_=>⟨rfl,rfl,λ j b h=>by simp at h⟩
 |k::ks,g::gs,b::bs,⟨h1,h2,h3⟩=>by
  obtain⟨e1,e2,e3⟩:=uv h3;refine⟨by simp[e1],by simp[e2],λ j b' hb=>?_⟩
  cases j with
  |zero=>simp at hb;subst hb;exact⟨h1,h2⟩
  |succ j=>simpa using e3 j b' (by simpa using hb)
 |[],[],_::_,h=>h.elim
 |[],_::_,_,h=>h.elim
 |_::_,[],_,h=>h.elim
 |_::_,_::_,[],h=>h.elim
def j7:Nat->Nat->List Nat->Bool
 |_,0,_=>true
 |i,m+1,g::r=>U5 g i&&j7 (i+1) m r
 |_,_+1,[]=>false
theorem jr:∀{m i:Nat} {gs:List Nat},j7 i m gs=true->∀j,j<m->gs.getD j 0=i+j
 |0,_,_,_,j,hj=>by omega
 |m+1,i,[],h,j,hj=>by simp[j7]at h
 |m+1,i,g::r,h,j,hj=>by
  simp only[j7,U9]at h
  cases j with
  |zero=>simpa using Vc h.1
  |succ j=>
   have:=jr h.2 j (by omega);simp only[List.getD_cons_succ];omega

structure Out (al:Bool)(m:Nat)(s:AS)(l:List D)(r:D)(bs:List Blk):Prop where
 h:∃ks gs:List Nat,Fq al bs.length (λ j=>ks.getD j 0) (λ j=>gs.getD j 0) s ks gs bs∧gc ks=true∧j7 0 m gs=true∧dz (λ j=>ks.getD j 0) (λ j=>gs.getD j 0) r=uk l∧nv al bs.length r=true

section
variable {P:Program} {T:TT} {nt kb:Nat}

theorem BR {E Er:Env}{w:World}{κ γ:Nat->Nat}{n:Nat}{al:Bool}(hg:∀j,j<n->E.nm (γ j)->Er.nm j∧E.φ (γ j)=Er.φ j)(ho:al=true->∀b,Er.own b->E.own b):∀{d:D} {u:Value},RD E w d u->∀r,dz κ γ r=d->nv al n r=true->RD Er w r u:=by
 have lst:∀{rs cs:List D},gb κ γ rs=cs->cs.length=rs.length∧∀j:Nat,cs[j]? =(rs[j]?).map (dz κ γ):=fun{rs cs} h=>by
  subst h;rw[fv];exact⟨by simp,λ j=>by simp⟩
 intro d u h
 induction h with
 |v c h=>
  intro r hr hok
  cases r<;>simp only[dz,reduceCtorEq,D.v.injEq]at hr
  subst hr;exact .v _ h
 |@sl E1 w1 nn m sz cells ad c us hlen hd h1 hn hs hc h0 hr' ih=>
  intro r hr hok
  cases r<;>simp only[dz,reduceCtorEq,D.sl.injEq]at hr
  obtain⟨rfl,rfl,rfl,rfl⟩:=hr;exact RD.ofCl (RD.step (E:=E1.cl) (E':=Er.cl) (w:=w1) (w':=w1) ⟨λ _ h=>h.elim,λ _ h=>h.elim,Vd _,λ b _ hb=>⟨λ h=>hb (ho hok b h),rfl⟩,λ _ _=>rfl⟩ ((RD.sl _ _ _ _ ad c us hlen hd h1 hn hs hc h0 hr').weak rfl))
 |ref k g off m sz c b off' t mm hg' hb hc ho' hsh hm=>
  intro r hr hok
  cases r<;>simp only[dz,reduceCtorEq,D.ref.injEq]at hr
  obtain⟨rfl,rfl,rfl,rfl,rfl⟩:=hr
  rename_i k0 g0 _ _ _
  have hlt:g0<n:=Vf hok;exact .ref k0 g0 _ _ _ c b off' t mm (hg g0 hlt hg').1 ((hg g0 hlt hg').2.symm.trans hb) hc ho' hsh hm
 |refn k g sz hg' hb=>
  intro r hr hok
  cases r<;>simp only[dz,reduceCtorEq,D.ref.injEq]at hr
  obtain⟨rfl,rfl,rfl,rfl,rfl⟩:=hr
  rename_i k0 g0 sz0
  have hlt:g0<n:=Vf hok;exact .refn k0 g0 _ (hg g0 hlt hg').1 ((hg g0 hlt hg').2.symm.trans hb)
 |ptr k g off b hg' hb=>
  intro r hr hok
  cases r<;>simp only[dz,reduceCtorEq,D.ptr.injEq]at hr
  obtain⟨rfl,rfl,rfl⟩:=hr
  rename_i k0 g0 _
  have hlt:g0<n:=Vf hok;exact .ptr k0 g0 _ b (hg g0 hlt hg').1 ((hg g0 hlt hg').2.symm.trans hb)
 |@ep E1 w1 cells off b o us hlen hd h1 hb ho' hr' ih=>
  intro r hr hok
  cases r<;>simp only[dz,reduceCtorEq,D.ep.injEq]at hr
  obtain⟨rfl,rfl⟩:=hr;exact .ep _ _ b o us hlen (λ i d u a1 a2=>(hd i d u a1 a2).step (E:=E1.cl) (E':=Er.cl) (w:=w1) (w':=w1) ⟨λ _ h=>h.elim,λ _ h=>h.elim,Vd _,λ b _ hb=>⟨λ h=>hb (ho hok b h),rfl⟩,λ _ _=>rfl⟩) h1 hb (λ hh=>ho' (ho hok b hh)) hr'
 |agg cs us hlen _ h1 ih=>
  intro r hr hok
  cases r<;>simp only[dz,reduceCtorEq,D.agg.injEq]at hr
  rename_i rs
  obtain⟨e1,e2⟩:=lst hr;refine .agg rs us (by rw[hlen,e1]) (λ i d u a1 a2=>?_) h1;exact ih i _ u (by rw[e2,a1];rfl) a2 hg ho d rfl (gd hok i d a1)
 |tup cs us hlen _ ih=>
  intro r hr hok
  cases r<;>simp only[dz,reduceCtorEq,D.tup.injEq]at hr
  rename_i rs
  obtain⟨e1,e2⟩:=lst hr;refine .tup rs us (by rw[hlen,e1]) (λ i d u a1 a2=>?_);exact ih i _ u (by rw[e2,a1];rfl) a2 hg ho d rfl (gd hok i d a1)
 |ifc t x u _ ih=>
  intro r hr hok
  cases r<;>simp only[dz,reduceCtorEq,D.ifc.injEq]at hr
  obtain⟨rfl,rfl⟩:=hr;exact .ifc _ _ u (ih hg ho _ rfl hok)
 |fn f fi ca us vs hl1 hl2 _ _ ih1 ih2=>
  intro r hr hok
  cases r<;>simp only[dz,reduceCtorEq,D.fn.injEq]at hr
  rename_i f' fi' ca'
  obtain⟨rfl,hr1,hr2⟩:=hr;rw[nv,U9]at hok;obtain⟨e1,e2⟩:=lst hr1;obtain⟨e3,e4⟩:=lst hr2;exact .fn _ fi' ca' us vs (by rw[hl1,e1]) (by rw[hl2,e3]) (λ i d u a1 a2=>ih1 i _ u (by rw[e2,a1];rfl) a2 hg ho d rfl (gd hok.1 i d a1)) (λ i d u a1 a2=>ih2 i _ u (by rw[e4,a1];rfl) a2 hg ho d rfl (gd hok.2 i d a1))
 |yl k g b hg' hb=>
  intro r hr hok
  cases r<;>simp only[dz,reduceCtorEq,D.yl.injEq]at hr
  obtain⟨rfl,rfl⟩:=hr
  rename_i k0 g0
  have hlt:g0<n:=Vf hok;exact .yl k0 g0 b (hg g0 hlt hg').1 ((hg g0 hlt hg').2.symm.trans hb)

theorem SpecH.of {al:Bool}(hT:T.ok P){f:FuncId}{fn:Func}{c:Code}(hf:P.funcs[f]? =some fn)(hb:fn.body=some c){rs:List ResultVar}(hrs:fn.results=⟨rs⟩){ds:List D}{hin:List Blk}{r:D}{bs:List Blk}(hle:U7 hin.length bs.length=true)
  (h:AWP P false fn.ntmps hin.length c (s0 ds hin) λ e s'=>(e= .normal∨e= .ret)∧jo T s' rs λ l=>Out al hin.length s' l r bs):SpecH al P f ds hin r bs:=by
 refine⟨Vf hle,λ O φ w args hOlt hhin hinj hal hargs=>?_⟩;have hm:=Vf hle;have hnamed:∀{j x},j<hin.length->φ j=some x->x<w.heap.size:=fun{j x} hj hx=>by
  have:=(hhin j _ (U4 hj)).2;have hx':(eT O φ hin.length).φ j=some x:=hx;rw[hx']at this;exact this.2.1
 let cx:Cx:=⟨w.heap.size,w,fn.ntmps,O,λ k=>w.heap.size<=k∨∃j,j<hin.length∧φ j=some k,λ _ h=>.inl h,hin.length⟩
 have hin_:∀{k g o},(s0 ds hin).gat k=some (g,o)->k<hin.length∧g=k∧∃b,o= .b b∧hin[k]? =some b:=fun{k g o} hk=>by
  obtain⟨_,h2,b,h3,h4⟩:=qN hin 0 k hk;rw[Nat.sub_zero]at h4;exact⟨(List.getElem?_eq_some_iff.1 h4).1,h2,b,h3,h4⟩
 have hsr:SR cx (eT O φ hin.length) (s0 ds hin) {
                           tmps:=args.toArray++YK (fn.ntmps-args.toArray.size) undef,defers:=[]} w:={
  fr:=sc hal hargs
  sz:=by show fn.ntmps<=_;simp;omega
  df:=mX.nil _ _ _
  hp:=λ k g b hk=>by
   obtain⟨_,rfl,b',e,h4⟩:=hin_ (AS.at_iff.1 hk)
   cases e;exact hhin _ _ h4
  lp:=λ k g b hk=>by
   obtain⟨_,_,b',e,_⟩:=hin_ (AS.lat_iff.1 hk)
   cases e
  inj:=λ k k' g g' o o' hkk h1 h2=>by
   obtain⟨a1,rfl,_⟩:=hin_ h1;obtain⟨a2,rfl,_⟩:=hin_ h2;exact λ x=>hinj _ _ x a1 a2 hkk
  lt:=λ x hx=>by
   rcases hx with hx|⟨j,hj,hx⟩
   ·exact hOlt x hx
   ·exact hnamed hj hx
  low:=λ x ⟨k,g,o,hk,hx⟩=>by
   obtain⟨a1,rfl,_⟩:=hin_ hk;exact .inr ⟨_,a1,hx⟩
  base:=λ x hx=>.inl hx
  bel:=Fr.refl _ _
  nm:=λ g hg=>.inl hg
  szB:=Vd _}
 refine(sa (Φ:=λ l s'=>Out al hin.length s' l r bs) hT hf hb hrs h (cx:=cx) rfl (Vd _) rfl hsr).mono ?_;rintro e w' ⟨l,s',E',a',v,rfl,⟨ks,gs,hexp,hnd,hgs,hmap,hok⟩,hu,hs',_,hst,hown,hold,hr⟩;obtain⟨x1,x2,x3⟩:=uv hexp;refine⟨v,rfl,hs'.bel,λ j=>if j<bs.length then E'.φ (gs.getD j 0)else none,λ j hj=>?_,?_,λ j b hb=>?_,λ i j x hi hj hij h1 h2=>?_,λ j x hmj hj hx=>?_⟩
 ·have hj':j<bs.length:=by omega
  show(if j<bs.length then E'.φ (gs.getD j 0)else none)=φ j;rw[ZF hj',jr hgs j hj,VK];exact hst.φ j hj hj
 ·have hφ:∀j,j<bs.length->(λ j=>if j<bs.length then E'.φ (gs.getD j 0)else none) j=E'.φ (gs.getD j 0):=λ j hj=>ZF hj
  refine BR (λ j hj _=>⟨hj,(hφ j hj).symm⟩) (λ hal' b hb=>?_) hr r hmap hok;rcases hb with hb|⟨j,hj,hx⟩
  ·unfold jm at hb;rw[ZF hal']at hb;exact hs'.base b hb
  ·rw[hφ j hj]at hx
   obtain⟨y1,_⟩:=x3 j _ (U4 hj);exact hs'.own_of ⟨_,_,_,AS.at_iff.1 y1,hx⟩
 ·have hj:j<bs.length:=(List.getElem?_eq_some_iff.1 hb).1
  have hφ:∀j,j<bs.length->(λ j=>if j<bs.length then E'.φ (gs.getD j 0)else none) j=E'.φ (gs.getD j 0):=λ j hj=>ZF hj
  have hownr:al=true->∀b,(eT (jm al O w) (λ j=>if j<bs.length then E'.φ (gs.getD j 0)else none) bs.length).own b->E'.own b:=λ hal' b hb=>by
   rcases hb with hb|⟨j,hj,hx⟩
   ·unfold jm at hb;rw[ZF hal']at hb;exact hs'.base b hb
   ·rw[hφ j hj]at hx
    obtain⟨y1,_⟩:=x3 j _ (U4 hj);exact hs'.own_of ⟨_,_,_,AS.at_iff.1 y1,hx⟩
  obtain⟨y1,y2⟩:=x3 j b hb;obtain⟨z1,z2⟩:=hs'.hp _ _ _ y1;obtain⟨m1,m2,m3⟩:=iA (λ j=>ks.getD j 0) (λ j=>gs.getD j 0) b;refine⟨⟨hj,?_⟩,λ hrow=>?_⟩
  rotate_left
  ·unfold Nz at y2
   rw[hrow,cond_true]at y2
   cases al with
   |true=>exact y2
   |false=>exact iJ _ y2
  show match(λ j=>if j<bs.length then E'.φ (gs.getD j 0)else none) j with|none=>_|some b=>_
  rw[hφ j hj]
  cases hp:E'.φ (gs.getD j 0)with
  |none=>
   rw[hp]at z2;exact⟨VQ (by rw[<-m3,z2.1];rfl),by rw[<-m2];exact z2.2⟩
  |some x=>
   rw[hp]at z2;obtain⟨_,c0,cur,fr,c1,c2,c3,c4,c5⟩:=z2;refine⟨.inr ⟨j,hj,(hφ j hj).trans hp⟩,c0,cur,fr,by rw[<-m1];exact c1,c2,by rw[<-m3];exact c3,λ hr=>by rw[<-m3];exact c4 (by rw[m2];exact hr),λ i d hd=>?_⟩;unfold Nz at y2
   cases hrow:b.row with
   |true=>
    rw[hrow,cond_true]at y2;have e:(cb (λ j=>ks.getD j 0) (λ j=>gs.getD j 0) b).cells=b.cells:=by unfold cb;rw[hrow];rfl
    obtain⟨v,v1,v2,v3⟩:=c5 i d (by rw[e];exact hd);refine⟨v,v1,v2,?_⟩
    cases al with
    |true=>exact RD.ofCl ((v3.weak (bu y2 hd)).step (E:=E'.cl) (E':=Env.cl (eT (jm true O w) _ bs.length)) (w:=w') (w':=w') ⟨λ _ h=>h.elim,λ _ h=>h.elim,Vd _,λ b _ hb=>⟨λ h=>hb (hownr rfl b h),rfl⟩,λ _ _=>rfl⟩)
    |false=>exact v3.plain (j6.1 y2 d (We hd)) _ _
   |false=>
    rw[hrow,cond_false]at y2;have e:(cb (λ j=>ks.getD j 0) (λ j=>gs.getD j 0) b).cells=gb (λ j=>ks.getD j 0) (λ j=>gs.getD j 0) b.cells:=by unfold cb;rw[hrow];rfl
    obtain⟨v,v1,v2,v3⟩:=c5 i (dz (λ j=>ks.getD j 0) (λ j=>gs.getD j 0) d) (by rw[e,fv,Vu,hd];rfl);exact⟨v,v1,v2,BR (λ j hj _=>⟨hj,(hφ j hj).symm⟩) hownr v3 d rfl (gd y2 i d hd)⟩
 ·simp only[hi,hj,if_true]at h1 h2
  obtain⟨y1,_⟩:=x3 i _ (U4 hi);obtain⟨y2,_⟩:=x3 j _ (U4 hj);refine hs'.inj _ _ _ _ _ _ (λ e=>hij ?_) (AS.at_iff.1 y1) (AS.at_iff.1 y2) x h1 h2;have e1:ks[i]? =some (ks.getD i 0):=by simp[show i<ks.length by omega]
  have e2:ks[j]? =some (ks.getD j 0):=by simp[show j<ks.length by omega]
  exact jY (ed hnd) e1 (by rw[e];exact e2)
 ·simp only[hj,if_true]at hx
  obtain⟨y1,_⟩:=x3 j _ (U4 hj);rcases hs'.low x ⟨_,_,_,AS.at_iff.1 y1,hx⟩with h1|⟨j0,hj0,hx0⟩
  ·exact h1
  ·exfalso
   have hj0':j0<bs.length:=by omega
   obtain⟨y2,_⟩:=x3 j0 _ (U4 hj0');have e0:E'.φ (gs.getD j0 0)=some x:=by
    rw[jr hgs j0 hj0,VK];exact(hst.φ j0 hj0 hj0).trans hx0
   refine hs'.inj _ _ _ _ _ _ (λ e=>?_) (AS.at_iff.1 y1) (AS.at_iff.1 y2) x hx e0;have e1:ks[j]? =some (ks.getD j 0):=by simp[show j<ks.length by omega]
   have e2:ks[j0]? =some (ks.getD j0 0):=by simp[show j0<ks.length by omega]
   have:=jY (ed hnd) e1 (by rw[e];exact e2);omega
end
end Go.Vx
namespace Go.Vx
open Go.RowKit Go.Bw
def Fs (P:Program)(p:Nat×TI):Prop:=P.underlying p.1=some p.2.desc∧(P.info? p.1).map (λ i=>(i.zero,i.size,i.bytes))=some (some p.2.zero,p.2.size,p.2.bytes)∧p.2.zero.cells.size=p.2.size∧(p.2.plain=true->P.stoodInHeld p.1=false∧P.eqGuardType P.depth p.1=false∧∀fs,p.2.desc= .struct fs->fs.toList.all (λ f=>f.name != "_")=true)
theorem R8 {P:Program}{t:Nat}{d:TypeDesc}{z:Value}{sz b:Nat}(h1:P.underlying t=some d)(h2:(P.info? t).map (λ i=>(i.zero,i.size,i.bytes))=some (some z,sz,b))(h3:z.cells.size=sz):Fs P (t,⟨d,z,sz,b,false⟩):=⟨h1,h2,h3,λ h=>by cases h⟩
theorem NA {P:Program}{t:Nat}{d:TypeDesc}{z:Value}{sz b:Nat}(h1:P.underlying t=some d)(h2:(P.info? t).map (λ i=>(i.zero,i.size,i.bytes))=some (some z,sz,b))(h3:z.cells.size=sz)(h4:P.stoodInHeld t=false)(h5:P.eqGuardType P.depth t=false)(h6:(match d with| .struct fs=>fs.toList.all (λ f=>f.name != "_")|_=>true)=true):Fs P (t,⟨d,z,sz,b,true⟩):=⟨h1,h2,h3,λ _=>⟨h4,h5,λ fs e=>by subst e;exact h6⟩⟩
def BS (P:Program):List (Nat×TI)->Prop
 |[]=>True
 |p::r=>Fs P p∧BS P r
theorem qO {P:Program}:∀{l:List (Nat×TI)},BS P l->∀p∈l,Fs P p
 |[],_,p,h=>by cases h
 |q::r,h,p,hp=>by
  rcases List.mem_cons.1 hp with rfl|hp
  ·exact h.1
  ·exact qO h.2 p hp
theorem TT.ok_ofL {P:Program}{l:List (Nat×TI)}{T:TT}(h:BS P l)(e:T=aap l):TT.ok P T:=by
 intro t i hi;subst e;obtain⟨h1,h2,h3,h4⟩:=qO h _ (aaq hi);obtain⟨j,j1,j2,j3,j4⟩:=info_parts h2;exact⟨h1,h3,⟨j,j1,j2,j3,j4⟩,h4⟩
theorem az.of {P:Program}{f:FuncId}{fn:Func}(hf:P.funcs[f]? =some fn)(h1:fn.body.isNone=false)(h2:(fn.name== "runtime.NumGoroutine")=false):az P f:=⟨fn,hf,h1,h2⟩
theorem D.sim.of_eq {d d':D}(h:d=d'):d.sim d':=h▸ .refl d
theorem D.sim.slw {nn:Bool}{n n' sz:Nat}{cells cells':List D}(h1:n=n')(h2:cells=cells'):(Vl nn n sz cells).sim (.sl false n' sz cells'):=by
 subst h1 h2;intro E w u h
 cases h with
 |sl _ _ _ _ a c us hlen hd h1 hn hs hc h0 hr=>exact .sl _ _ _ _ a c us hlen hd h1 hn hs hc (λ h=>⟨(h0 h).1,rfl⟩) hr
theorem yi (bs:Z1):dW (bs.map dB) 0 (bs.length*1)=bs.map dB:=by
 rw[jl,List.drop_zero,VG,<-Vj (f:=dB) («as»:=bs),Wd]
theorem cR (bs:Z1):ab (bs.map dB)=true:=iJ _ (bn bs)
theorem br {b:Bool}{X Y:Prop}(h1:b=true->X)(h2:b=false->Y):Nt b X Y:=iC.2 ⟨h1,h2⟩
theorem chk {b:Bool}{X:Prop}(h1:b=true)(h2:X):wo b X:=bF.2 ⟨h1,h2⟩
theorem R9 {P:Program}{s:AS}{ds:List D}{f:FuncId}{nm ky:Nat}{K:Option D->Up->Prop}{al:Bool}(fp:List Nat){q q0:List D}{hin:List Blk}{r:D}{bs:List Blk}(hcall:CallOk al P f q0 hin r bs)(h1:ko s al fp ds=some (true,q))(h2:kE s fp fp=some (true,hin))(hsim:cQ q q0)
  (h3:(gc fp&&U7 bs.length (fp.length+8))=true) (h4:K (some (rV (hJ fp ky) (gO s fp nm) bs r)) (iB (hJ fp ky) (gO s fp nm) 0 bs)):callP P s ds f nm ky K:=by
 refine⟨al,fp,q,hin,r,bs,h1,h2,?_,h3,h4⟩;obtain⟨e,g⟩:=hsim.get
 cases hcall with
 |fn hf hspec=>
  refine .fn hf ⟨hspec.1,λ O φ w args hO hh hi hl ha=>hspec.2 O φ w args hO hh hi (hl.trans e) λ j d u hd hu=>?_⟩;obtain⟨d0,a1,a2⟩:=g j d hd;exact a2 _ _ _ (ha j d0 u a1 hu)
 |ext hspec=>
  refine .ext ⟨hspec.1,λ O φ w args hO hh hi hl ha=>hspec.2 O φ w args hO hh hi (hl.trans e) λ j d u hd hu=>?_⟩;obtain⟨d0,a1,a2⟩:=g j d hd;exact a2 _ _ _ (ha j d0 u a1 hu)
theorem Sa {P:Program}{T:TT}{nt kb i:Nat}{o:Oper}{s:AS}{ds:List D}{f:FuncId}{K:AS->Prop}{fn:Func}{c:Code}{rs:List ResultVar}(h1:P.funcs[f]? =some fn)(h2:fn.body=some c)(h3:fn.results=⟨rs⟩)(h4:(fn.name== "runtime.NumGoroutine")=false)
  (h:AWP P false fn.ntmps (s.nx+8*(i+1)) c {tm:=na 0 ds,hp:=s.hp,nx:=s.nx+8*(i+1),us:=[]} λ e s'=>(e= .normal∨e= .ret)∧jo T s' rs λ l=>K {tm:=ey s.tm o.dst (some (uk l)),hp:=s'.hp,nx:=s'.nx,us:=[]}):callX P T nt kb i o s ds f K:=
 ⟨.inr ⟨fn,c,rs,h1,h2,h3,h4,h⟩⟩
end Go.Vx
namespace Go.Vx
open Go.RowKit Go.Bw

inductive CO where
 |b (x:Blk)
 |c (x:Blk)
 /-- an array,told as a row of closed cells -/
 |r (x:Blk)
 |l (st:LoopState) (pend:Option Code) (params:Array Tmp) (assign body:Code) (nt:Nat) (tm:List (Nat×D))
def CO.ob:CO->Ob
 | .b x=>.b x
 | .c x=>.b x
 | .r x=>.b x
 | .l st pend params assign body nt tm=>.l ⟨st,pend,params,assign,body,nt,aap tm⟩
structure Ent where
 k':Nat
 g':Nat
 k:Nat
 g:Nat
 o:CO
structure CutS where
 tm:List (Nat×D)
 es:List Ent
 nx:Nat
def CutS.st (c:CutS):AS:=⟨aap c.tm,aap (c.es.map λ e=>(e.k',(e.g',e.o.ob))),c.nx,[]⟩
def γE:List Ent->Nat->Nat
 |[],g=>g
 |e::r,g=>bif U5 e.g' g then e.g else γE r g
def κE:List Ent->Nat->Nat
 |[],k=>k
 |e::r,k=>bif U5 e.k' k then e.k else κE r k

def RB (s:AS)(κ γ:Nat->Nat):List (Nat×D)->Prop
 |[]=>True
 |p::r=>s.tm.get p.1=some (dz κ γ p.2)∧RB s κ γ r
def Kk (tm0:Tr D)(κ γ:Nat->Nat):List (Nat×D)->Prop
 |[]=>True
 |p::r=>tm0.get p.1=some (dz κ γ p.2)∧Kk tm0 κ γ r
def Sc (p:Nat×Blk):Nat×Blk:=(p.1,⟨p.2.cells,p.2.elem,true⟩)
def RC (s:AS)(κ γ:Nat->Nat)(e:Ent):Prop:=
 match e.o with
 | .b x=>s.at e.k=some (e.g,cb κ γ x)
 | .c x=>s.at e.k=some (e.g,x)
 | .r x=>(s.at e.k).map Sc=some (e.g,x)
 | .l st pend params assign body nt tm=>kq (s.lat e.k) λ p=>(p.1,p.2.st,p.2.pend,p.2.params,p.2.assign,p.2.body,p.2.nt)=(e.g,st,pend,params,assign,body,nt)∧Kk p.2.tm κ γ tm
def RE (s:AS)(κ γ:Nat->Nat):List Ent->Prop
 |[]=>True
 |e::r=>RC s κ γ e∧RE s κ γ r
def CutS.ok (c:CutS)(xn:Nat):Bool:=
 gc (c.es.map (·.g'))&&gc (c.es.map (·.k))&&c.es.all (λ e=>Xl e.g' c.nx&&(U5 e.g' e.g||(U7 xn e.g'&&U7 xn e.g)))&&U7 xn c.nx
def BT (n:Nat):List Ent->Prop
 |[]=>True
 |e::r=>(match e.o with
  | .b x=>(x.row=true->ab x.cells=true)∧(x.row=false->eU true n x.cells=true)
  | .c x=>ab x.cells=true
  | .r x=>ab x.cells=true
  | .l _ _ _ _ _ _ tm=>(tm.all λ p=>nv true n p.2)=true)∧BT n r
def iK (c:CutS):Prop:=BT c.nx c.es∧(c.tm.all λ p=>nv true c.nx p.2)=true
mutual
theorem mr:∀(d:D) {n:Nat},d.closed=true->nv true n d=true
 | .v _,_,_=>rfl
 | .sl _ _ _ _,_,_=>rfl
 | .agg cs,_,h=>dM cs h
 | .tup cs,_,h=>dM cs h
 | .ifc _ x,_,h=>mr x h
 | .fn _ fi ca,n,h=>by
  have h:(ab fi&&ab ca)=true:=h;rw[U9]at h;show(eU true n fi&&eU true n ca)=true;rw[dM fi h.1,dM ca h.2];rfl
 | .ref ..,_,h=>by cases h
 | .ptr ..,_,h=>by cases h
 | .ep ..,_,h=>rfl
 | .yl ..,_,h=>by cases h
theorem dM:∀(l:List D) {n:Nat},ab l=true->eU true n l=true
 |[],_,_=>rfl
 |d::r,n,h=>by
  have h:(d.closed&&ab r)=true:=h;rw[U9]at h;show(nv true n d&&eU true n r)=true;rw[mr d h.1,dM r h.2];rfl
end
theorem js {n:Nat}:∀{a b:List D},eU true n a=true->eU true n b=true->eU true n (a++b)=true
 |[],_,_,h=>h
 |d::r,b,h1,h2=>by
  have h1:(nv true n d&&eU true n r)=true:=h1;rw[U9]at h1;show(nv true n d&&eU true n (r++b))=true;rw[h1.1,js h1.2 h2];rfl
theorem eg {n:Nat}{d:D}{r:List D}(h1:nv true n d=true)(h2:eU true n r=true):eU true n (d::r)=true:=by
 show(nv true n d&&eU true n r)=true;rw[h1,h2];rfl
theorem iL {n:Nat}{p:Nat×D}{r:List (Nat×D)}(h1:nv true n p.2=true)(h2:(r.all λ p=>nv true n p.2)=true):((p::r).all λ p=>nv true n p.2)=true:=by
 rw[YF,h1,h2];rfl

structure CutE (s:AS)(xn:Nat)(c:CutS):Prop where
 tm:RB s (κE c.es) (γE c.es) c.tm
 es:RE s (κE c.es) (γE c.es) c.es
 ok:c.ok xn=true
 rows:iK c
 us:s.us=[]

theorem yj {s:AS}{κ γ:Nat->Nat}:∀{l:List (Nat×D)},RB s κ γ l->∀p∈l,s.tm.get p.1=some (dz κ γ p.2)
 |[],_,p,h=>by cases h
 |q::r,⟨h1,h2⟩,p,h=>by
  rcases List.mem_cons.1 h with rfl|h
  ·exact h1
  ·exact yj h2 p h
theorem uw {s:Tr D}{κ γ:Nat->Nat}:∀{l:List (Nat×D)},Kk s κ γ l->∀p∈l,s.get p.1=some (dz κ γ p.2)
 |[],_,p,h=>by cases h
 |q::r,⟨h1,h2⟩,p,h=>by
  rcases List.mem_cons.1 h with rfl|h
  ·exact h1
  ·exact uw h2 p h
theorem si {s:AS}{κ γ:Nat->Nat}:∀{l:List Ent},RE s κ γ l->∀e∈l,RC s κ γ e
 |[],_,p,h=>by cases h
 |q::r,⟨h1,h2⟩,p,h=>by
  rcases List.mem_cons.1 h with rfl|h
  ·exact h1
  ·exact si h2 p h
theorem qP {n:Nat}:∀{l:List Ent},BT n l->∀e∈l,match e.o with
  | .b x=>(x.row=true->ab x.cells=true)∧(x.row=false->eU true n x.cells=true)
  | .c x=>ab x.cells=true
  | .r x=>ab x.cells=true
  | .l _ _ _ _ _ _ tm=>(tm.all λ p=>nv true n p.2)=true
 |[],_,p,h=>by cases h
 |q::r,⟨h1,h2⟩,e,h=>by
  rcases List.mem_cons.1 h with rfl|h
  ·exact h1
  ·exact qP h2 e h
theorem oU:∀{l:List Ent},(l.map (·.g')).Nodup->∀e∈l,γE l e.g'=e.g
 |[],_,e,h=>by cases h
 |q::r,hn,e,h=>by
  simp only[WM,List.nodup_cons]at hn;simp only[γE];rcases List.mem_cons.1 h with rfl|h
  ·simp
  ·have:U5 q.g' e.g'=false:=by
    cases hb:U5 q.g' e.g' with
    |false=>rfl
    |true=>exact absurd (by rw[Vc hb];exact List.mem_map.2 ⟨e,h,rfl⟩) hn.1
   rw[this];exact oU hn.2 e h
theorem sj:∀{l:List Ent} {xn:Nat},(∀e∈l,e.g'=e.g∨(xn<=e.g'∧xn<=e.g))->∀g,g<xn->γE l g=g
 |[],_,_,g,_=>rfl
 |e::r,xn,h,g,hg=>by
  simp only[γE]
  cases hb:U5 e.g' g with
  |true=>
   have:=Vc hb;rcases h e Vr with h1|⟨h1,_⟩
   ·rw[cond_true,<-h1,this]
   ·omega
  |false=>exact sj (λ e' he=>h e' (Vy _ he)) g hg

section
variable {P:Program} {rd:Bool} {nt:Nat}
theorem SR.cut {cx:Cx}{E:Env}{s:AS}{a:Act}{w:World}(h:SR cx E s a w){c:CutS}(hc:CutE s cx.xn c):∃E',SR cx E' c.st a w∧StpX cx.xn E E' w w∧Mut s c.st E E' w w:=by
 obtain⟨htm,hes,hok,hrows,hus⟩:=hc;obtain⟨hrows,htmok⟩:=hrows;have htmok:=List.all_eq_true.1 htmok;simp only[CutS.ok,U9,Yx,Xf]at hok;obtain⟨⟨⟨hg',hk⟩,hall⟩,hxn⟩:=hok;have hg':=ed hg';have hk:=ed hk;have hxn:=Vf hxn;have hfix:∀e∈c.es,e.g'=e.g∨(cx.xn<=e.g'∧cx.xn<=e.g):=λ e he=>by
  rcases(hall e he).2 with h1|h1
  ·exact .inl (Vc h1)
  ·exact .inr ⟨Vf h1.1,Vf h1.2⟩
 let E':Env:=⟨λ g=>E.φ (γE c.es g),E.own,λ g=>E.nm (γE c.es g)∧g<c.nx⟩
 have hmap:∀{d:D} {u:Value},RD E w (dz (κE c.es) (γE c.es) d) u->nv true c.nx d=true->RD E' w d u:=λ hr ho=>BR (Er:=E') (λ j hj hn=>⟨⟨hn,hj⟩,rfl⟩) (λ _ b hb=>hb) hr _ rfl ho
 have hcl:∀{d:D} {u:Value},RD E.cl w d u->RD E' w d u:=λ hr=>RD.ofCl (RD.step (E:=E.cl) (E':=E'.cl) (w:=w) (w':=w) ⟨λ _ h=>h.elim,λ _ h=>h.elim,Vd _,λ b _ hb=>⟨hb,rfl⟩,λ _ _=>rfl⟩ hr)
 have hold:∀{k g o},c.st.gat k=some (g,o)->∃e∈c.es,e.k'=k∧e.g'=g∧e.o.ob=o:=fun{k g o} hkk=>by
  obtain⟨e,he,h1⟩:=List.mem_map.1 (aaq hkk)
  cases h1;exact⟨e,he,rfl,rfl,rfl⟩
 have hgat:∀e∈c.es,∃o,s.gat e.k=some (e.g,o):=λ e he=>by
  have h1:=si hes e he;unfold RC at h1
  split at h1
  ·exact⟨_,AS.at_iff.1 h1⟩
  ·exact⟨_,AS.at_iff.1 h1⟩
  ·obtain⟨p,hp,h2⟩:=Option.map_eq_some_iff.1 h1
   obtain⟨g,r⟩:=p;have:g=e.g:=congrArg Va h2;subst this;exact⟨_,AS.at_iff.1 hp⟩
  ·obtain⟨p,hp,h2,_⟩:=aP.1 h1
   obtain⟨g,r⟩:=p;have:g=e.g:=congrArg Va h2;subst this;exact⟨_,AS.lat_iff.1 hp⟩
 have hob:∀{k g o},c.st.gat k=some (g,o)->OB E' w g o:=fun{k g o} hkk=>by
  obtain⟨e,he,rfl,rfl,rfl⟩:=hold hkk;have h1:=si hes e he;have hγ:=oU hg' e he;have hlt:e.g'<c.nx:=Vf (hall e he).1;have hco:=qP hrows e he;unfold RC at h1
  cases hoo:e.o with
  |b x=>
   rw[hoo]at h1 hco;dsimp only at h1;obtain⟨c1,c2⟩:=h.hp _ _ _ h1;obtain⟨m1,m2,m3⟩:=iA (κE c.es) (γE c.es) x;refine⟨⟨by rw[hγ];exact c1,hlt⟩,?_⟩;show match E.φ (γE c.es e.g')with|none=>_|some b=>_
   rw[hγ]
   cases hp:E.φ e.g with
   |none=>
    rw[hp]at c2;exact⟨VQ (by rw[<-m3,c2.1];rfl),by rw[<-m2];exact c2.2⟩
   |some b=>
    rw[hp]at c2;obtain⟨d1,d2,cur,fr,d3,d4,d5,d6,d7⟩:=c2;refine⟨d1,d2,cur,fr,by rw[<-m1];exact d3,d4,by rw[<-m3];exact d5,λ hr=>by rw[<-m3];exact d6 (by rw[m2];exact hr),λ i d hd=>?_⟩
    cases hrow:x.row with
    |true=>
     have e1:(cb (κE c.es) (γE c.es) x).cells=x.cells:=by unfold cb;rw[hrow];rfl
     obtain⟨v,v1,v2,v3⟩:=d7 i d (by rw[e1];exact hd);exact⟨v,v1,v2,hcl (v3.weak (bu (hco.1 hrow) hd))⟩
    |false=>
     have e1:(cb (κE c.es) (γE c.es) x).cells=gb (κE c.es) (γE c.es) x.cells:=by unfold cb;rw[hrow];rfl
     obtain⟨v,v1,v2,v3⟩:=d7 i (dz (κE c.es) (γE c.es) d) (by rw[e1,fv,Vu,hd];rfl);exact⟨v,v1,v2,hmap v3 (gd (hco.2 hrow) i d hd)⟩
  |c x=>
   rw[hoo]at h1 hco;dsimp only at h1 hco;obtain⟨c1,c2⟩:=h.hp _ _ _ h1;refine⟨⟨by rw[hγ];exact c1,hlt⟩,?_⟩;show match E.φ (γE c.es e.g')with|none=>_|some b=>_
   rw[hγ]
   cases hp:E.φ e.g with
   |none=>rw[hp]at c2;exact c2
   |some b=>
    rw[hp]at c2;obtain⟨d1,d2,cur,fr,d3,d4,d5,d6,d7⟩:=c2;refine⟨d1,d2,cur,fr,d3,d4,d5,d6,λ i d hd=>?_⟩;obtain⟨v,v1,v2,v3⟩:=d7 i d hd;exact⟨v,v1,v2,hcl (v3.weak (bu hco hd))⟩
  |r x=>
   rw[hoo]at h1 hco;dsimp only at h1 hco;obtain⟨p,hp0,h2⟩:=Option.map_eq_some_iff.1 h1;obtain⟨g,y⟩:=p;have e1:g=e.g:=congrArg Va h2;have e2:(⟨y.cells,y.elem,true⟩:Blk)=x:=congrArg U0 h2;subst e1 e2;obtain⟨c1,c2⟩:=h.hp _ _ _ hp0;refine⟨⟨by rw[hγ];exact c1,hlt⟩,?_⟩;show match E.φ (γE c.es e.g')with|none=>_|some b=>_
   rw[hγ]
   cases hp:E.φ e.g with
   |none=>rw[hp]at c2;exact⟨c2.1,rfl⟩
   |some b=>
    rw[hp]at c2;obtain⟨d1,d2,cur,fr,d3,d4,d5,d6,d7⟩:=c2;refine⟨d1,d2,cur,fr,d3,d4,d5,λ q=>Bool.noConfusion q,λ i d hd=>?_⟩;obtain⟨v,v1,v2,v3⟩:=d7 i d hd;exact⟨v,v1,v2,hcl (v3.weak (bu hco hd))⟩
  |l st pend params assign body nt tm=>
   rw[hoo]at h1 hco;dsimp only at h1;obtain⟨p,hp,h2,h3⟩:=aP.1 h1;obtain⟨g,r⟩:=p;simp only[Prod.mk.injEq]at h2;obtain⟨rfl,e1,e2,e3,e4,e5,e6⟩:=h2;obtain⟨c1,b,L,c2,c3,c4,c5,c6,c7,c8,c9,c10,c11,c12⟩:=h.lp _ _ _ hp;refine⟨⟨by rw[hγ];exact c1,hlt⟩,b,L,by show E.φ (γE c.es e.g')=_;rw[hγ];exact c2,c3,c4,c5,c6.trans e1,c7.trans e2,c8.trans e3,c9.trans e4,c10.trans e5,by show nt<=_;rw[<-e6];exact c11,λ t d hd=>?_⟩;have hm:=aaq hd;obtain⟨u,u1,u2⟩:=c12 t _ (uw h3 _ hm);exact⟨u,u1,hmap u2 (List.all_eq_true.1 hco _ hm)⟩
 have hown:∀{x},bR c.st E'.φ x->bR s E.φ x:=fun⟨k,g,o,hkk,hx⟩=>by
  obtain⟨e,he,rfl,rfl,rfl⟩:=hold hkk;obtain⟨o,ho⟩:=hgat e he;have hx:E.φ (γE c.es e.g')=some _:=hx;rw[oU hg' e he]at hx;exact⟨e.k,e.g,o,ho,hx⟩
 refine⟨E',{h with
  fr:=λ t d hd=>?_
  df:=h.df.step (λ b hb=>hb) λ b _ _=>rfl
  hp:=λ k g b hk=>hob (AS.at_iff.1 hk)
  lp:=λ k g b hk=>hob (AS.lat_iff.1 hk)
  inj:=λ k1 k2 g1 g2 o1 o2 hkk h1 h2 x hx1 hx2=>?_
  low:=λ x hx=>h.low x (hown hx)
  nm:=λ g hg=>.inl hg.2},⟨λ g hg hn=>⟨by rw[sj hfix g hg];exact hn,VZ hg hxn⟩,λ g hg _=>by show E.φ (γE c.es g)=_;rw[sj hfix g hg],Vd _,λ b _ hb=>⟨hb,rfl⟩,λ _ _=>rfl⟩,⟨λ _ hb=>hb,λ _ _ _=>rfl,λ _ _ hx=>hown hx⟩⟩
 ·have hm:=aaq hd
  obtain⟨u,u1,u2⟩:=h.fr t _ (yj htm _ hm);exact⟨u,u1,hmap u2 (htmok _ hm)⟩
 ·obtain⟨e1,he1,rfl,rfl,rfl⟩:=hold h1
  obtain⟨e2,he2,rfl,rfl,rfl⟩:=hold h2;obtain⟨o1',ho1⟩:=hgat e1 he1;obtain⟨o2',ho2⟩:=hgat e2 he2;have hx1:E.φ (γE c.es e1.g')=some x:=hx1;have hx2:E.φ (γE c.es e2.g')=some x:=hx2;rw[oU hg' e1 he1]at hx1;rw[oU hg' e2 he2]at hx2;refine h.inj e1.k e2.k e1.g e2.g o1' o2' (λ e=>hkk ?_) ho1 ho2 x hx1 hx2;have:e1=e2:=by
   obtain⟨i,hi⟩:=Wc he1;obtain⟨j,hj⟩:=Wc he2;have q1:(c.es.map (·.k))[i]? =some e1.k:=by rw[Vu,hi];rfl
   have q2:(c.es.map (·.k))[j]? =some e1.k:=by rw[Vu,hj,e];rfl
   have:=jY hk q1 q2;subst this;rw[hi]at hj;cases hj;rfl
  rw[this]

theorem CutE.le {s:AS}{xn xn':Nat}{c:CutS}(h:CutE s xn c)(hx:xn'<=xn):CutE s xn' c:=by
 refine⟨h.tm,h.es,?_,h.rows,h.us⟩;have hok:=h.ok;simp only[CutS.ok,U9,Yx,Xf]at hok ⊢;obtain⟨⟨h1,h2⟩,h3⟩:=hok;refine⟨⟨h1,λ e he=>?_⟩,U8 (Vq hx (Vf h3))⟩;obtain⟨a1,a2⟩:=h2 e he;exact⟨a1,a2.imp id fun⟨b1,b2⟩=>⟨U8 (Vq hx (Vf b1)),U8 (Vq hx (Vf b2))⟩⟩
theorem AWP.cutEnd {xn:Nat}{c:Code}{s:AS}{Q:AX->AS->Prop}(h:AWP P rd nt xn c s λ e s'=>∃d:CutS,CutE s' xn d∧Q e d.st):AWP P rd nt xn c s Q:=
 ⟨λ F n cx E a w Q' hF hro hn hu hs hQ=>h.run F n cx E a w Q' hF hro hn hu hs λ e s' E' a' w' ⟨d,hd,hK⟩ hu' hs' hst hmut=>by
  obtain⟨E2,q1,q2,q3⟩:=hs'.cut (hd.le hro.2);exact hQ e d.st E2 a' w' hK rfl q1 (hst.trans q2) (hmut.trans q3 hst.size)⟩
theorem AWP.cutStart {xn:Nat}{c:Code}{s:AS}{Q:AX->AS->Prop}{d:CutS}(hd:CutE s xn d)(h:AWP P rd nt xn c d.st Q):AWP P rd nt xn c s Q:=
 ⟨λ F n cx E a w Q' hF hro hn hu hs hQ=>by
  obtain⟨E2,q1,q2,q3⟩:=hs.cut (hd.le hro.2);exact h.run F n cx E2 a w Q' hF hro hn rfl q1 λ e s' E' a' w' hK hu' hs' hst hmut=>hQ e s' E' a' w' hK hu' hs' (q2.trans hst) (q3.trans hmut q2.size)⟩
def oV (F:Fence)(n:Nat)(P:Program)(c:Code)(Q:Exit->Act->World->Prop)(a:Act)(w:World):Prop:=
 ∀(b:Frame) (k:List Item) (cs:List Frame),b.roundOf=F.round->F.fn b.fn->F.room (cs.length+1+n)->
  ∃e a' w',Q e a' w'∧ArrivesIn (Machine.fenced P F) P (lone (b.atR a (.code c:: .inLoop c::k)) cs w) b k cs e a' w'
theorem nc {F:Fence}{n:Nat}{c:Code}{Q:Exit->Act->World->Prop}{a:Act}{w:World}(h:c.wpIn F n P (Exit.then (oV F n P c Q) Q) a w):oV F n P c Q a w:=by
 intro b k cs hro hb hr;obtain⟨e,a₁,w₁,hq,harr⟩:=h b (.inLoop c::k) cs hro hb hr
 cases e with
 |normal=>
  obtain⟨e₂,a₂,w₂,hq₂,harr₂⟩:=hq b k cs hro hb hr;exact⟨e₂,a₂,w₂,hq₂,.of_steps (StepsIn.trans harr (.one (fenced_calm hb hr rfl) stepR_inLoop)) harr₂⟩
 |exit id=>exact⟨_,a₁,w₁,hq,.pass (x:=.inLoop c) rfl (λ _ _=>.inl (by simp)) harr⟩
 |goto l=>exact⟨_,a₁,w₁,hq,.pass (x:=.inLoop c) rfl (λ _ _=>.inl (by simp)) harr⟩
 |ret=>exact⟨_,a₁,w₁,hq,.pass (x:=.inLoop c) rfl (λ _ _=>.inl (by simp)) harr⟩
 |panic ch=>exact⟨_,a₁,w₁,hq,.pass (x:=.inLoop c) rfl (λ _ _=>.inl (by simp)) harr⟩
 |outgrown=>exact⟨_,a₁,w₁,hq,.pass (x:=.inLoop c) rfl (λ _ _=>.inl (by simp)) harr⟩
theorem gQ {F:Fence}{n:Nat}{c:Code}{Q:Exit->Act->World->Prop}:∀(m:Nat) {a:Act} {w:World},Code.roundsIn F n P c Q m a w->oV F n P c Q a w
 |0,_,_,h=>h.elim
 |m+1,_,_,h=>nc (wpIn_mono h λ e a' w' hq=>by
  cases e with
  |normal=>exact gQ m hq
  |_=>exact hq)
theorem AC {F:Fence}{n:Nat}{c:Code}{Q:Exit->Act->World->Prop}{a:Act}{w:World}(h:oV F n P c Q a w):(Code.loop c).wpIn F n P Q a w:=by
 intro b k cs hro hb hr;obtain⟨e,a',w',hq,harr⟩:=h b k cs hro hb hr;exact⟨e,a',w',hq,.of_steps (.one (fenced_calm hb hr rfl) stepR_loop) harr⟩
structure AWPl (P:Program)(rd:Bool)(nt xn:Nat)(c:Code)(s:AS)(K:AX->AS->Prop):Prop where
 run:∀(F:Fence) (n:Nat) (cx:Cx) (E:Env) (a:Act) (w:World) (Q:Exit->Act->World->Prop),FOK F->((rd=false->F.round=none)∧cx.xn<=xn)->cx.nt=nt->s.us=[]->SR cx E s a w->
  (∀e s' E' a' w',K e s'->s'.us=[]->SR cx E' s' a' w'->StpX cx.xn E E' w w'->Mut s s' E E' w w'->Q e.ex a' w')->oV F n P c Q a w
theorem AWPl.awp {xn:Nat}{c:Code}{s:AS}{K:AX->AS->Prop}(h:AWPl P rd nt xn c s K):AWP P rd nt xn (.loop c) s K:=
 ⟨λ F n cx E a w Q hF hro hn hu hs hQ=>AC (h.run F n cx E a w Q hF hro hn hu hs hQ)⟩
theorem AWPl.mono {xn:Nat}{c:Code}{s:AS}{K K':AX->AS->Prop}(h:AWPl P rd nt xn c s K)(hk:∀e s',K e s'->K' e s'):AWPl P rd nt xn c s K':=
 ⟨λ F n cx E a w Q hF hr hn hu hs hQ=>h.run F n cx E a w Q hF hr hn hu hs λ e s' E' a' w' hK=>hQ e s' E' a' w' (hk e s' hK)⟩
theorem AWPl.cutStart {xn:Nat}{c:Code}{s:AS}{Q:AX->AS->Prop}{d:CutS}(hd:CutE s xn d)(h:AWPl P rd nt xn c d.st Q):AWPl P rd nt xn c s Q:=
 ⟨λ F n cx E a w Q' hF hro hn hu hs hQ=>by
  obtain⟨E2,q1,q2,q3⟩:=hs.cut (hd.le hro.2);exact h.run F n cx E2 a w Q' hF hro hn rfl q1 λ e s' E' a' w' hK hu' hs' hst hmut=>hQ e s' E' a' w' hK hu' hs' (q2.trans hst) (q3.trans hmut q2.size)⟩
theorem AWPl.peel {xn:Nat} {c:Code} {s:AS} {K:AX->AS->Prop} (h:AWP P rd nt xn c s λ e s'=>match e with
  | .normal=>AWPl P rd nt xn c s' K
  |e=>K e s'):AWPl P rd nt xn c s K:=by
 refine⟨λ F n cx E a w Q hF hro hn hu hs hQ=>nc ?_⟩;refine h.run F n cx E a w _ hF hro hn hu hs λ e s' E' a' w' hK hu' hs' hst' hmut'=>?_
 cases e with
 |normal=>exact hK.run F n cx E' a' w' Q hF hro hn hu' hs' λ e s2 E2 a2 w2 hK2 hu2 gu hst2 hmut2=>hQ e s2 E2 a2 w2 hK2 hu2 gu (hst'.trans hst2) (hmut'.trans hmut2 hst'.size)
 |exit id=>exact hQ (.exit id) s' E' a' w' hK hu' hs' hst' hmut'
 |ret=>exact hQ .ret s' E' a' w' hK hu' hs' hst' hmut'
theorem AWPl.loopI {xn:Nat} {c:Code} {K:AX->AS->Prop} {ι:Type} (S:ι->AS) (hS:∀i,(S i).us=[]) (μ:ι->Nat) (body:∀i,AWP P rd nt xn c (S i) λ e s'=>match e with
   | .normal=>∃i',s'=S i'∧μ i'<μ i
   |e=>K e s') (i0:ι):AWPl P rd nt xn c (S i0) K:=by
 refine⟨λ F n cx E0 a w0 Q hF hro hn hu hs hQ=>?_⟩;have key:∀m i E a w,μ i<m->SR cx E (S i) a w->StpX cx.xn E0 E w0 w->Mut (S i0) (S i) E0 E w0 w->Code.roundsIn F n P c Q m a w:=by
  intro m
  induction m with
  |zero=>intro i E a w h;omega
  |succ m ih=>
   intro i E a w hm hs hst hmut;rw[roundsIn_succ];refine(body i).run F n cx E a w _ hF hro hn (hS i) hs λ e s' E' a' w' hK hu' hs' hst' hmut'=>?_
   have hst2:=hst.trans hst';have hmut2:=hmut.trans hmut' hst.size
   cases e with
   |normal=>
    obtain⟨i',rfl,hlt⟩:=hK;exact ih i' E' a' w' (by omega) hs' hst2 hmut2
   |exit id=>exact hQ (.exit id) s' E' a' w' hK hu' hs' hst2 hmut2
   |ret=>exact hQ .ret s' E' a' w' hK hu' hs' hst2 hmut2
 exact gQ (μ i0+1) (key _ i0 E0 a w0 (by omega) hs ((Stp.refl E0 w0).x _) (Mut.refl _ _ _))
structure AWPr (P:Program)(rd:Bool)(nt xn:Nat)(c:Code)(m:Nat)(s:AS)(K:AX->AS->Prop):Prop where
 run:∀(F:Fence) (n:Nat) (cx:Cx) (E:Env) (a:Act) (w:World) (Q:Exit->Act->World->Prop),FOK F->((rd=false->F.round=none)∧cx.xn<=xn)->cx.nt=nt->s.us=[]->SR cx E s a w->
  (∀e s' E' a' w',K e s'->s'.us=[]->SR cx E' s' a' w'->StpX cx.xn E E' w w'->Mut s s' E E' w w'->Q e.ex a' w')->Code.roundsIn F n P c Q m a w
theorem AWPr.step {xn m:Nat} {c:Code} {s:AS} {K:AX->AS->Prop} (h:AWP P rd nt xn c s λ e s'=>match e with
  | .normal=>AWPr P rd nt xn c m s' K
  |e=>K e s'):AWPr P rd nt xn c (m+1) s K:=by
 refine⟨λ F n cx E a w Q hF hro hn hu hs hQ=>?_⟩;rw[roundsIn_succ];refine h.run F n cx E a w _ hF hro hn hu hs λ e s' E' a' w' hK hu' hs' hst' hmut'=>?_
 cases e with
 |normal=>exact hK.run F n cx E' a' w' Q hF hro hn hu' hs' λ e s2 E2 a2 w2 hK2 hu2 gu hst2 hmut2=>hQ e s2 E2 a2 w2 hK2 hu2 gu (hst'.trans hst2) (hmut'.trans hmut2 hst'.size)
 |exit id=>exact hQ (.exit id) s' E' a' w' hK hu' hs' hst' hmut'
 |ret=>exact hQ .ret s' E' a' w' hK hu' hs' hst' hmut'
theorem AWPl.rounds {xn m:Nat}{c:Code}{s:AS}{K:AX->AS->Prop}(h:AWPr P rd nt xn c m s K):AWPl P rd nt xn c s K:=
 ⟨λ F n cx E a w Q hF hro hn hu hs hQ=>gQ m (h.run F n cx E a w Q hF hro hn hu hs hQ)⟩
end
end Go.Vx
namespace Go.Vx
open Go.RowKit Go.Bw

def kF:D:=.v (.slice none 0 0)
theorem RD.nil_eq {E:Env}{w:World}{u:Value}(h:RD E w kF u):u= .slice none 0 0:=by
 cases h;rfl
section
variable {P:Program} {rd:Bool} {nt:Nat}

theorem SR.nilN {cx:Cx}{E:Env}{s:AS}{a:Act}{w:World}(h:SR cx E s a w)(hu:s.us=[])(ky:Nat)(elem:TypeId):
  let s':AS:={s with hp:=s.hp.set ky (some (s.nx,.b ⟨[],elem,true⟩)),nx:=s.nx+8}
  SR cx (E.add s' s.nx none) s' a w∧Stp E (E.add s' s.nx none) w w∧(E.add s' s.nx none).nm s.nx∧(E.add s' s.nx none).φ s.nx=none∧Mut s s' E (E.add s' s.nx none) w w:=by
 intro s';have hfr:¬E.nm s.nx:=λ hn=>by
  rcases h.nm _ hn with h1|⟨j,hj,h1,h2⟩
  ·omega
  ·rw[hu]at hj;cases hj
 have hat:∀{k' g' o'},s'.gat k'=some (g',o')->(k'=ky∧g'=s.nx∧o'= .b ⟨[],elem,true⟩)∨(k'≠ky∧s.gat k'=some (g',o')):=λ hk=>by
  rcases WC hk with⟨e,hv⟩|⟨e,hk⟩
  ·cases hv;exact .inl ⟨e,rfl,rfl⟩
  ·exact .inr ⟨e,hk⟩
 have hne:∀{k g' o'},s.gat k=some (g',o')->g'≠s.nx:=λ hk e=>by subst e;exact hfr (h.ob hk).nm
 have hφg:(E.add s' s.nx none).φ s.nx=none:=b8 _ _ _;have hown:∀{x},bR s' (Bu E.φ s.nx none) x->bR s E.φ x:=fun{x} ⟨k,g',o',hk,hx⟩=>by
  rcases hat hk with⟨_,rfl,_⟩|⟨_,hk⟩
  ·rw[b8]at hx;cases hx
  ·rw[bm (hne hk)]at hx;exact⟨k,g',o',hk,hx⟩
 have hs:Stp E (E.add s' s.nx none) w w:=by
  refine⟨λ x hx=>.inl hx,λ x hx=>?_,Vd _,λ b hb ho=>⟨?_,rfl⟩,λ b hb=>rfl⟩
  ·exact bm (λ e=>by subst e;exact hfr hx)
  ·rintro(ho'|ho')
   ·exact ho ho'
   ·exact ho (h.own_of (hown ho'))
 have hold:∀{k g' o'},s'.gat k=some (g',o')->OB (E.add s' s.nx none) w g' o':=fun{k g' o'} hk=>by
  rcases hat hk with⟨rfl,rfl,rfl⟩|⟨_,hk0⟩
  ·refine⟨.inr rfl,?_⟩
   rw[hφg];exact⟨rfl,rfl⟩
  ·exact(h.ob hk0).step hs λ b hb=>⟨.inr ⟨k,g',o',hk,(bm (hne hk0)).trans hb⟩,rfl⟩
 have hmut:Mut s s' E (E.add s' s.nx none) w w:=⟨λ b hb=>.inl hb,λ b hb _=>rfl,λ x hlt' hx=>hown hx⟩
 refine⟨h.turn _ _ rfl hs (λ k g' b hk=>hold (AS.at_iff.1 hk)) (λ k g' r hk=>hold (AS.lat_iff.1 hk)) ?_ (λ x hx=>h.low x (hown hx)) (Fr.refl _ _) ?_ hmut.heap,hs,.inr rfl,hφg,hmut⟩
 ·intro k k' g1 g2 o1 o2 hkk h1 h2 x hx1 hx2
  rcases hat h1 with⟨_,rfl,_⟩|⟨_,a1⟩
  ·rw[b8]at hx1;cases hx1
  ·rcases hat h2 with⟨_,rfl,_⟩|⟨_,a2⟩
   ·rw[b8]at hx2;cases hx2
   ·rw[bm (hne a1)]at hx1
    rw[bm (hne a2)]at hx2;exact h.inj k k' g1 g2 o1 o2 hkk a1 a2 x hx1 hx2
 ·rintro n (hn|rfl)
  ·rcases h.nm n hn with h1|⟨j,hj,h1⟩
   ·exact .inl (VZ h1 (Nat.le_add_right _ _))
   ·rw[hu]at hj;cases hj
  ·exact .inl (Nat.lt_add_of_pos_right (by omega))

theorem SR.slotSim {cx:Cx}{E:Env}{s:AS}{a:Act}{w:World}(h:SR cx E s a w){t:Nat}{d d':D}(ht:s.tm.get t=some d)(hd:∀u,RD E w d u->RD E w d' u):SR cx E {s with tm:=s.tm.set t (some d')} a w:=by
 refine{h with fr:=λ t' x hx=>?_};rcases WC hx with⟨rfl,hv⟩|⟨_,hx⟩
 ·cases hv
  obtain⟨u,hu,hr⟩:=h.fr _ _ ht;exact⟨u,hu,hd u hr⟩
 ·exact h.fr t' x hx
theorem SR.cellSim {cx:Cx}{E:Env}{s:AS}{a:Act}{w:World}(h:SR cx E s a w){k g j:Nat}{b:Blk}{d d':D}(hk:s.at k=some (g,b))(hrow:b.row=false)(hj:b.cells[j]? =some d)(hd:∀u,RD E w d u->RD E w d' u):
  SR cx E {s with hp:=s.hp.set k (some (g,.b ⟨b.cells.set j d',b.elem,b.row⟩))} a w∧Mut s {s with hp:=s.hp.set k (some (g,.b ⟨b.cells.set j d',b.elem,b.row⟩))} E E w w:=by
 have hat:∀{k' g' o'},AS.gat {s with hp:=s.hp.set k (some (g,.b ⟨b.cells.set j d',b.elem,b.row⟩))} k'=some (g',o')->(k'=k∧g'=g∧o'= .b ⟨b.cells.set j d',b.elem,b.row⟩)∨(k'≠k∧s.gat k'=some (g',o')):=λ hk=>by
  rcases WC hk with⟨e,hv⟩|⟨e,hk⟩
  ·cases hv;exact .inl ⟨e,rfl,rfl⟩
  ·exact .inr ⟨e,hk⟩
 have hold:∀{k' g' o'},AS.gat {s with hp:=s.hp.set k (some (g,.b ⟨b.cells.set j d',b.elem,b.row⟩))} k'=some (g',o')->∃o'',s.gat k'=some (g',o''):=λ hh=>by
  rcases hat hh with⟨rfl,rfl,rfl⟩|⟨_,hh⟩
  ·exact⟨_,AS.at_iff.1 hk⟩
  ·exact⟨_,hh⟩
 refine⟨{h with
  hp:=λ k' g' b' hk'=>?_
  lp:=λ k' g' r hk'=>?_
  inj:=λ k1 k2 g1 g2 o1 o2 hkk h1 h2=>?_
  low:=λ x ⟨k',g',o',hk',hx⟩=>?_},⟨λ _ h=>h,λ _ _ _=>rfl,λ x _ ⟨k',g',o',hk',hx⟩=>?_⟩⟩
 ·rcases hat (AS.at_iff.1 hk')with⟨rfl,rfl,e⟩|⟨_,hk0⟩
  ·cases e
   obtain⟨h1,h2⟩:=h.hp _ _ _ hk;refine⟨h1,?_⟩
   cases hp:E.φ g' with
   |none=>rw[hp]at h2;rw[hrow]at h2;cases h2.2
   |some x=>
    rw[hp]at h2;obtain⟨a1,a2,cur,fr,a3,a4,a5,a6,a7⟩:=h2;refine⟨a1,a2,cur,fr,a3,a4,by simpa using a5,λ hr=>by simpa using a6 hr,λ i e he=>?_⟩
    by_cases hij:i=j
    ·subst hij
     have hlt:i<b.cells.length:=(List.getElem?_eq_some_iff.1 hj).1;have:(b.cells.set i d')[i]? =some d':=by simp[hlt]
     rw[this]at he;cases he;obtain⟨u,u1,u2,u3⟩:=a7 i d hj;exact⟨u,u1,u2,hd u u3⟩
    ·exact a7 i e (by rw[<-he];simp[List.getElem?_set,Ne.symm hij])
  ·exact h.hp _ _ _ (AS.at_iff.2 hk0)
 ·rcases hat (AS.lat_iff.1 hk')with⟨rfl,rfl,e⟩|⟨_,hk0⟩
  ·cases e
  ·exact h.lp _ _ _ (AS.lat_iff.2 hk0)
 ·obtain⟨o3,h3⟩:=hold h1
  obtain⟨o4,h4⟩:=hold h2;exact h.inj k1 k2 g1 g2 o3 o4 hkk h3 h4
 ·obtain⟨o3,h3⟩:=hold hk'
  exact h.low x ⟨_,_,_,h3,hx⟩
 ·obtain⟨o3,h3⟩:=hold hk'
  exact⟨_,_,_,h3,hx⟩

theorem SR.obSim {cx:Cx}{E:Env}{s:AS}{a:Act}{w:World}(h:SR cx E s a w){k g:Nat}{o o':Ob}(hk:s.gat k=some (g,o))(ho:OB E w g o'):
  SR cx E {s with hp:=s.hp.set k (some (g,o'))} a w∧Mut s {s with hp:=s.hp.set k (some (g,o'))} E E w w:=by
 have hat:∀{k' g' o''},AS.gat {s with hp:=s.hp.set k (some (g,o'))} k'=some (g',o'')->(k'=k∧g'=g∧o''=o')∨(k'≠k∧s.gat k'=some (g',o'')):=λ hk=>by
  rcases WC hk with⟨e,hv⟩|⟨e,hk⟩
  ·cases hv;exact .inl ⟨e,rfl,rfl⟩
  ·exact .inr ⟨e,hk⟩
 have hold:∀{k' g' o''},AS.gat {s with hp:=s.hp.set k (some (g,o'))} k'=some (g',o'')->∃o3,s.gat k'=some (g',o3):=λ hh=>by
  rcases hat hh with⟨rfl,rfl,rfl⟩|⟨_,hh⟩
  ·exact⟨_,hk⟩
  ·exact⟨_,hh⟩
 have hob:∀{k' g' o''},AS.gat {s with hp:=s.hp.set k (some (g,o'))} k'=some (g',o'')->OB E w g' o'':=λ hh=>by
  rcases hat hh with⟨rfl,rfl,rfl⟩|⟨_,hh⟩
  ·exact ho
  ·exact h.ob hh
 refine⟨{h with
  hp:=λ k' g' b' hk'=>hob (AS.at_iff.1 hk')
  lp:=λ k' g' r hk'=>hob (AS.lat_iff.1 hk')
  inj:=λ k1 k2 g1 g2 o1 o2 hkk h1 h2=>?_
  low:=λ x ⟨k',g',o',hk',hx⟩=>?_},⟨λ _ h=>h,λ _ _ _=>rfl,λ x _ ⟨k',g',o',hk',hx⟩=>?_⟩⟩
 ·obtain⟨o3,h3⟩:=hold h1
  obtain⟨o4,h4⟩:=hold h2;exact h.inj k1 k2 g1 g2 o3 o4 hkk h3 h4
 ·obtain⟨o3,h3⟩:=hold hk'
  exact h.low x ⟨_,_,_,h3,hx⟩
 ·obtain⟨o3,h3⟩:=hold hk'
  exact⟨_,_,_,h3,hx⟩
def pZ (s s':AS):Prop:=∀(cx:Cx) (E:Env) (a:Act) (w:World),SR cx E s a w->s.us=[]->∃E',SR cx E' s' a w∧Stp E E' w w∧Mut s s' E E' w w∧s'.us=[]
theorem pZ.refl (s:AS):pZ s s:=λ _ E _ w h hu=>⟨E,h,Stp.refl E w,Mut.refl s E w,hu⟩
theorem pZ.trans {a b c:AS}(h:pZ a b)(k:pZ b c):pZ a c:=λ cx E x w hs hu=>by
 obtain⟨E1,q1,q2,q3,q4⟩:=h cx E x w hs hu;obtain⟨E2,r1,r2,r3,r4⟩:=k cx E1 x w q1 q4;exact⟨E2,r1,q2.trans r2,q3.trans r3 (Vd _),r4⟩
theorem AWPl.ret {xn:Nat}{c:Code}{s s':AS}{K:AX->AS->Prop}(hr:pZ s s')(h:AWPl P rd nt xn c s' K):AWPl P rd nt xn c s K:=
 ⟨λ F n cx E a w Q hF hro hn hu hs hQ=>by
  obtain⟨E',q1,q2,q3,q4⟩:=hr cx E a w hs hu;exact h.run F n cx E' a w Q hF hro hn q4 q1 λ e s3 E3 a3 w3 hK hu3 tR hst3 hmut3=>hQ e s3 E3 a3 w3 hK hu3 tR ((q2.x _).trans hst3) (q3.trans hmut3 (Vd _))⟩
theorem AWP.cutEndR {xn:Nat}{c:Code}{s:AS}{Q:AX->AS->Prop}(h:AWP P rd nt xn c s λ e s'=>∃(s2:AS) (d:CutS),pZ s' s2∧CutE s2 xn d∧Q e d.st):AWP P rd nt xn c s Q:=
 ⟨λ F n cx E a w Q' hF hro hn hu hs hQ=>h.run F n cx E a w Q' hF hro hn hu hs λ e s' E' a' w' ⟨s2,d,hr,hd,hK⟩ hu' hs' hst hmut=>by
  obtain⟨E1,r1,r2,r3,r4⟩:=hr cx E' a' w' hs' hu';obtain⟨E2,q1,q2,q3⟩:=r1.cut (hd.le hro.2);exact hQ e d.st E2 a' w' hK rfl q1 ((hst.trans (r2.x _)).trans q2) ((hmut.trans r3 hst.size).trans q3 hst.size)⟩
def nilS (s:AS)(t k sz:Nat)(elem:TypeId):AS:={tm:=s.tm.set t (some (.ref k s.nx 0 0 sz)),hp:=s.hp.set k (some (s.nx,.b ⟨[],elem,true⟩)),nx:=s.nx+8,us:=s.us}
theorem pZ.nilS {s:AS}{t k sz:Nat}{elem:TypeId}(ht:s.tm.get t=some kF):pZ s (nilS s t k sz elem):=λ cx E a w h hu=>by
 obtain⟨q1,q2,q3,q4,q5⟩:=h.nilN hu k elem;refine⟨_,q1.slotSim (t:=t) (d:=kF) (d':= .ref k s.nx 0 0 sz) ht λ u hr=>?_,q2,⟨q5.own,q5.heap,q5.old⟩,hu⟩;rw[hr.nil_eq];exact .refn k s.nx sz q3 q4
def recS (s:AS)(k g:Nat)(r:LRec)(t:Nat)(d:D):AS:={s with hp:=s.hp.set k (some (g,.l {r with tm:=r.tm.set t (some d)}))}
theorem pZ.recS {s:AS}{k g t:Nat}{r:LRec}{d:D}(hk:s.lat k=some (g,r))(ht:r.tm.get t=some d):pZ s (recS s k g r t d):=λ cx E a w h hu=>by
 obtain⟨c1,b,L,c2,c3,c4,c5,c6,c7,c8,c9,c10,c11,c12⟩:=h.lp _ _ _ hk;obtain⟨r1,r2⟩:=h.obSim (o':= .l {r with tm:=r.tm.set t (some d)}) (AS.lat_iff.1 hk) ⟨c1,b,L,c2,c3,c4,c5,c6,c7,c8,c9,c10,c11,λ t' x hx=>by
  rcases WC hx with⟨rfl,hv⟩|⟨_,hx⟩
  ·cases hv;exact c12 _ _ ht
  ·exact c12 t' x hx⟩
 exact⟨E,r1,Stp.refl E w,r2,hu⟩
def nilC (s:AS)(k0 g0:Nat)(b:Blk)(j k sz:Nat)(elem:TypeId):AS:={tm:=s.tm,hp:=(s.hp.set k (some (s.nx,.b ⟨[],elem,true⟩))).set k0 (some (g0,.b ⟨b.cells.set j (.ref k s.nx 0 0 sz),b.elem,b.row⟩)),nx:=s.nx+8,us:=s.us}
theorem pZ.nilC {s:AS}{k0 g0 j k sz:Nat}{b:Blk}{elem:TypeId}(hk:s.at k0=some (g0,b))(hne:k0≠k)(hok:Zq k=true)(hrow:b.row=false)(hj:b.cells[j]? =some kF):pZ s (nilC s k0 g0 b j k sz elem):=λ cx E a w h hu=>by
 obtain⟨q1,q2,q3,q4,q5⟩:=h.nilN hu k elem;have hk':AS.at {s with hp:=s.hp.set k (some (s.nx,.b ⟨[],elem,true⟩)),nx:=s.nx+8} k0=some (g0,b):=by
  refine AS.at_iff.2 ?_;show(s.hp.set k _).get k0=_;rw[X6 _ _ _ hok,ZE hne];exact AS.at_iff.1 hk
 obtain⟨r1,r2⟩:=q1.cellSim (d':= .ref k s.nx 0 0 sz) hk' hrow hj λ u hr=>by rw[hr.nil_eq];exact .refn k s.nx sz q3 q4
 exact⟨_,r1,q2,q5.trans r2 (Vd _),hu⟩
end
end Go.Vx
namespace Go.Vx
open Go.RowKit Go.Bw

structure Endl where
 κ:Type
 e:AX
 S:κ->CutS
def gf:List Endl->Nat->Endl
 |[],_=>⟨Empty,.normal,λ x=>nomatch x⟩
 |e::_,0=>e
 |_::r,n+1=>gf r n
def uz:(es:List Endl)->((i:Nat)->(gf es i).κ->Prop)->Prop
 |[],_=>True
 |e::r,F=>(∀x:e.κ,F 0 x)∧uz r (λ i x=>F (i+1) x)
def uA:List Endl->AX->AS->Prop
 |[],_,_=>False
 |e::r,a,s=>(∃x:e.κ,a=e.e∧s=(e.S x).st)∨uA r a s
theorem uB:∀{es:List Endl} {F:(i:Nat)->(gf es i).κ->Prop} {G:AX->AS->Prop},uz es F->(∀i x,F i x->G (gf es i).e ((gf es i).S x).st)->∀{a s},uA es a s->G a s
 |[],_,_,_,_,_,_,h=>h.elim
 |e::r,F,G,hv,hG,a,s,h=>by
  rcases h with⟨x,rfl,rfl⟩|h
  ·exact hG 0 x (hv.1 x)
  ·exact uB (es:=r) (F:=λ i x=>F (i+1) x) hv.2 (λ i x hF=>hG (i+1) x hF) h
theorem uC:∀(es:List Endl) (n:Nat) (x:(gf es n).κ),uA es (gf es n).e ((gf es n).S x).st
 |[],_,x=>nomatch x
 |_::_,0,x=>.inl ⟨x,rfl,rfl⟩
 |_::r,n+1,x=>.inr (uC r n x)
inductive Hn (P:Program):Type 1 where
 |nil
 |s (n:Nat) (h:Hn P)
 |chk (b:Bool) (p:b=true) (h:Hn P)
 |t (b:Bool) (p:b=true) (h:Hn P)
 |f (b:Bool) (p:b=false) (h:Hn P)
 |br (b:Bool) (ht:b=true->Hn P) (hf:b=false->Hn P)
 |opt (o:Option D) (d:D) (p:o=some d) (h:Hn P)
 |byt (cs:List D) (bs:Z1) (p:cs=bs.map dB) (h:Hn P)
 |lst (cs cs':List D) (p:cs=cs') (h:Hn P)
 |abs (p:False)
 |val (t:Nat) (d d':D) (p:d=d') (h:Hn P)
 |blk (k g:Nat) (b b':Blk) (p:b=b') (h:Hn P)
 |em (b:Bool) (ht:b=true->Hn P) (hf:b=false->Hn P)
 |nils (t k sz:Nat) (elem:TypeId) (h:Hn P)
 |nilc (k0 g0:Nat) (b:Blk) (j k sz:Nat) (elem:TypeId) (h:Hn P)
 |recv (k t:Nat) (d d':D) (p:d=d') (h:Hn P)
 |call (f:FuncId) (al:Bool) (fp:List Nat) (b1:Bool) (p1:b1=true) (q q0:List D) (hq:cQ q q0) (b2:Bool) (p2:b2=true) (hin:List Blk) (r:D) (bs:List Blk) (hs:CallOk al P f q0 hin r bs) (h:Hn P)
 |loop1 (rd:Bool) (nt xn:Nat) (c:Code) (d:CutS) (rows:iK d) (e1:AX) (s1:AS) (hl:AWPl P rd nt xn c d.st λ e s=>e=e1∧s=s1) (h:Hn P)
 |loop2 (rd:Bool) (nt xn:Nat) (c:Code) (d:CutS) (rows:iK d) (e1:AX) (s1:AS) (e2:AX) (s2:AS) (hl:AWPl P rd nt xn c d.st λ e s=>(e=e1∧s=s1)∨(e=e2∧s=s2)) (h1 h2:Hn P)
 |loopE (rd:Bool) (nt xn:Nat) (c:Code) (d:CutS) (rows:iK d) (es:List Endl) (hl:AWPl P rd nt xn c d.st (uA es)) (hs:(i:Nat)->(gf es i).κ->Hn P)
 |cut (e:AX) (d:CutS) (rows:iK d) (Q:AX->AS->Prop) (p:Q e d.st)
 |out (ks gs:List Nat) (r:D) (bs:List Blk) (R:D->List Blk->Prop) (p:R r bs)
 |two (h1 h2:Hn P)
 |stab (l:List (Option D)) (h:Hn P)

inductive Need {α:Type _} (what:Nat) (x:α):Prop
def jc (b:Bool)(X:Prop):Prop:=match b with
 |true=>X
 |false=>False
def qQ (b:Bool)(X Y:Prop):Prop:=match b with
 |true=>X
 |false=>Y
theorem bS {b:Bool}{X:Prop}:jc b X↔b=true∧X:=by cases b<;>simp[jc]
theorem fc {b:Bool}{X Y:Prop}:qQ b X Y↔(b=true->X)∧(b=false->Y):=by cases b<;>simp[qQ]
def wx (n:Nat)(K:Nat->Prop):Prop:=match n with
 |0=>K 0
 |m+1=>K (m+1)
theorem oW {n:Nat}{K:Nat->Prop}:wx n K↔K n:=by cases n<;>exact Iff.rfl

section
variable {P:Program}
def Hn.isAbs (h:Hn P):Bool:=match h with
 | .abs _=>true
 |_=>false
theorem Hn.isAbs_no {h:Hn P}:h.isAbs=false:=by
 cases h<;>first|rfl|(rename_i p;exact p.elim)
def Hn.go (h:Hn P)(lit use:Hn P->Prop):Prop:=match h with
 | .s 0 h'=>use h'
 | .s (n+1) h'=>lit (.s n h')
 |h'=>use h'
def Hn.absOr (h:Hn P)(X:Prop):Prop:=match h with
 | .abs _=>True
 |_=>X
theorem Hn.absOr_elim {h:Hn P}{X:Prop}(hv:h.absOr X):X:=by
 unfold Hn.absOr at hv
 split at hv
 ·rename_i p;exact p.elim
 ·exact hv
def Hn.fork (h:Hn P)(no:Prop)(yes:Hn P->Hn P->Prop):Prop:=match h with
 | .two a b=>yes a b
 | .s 0 (.two a b)=>yes a b
 |_=>no
theorem Hn.fork_elim {h:Hn P}{no X:Prop}{yes:Hn P->Hn P->Prop}(hv:h.fork no yes)(h1:no->X)(h2:∀a b,yes a b->X):X:=by
 unfold Hn.fork at hv
 split at hv
 ·exact h2 _ _ hv
 ·exact h2 _ _ hv
 ·exact h1 hv
theorem Hn.go_elim {h:Hn P}{lit use:Hn P->Prop}{X:Prop}(hv:h.go lit use)(h1:∀h',lit h'->X)(h2:∀h',use h'->X):X:=by
 unfold Hn.go at hv
 split at hv
 ·exact h2 _ hv
 ·exact h1 _ hv
 ·exact h2 _ hv

def Hn.goL (h:Hn P)(lit use:Hn P->Prop):Prop:=match h with
 | .s 0 h'=>use h'
 | .s (n+1) h'=>bif Xl 1000000000 n then use (.s (n+1) h')else lit (.s n h')
 |h'=>use h'
theorem Hn.goL_elim {h:Hn P}{lit use:Hn P->Prop}{X:Prop}(hv:h.goL lit use)(h1:∀h',lit h'->X)(h2:∀h',use h'->X):X:=by
 unfold Hn.goL at hv
 split at hv
 ·exact h2 _ hv
 ·rename_i n h'
  cases hb:Xl 1000000000 n with
  |true=>rw[hb]at hv;exact h2 _ hv
  |false=>rw[hb]at hv;exact h1 _ hv
 ·exact h2 _ hv

def RF:List D->Option (Z1)
 |[]=>some []
 | .v (.int .u8 (.ofNat m))::r=>bif Xl m 256 then(match RF r with
  |some l=>some (V6 m::l)
  |none=>none)else none
 |_=>none
theorem BU:∀{cs:List D} {bs:Z1},RF cs=some bs->cs=bs.map dB
 |[],bs,h=>by cases h;rfl
 |d::r,bs,h=>by
  unfold RF at h
  split at h
  ·rename_i heq;cases heq
  ·rename_i m r' heq
   cases heq
   cases hb:Xl m 256 with
   |false=>rw[hb]at h;cases h
   |true=>
    rw[hb,cond_true]at h
    split at h
    ·rename_i l hl
     cases h
     have hm:m<256:=Vf hb;rw[WM,<-BU hl]
     congr 1
     unfold dB;have:(V6 m).toNat=m:=by simp[WQ,Wq hm]
     rw[this];rfl
    ·cases h
  ·cases h

theorem Ev.vc_mono:∀{e:Ev} {K K':Option D->Up->Prop},e.vc K->(∀v up,K v up->K' v up)->e.vc K'
 | .ok v up,_,_,h,hk=>hk v up h
 | .cond b k,_,_,h,hk=>bF.2 ⟨(bF.1 h).1,Ev.vc_mono (bF.1 h).2 hk⟩
 | .opt o k,_,_,h,hk=>by
  obtain⟨d,hd,h⟩:=aP.1 h;exact aP.2 ⟨d,hd,Ev.vc_mono h hk⟩
 | .list cs k,_,_,h,hk=>Ev.vc_mono (e:=k cs) h hk
 | .bytes cs k,_,_,h,hk=>by
  obtain⟨bs,hb,h⟩:=h.h;exact⟨bs,hb,Ev.vc_mono h hk⟩
 | .stuck,_,_,h,_=>h
theorem j8 {T:TT}{s:AS}{nm ky:Nat}{o:Oper}{K K':Option D->Up->Prop}(h:dX P T s nm ky o K)(hk:∀v up,K v up->K' v up):dX P T s nm ky o K':=by
 unfold dX at h ⊢
 cases hc:ew s o with
 |some p=>
  rw[hc]at h;obtain⟨al,fp,q,hin,r,bs,h1,h2,h4,h5,h6⟩:=h.h;exact⟨al,fp,q,hin,r,bs,h1,h2,h4,h5,hk _ _ h6⟩
 |none=>rw[hc]at h;exact Ev.vc_mono h hk

def NB {α:Type}(l:List α)(X:Prop):Prop:=match l with
 |[]=>X
 |_::_=>X
theorem BV {α:Type}{l:List α}{X:Prop}:NB l X↔X:=by cases l<;>exact Iff.rfl
def uE:Ev->Hn P->(Option D->Up->Hn P->Prop)->Prop
 | .ok v up,h,K=>K v up h
 | .cond b k,h,K=>h.go (λ h'=>jc b (uE k h' K)) λ h'=>match h' with
  | .chk b' _ h2=>b=b'∧uE k h2 K
  |_=>Need 1 b
 | .opt o k,h,K=>h.go (λ h'=>kq o λ d=>uE (k d) h' K) λ h'=>match h' with
  | .opt o' d _ h2=>o=o'∧uE (k d) h2 K
  |_=>Need 2 o
 | .list cs k,h,K=>h.go (λ h'=>NB cs (uE (k cs) h' K)) λ h'=>match h' with
  | .lst cs0 cs' _ h2=>cs=cs0∧uE (k cs') h2 K
  |_=>Need 14 cs
 | .bytes cs k,h,K=>h.go (λ h'=>kq (RF cs) λ bs=>uE (k bs) h' K) λ h'=>match h' with
  | .byt cs' bs _ h2=>cs=cs'∧uE (k bs) h2 K
  |_=>Need 3 cs
 | .stuck,_,_=>Need 0 ()
theorem fG:∀{e:Ev} {h:Hn P} {K:Option D->Up->Hn P->Prop},uE e h K->e.vc λ v up=>∃h',K v up h'
 | .ok v up,h,K,hv=>⟨h,hv⟩
 | .cond b k,h,K,hv=>by
  unfold uE at hv;refine Hn.go_elim hv (λ h' hv=>?_) λ h' hv=>?_
  ·obtain⟨hb,hv⟩:=bS.1 hv;exact bF.2 ⟨hb,fG hv⟩
  ·split at hv
   ·rename_i b' p h2;exact bF.2 ⟨hv.1.trans p,fG hv.2⟩
   ·cases hv
 | .opt o k,h,K,hv=>by
  unfold uE at hv;refine Hn.go_elim hv (λ h' hv=>?_) λ h' hv=>?_
  ·obtain⟨d,hd,hv⟩:=aP.1 hv;exact aP.2 ⟨d,hd,fG hv⟩
  ·split at hv
   ·rename_i o' d p h2;exact aP.2 ⟨d,hv.1.trans p,fG hv.2⟩
   ·cases hv
 | .list cs k,h,K,hv=>by
  unfold uE at hv;show(k cs).vc _;refine Hn.go_elim hv (λ h' hv=>fG (BV.1 hv)) λ h' hv=>?_
  split at hv
  ·rename_i cs0 cs' p h2
   obtain⟨e,hv⟩:=hv;have e2:cs=cs':=e.trans p;rw[e2];exact fG hv
  ·cases hv
 | .bytes cs k,h,K,hv=>by
  unfold uE at hv;refine Hn.go_elim hv (λ h' hv=>?_) λ h' hv=>?_
  ·obtain⟨bs,hb,hv⟩:=aP.1 hv;exact⟨bs,BU hb,fG hv⟩
  ·split at hv
   ·rename_i cs' bs p h2;exact⟨bs,hv.1.trans p,fG hv.2⟩
   ·cases hv
 | .stuck,_,_,hv=>by cases hv

def AD:Hn P->AS->(AS->Hn P->Prop)->Prop
 | .val t d d' _ h,s,K=>s.tm.get t=some d∧AD h {s with tm:=s.tm.set t (some d')} K
 | .blk k g b b' _ h,s,K=>s.at k=some (g,b)∧AD h {s with hp:=s.hp.set k (some (g,.b b'))} K
 | .abs _,_,_=>True
 |h,s,K=>K s h
def Kl (h:Hn P)(s:AS)(K:AS->Hn P->Prop):Prop:=h.go (λ h'=>K s h') λ h'=>AD h' s K

def AE:Hn P->AS->(AS->Hn P->Prop)->Prop
 | .nils t k sz elem h,s,K=>s.tm.get t=some kF∧AE h (nilS s t k sz elem) K
 | .nilc k0 g0 b j k sz elem h,s,K=>s.at k0=some (g0,b)∧b.cells[j]? =some kF∧jc (!U5 k0 k&&Zq k&& !b.row) (AE h (nilC s k0 g0 b j k sz elem) K)
 | .recv k t d d' _ h,s,K=>kq (s.lat k) λ q=>q.2.tm.get t=some d∧AE h (recS s k q.1 q.2 t d') K
 |h,s,K=>AD h s K
structure SubAS (s2 s:AS):Prop where
 tm:∀t d,s2.tm.get t=some d->s.tm.get t=some d
 hp:∀k x,s2.gat k=some x->s.gat k=some x
 us:s2.us=s.us
def BW (s:AS)(ds:List D)(f:FuncId)(nm ky:Nat):Hn P->(Option D->Up->Hn P->Prop)->Prop
 | .em _ ht hf,K=>(∀p,BW s ds f nm ky (ht p) K)∧∀p,BW s ds f nm ky (hf p) K
 | .call f' al fp b1 _ q _ _ b2 _ hin r bs _ h2,K=>f=f'∧ko s al fp ds=some (b1,q)∧kE s fp fp=some (b2,hin)∧jc (gc fp&&U7 bs.length (fp.length+8)) (K (some (rV (hJ fp ky) (gO s fp nm) bs r)) (iB (hJ fp ky) (gO s fp nm) 0 bs) h2)
 | .abs _,_=>True
 |_,_=>Need 4 (s,f,ds)
theorem iM {s:AS}{ds:List D}{f:FuncId}{nm ky:Nat}{K:Option D->Up->Hn P->Prop}:∀{h:Hn P},BW s ds f nm ky h K->callP P s ds f nm ky λ v up=>∃h',K v up h'
 | .em b ht hf,hv=>by
  obtain⟨h1,h2⟩:=hv
  cases hb:b with
  |true=>exact iM (h1 hb)
  |false=>exact iM (h2 hb)
 | .call f' al fp b1 p1 q q0 hq b2 p2 hin r bs hs h2,hv=>by
  subst p1 p2;obtain⟨rfl,h3,h4,h5⟩:=hv;obtain⟨h5,h6⟩:=bS.1 h5;exact R9 fp hs h3 h4 hq h5 ⟨h2,h6⟩
 | .nil,hv=>by cases hv
 | .s ..,hv=>by cases hv
 | .chk ..,hv=>by cases hv
 | .t ..,hv=>by cases hv
 | .f ..,hv=>by cases hv
 | .br ..,hv=>by cases hv
 | .opt ..,hv=>by cases hv
 | .byt ..,hv=>by cases hv
 | .val ..,hv=>by cases hv
 | .blk ..,hv=>by cases hv
 | .nils ..,hv=>by cases hv
 | .nilc ..,hv=>by cases hv
 | .recv ..,hv=>by cases hv
 | .loop1 ..,hv=>by cases hv
 | .loop2 ..,hv=>by cases hv
 | .loopE ..,hv=>by cases hv
 | .cut ..,hv=>by cases hv
 | .out ..,hv=>by cases hv
 | .lst ..,hv=>by cases hv
 | .two ..,hv=>by cases hv
 | .stab ..,hv=>by cases hv
 | .abs p,_=>p.elim

def AF (T:TT)(s:AS)(nm ky:Nat)(o:Oper)(h:Hn P)(K:Option D->Up->Hn P->Prop):Prop:=
 match ew s o with
 |some p=>h.go (λ h'=>Need 5 h') λ h'=>BW s p.2 p.1 nm ky h' K
 |none=>uE (ev T s nm ky o) h K
theorem wy {T:TT}{s:AS}{nm ky:Nat}{o:Oper}{h:Hn P}{K:Option D->Up->Hn P->Prop}(hv:AF T s nm ky o h K):dX P T s nm ky o λ v up=>∃h',K v up h':=by
 unfold AF at hv;unfold dX
 cases hc:ew s o with
 |some p=>rw[hc]at hv;exact Hn.go_elim hv (λ h' hv=>by cases hv) λ h' hv=>iM hv
 |none=>rw[hc]at hv;exact fG hv

def xD (T:TT)(nt kb:Nat)(all:List Oper)(pr:List (List Nat)):Nat->List Oper->AS->List Rec->Hn P->(AS->Hn P->Prop)->Prop
 |_,[],s,log,h,K=>qQ (wu pr 0 log.reverse&&log.all dA) (K s h) (h.go (λ h'=>Need 40 (HD pr 0 log.reverse,h')) λ h'=>match h' with
  | .stab l h2=>jc (wv pr 0 log.reverse&&log.all dA) (HD pr 0 log.reverse=l.map (λ c=>(c,c))∧K s h2)
  |_=>Need 41 (HD pr 0 log.reverse,wv pr 0 log.reverse))
 |i,o::r,s,log,h,K=>jc (jn nt o) (h.go (λ h'=>xDo T nt kb all pr i o r s log h' K (xD T nt kb all pr (i+1) r)) λ h'=>h'.absOr (xDo T nt kb all pr i o r s log h' K (xD T nt kb all pr (i+1) r)))
where xDo (T:TT) (nt kb:Nat) (all:List Oper) (pr:List (List Nat)) (i:Nat) (o:Oper) (r:List Oper) (s:AS) (log:List Rec) (h:Hn P) (K:AS->Hn P->Prop) (next:AS->List Rec->Hn P->(AS->Hn P->Prop)->Prop):Prop:=
 match o.guard with
 |none=>AF T (eD s o) (s.nx+8*i) (s.nx+8*i) o h λ v up h'=>next (s.eff i (qK T s o v up)) (qK T s o v up::log) h' K
 |some jw=>match(all[jw.1]?).bind (·.dst)with
  |some t=>match s.tm.get t with
   |some (.v (.bool b))=>
    let run (c:Bool) (h:Hn P):Prop:=AF T (eD s o) (s.nx+8*i) (s.nx+8*i) o h λ v up h'=>next (AS.eff {s with tm:=s.tm.set t (some (.v (.bool c)))} i (dT T s t o v up)) (dT T s t o v up::log) h' K
    let skip (c:Bool) (h:Hn P):Prop:=next (AS.eff {s with tm:=s.tm.set t (some (.v (.bool c)))} i ⟨[t],[],o.dst,some (.tup []),[],none⟩) (⟨[t],[],o.dst,some (.tup []),[],none⟩::log) h K
    h.go (λ h'=>qQ b (bif jw.2 then run true h' else skip true h') (bif jw.2 then skip false h' else run false h')) λ h'=>match h' with
     | .t b' _ h2=>b=b'∧bif jw.2 then run true h2 else skip true h2
     | .f b' _ h2=>b=b'∧bif jw.2 then skip false h2 else run false h2
     | .br b' ht hf=>b=b'∧(∀p,bif jw.2 then run true (ht p)else skip true (ht p))∧∀p,bif jw.2 then skip false (hf p)else run false (hf p)
     |_=>Need 6 b
   |some (.tup [])=>next (AS.eff s i ⟨[t],[],o.dst,some (.tup []),[],none⟩) (⟨[t],[],o.dst,some (.tup []),[],none⟩::log) h K
   |_=>Need 7 t
  |none=>False

theorem jt {T:TT}{nt kb:Nat}{all:List Oper}{pr:List (List Nat)}{K:AS->Hn P->Prop}:∀(l:List Oper) (i:Nat) (s:AS) (log:List Rec) (h:Hn P),xD T nt kb all pr i l s log h K->nu P T nt kb all pr i l s log λ s'=>∃h',K s' h'
 |[],i,s,log,h,hv=>by
  obtain⟨h1,h2⟩:=fc.1 hv
  cases hc:(wu pr 0 log.reverse&&log.all dA)with
  |true=>exact⟨.of hc,h,h1 hc⟩
  |false=>
   refine Hn.go_elim (h2 hc) (λ h' hv=>by cases hv) λ h' hv=>?_
   split at hv
   ·obtain⟨h3,h4,h5⟩:=bS.1 hv
    refine⟨.rx h3 λ p hp=>?_,_,h5⟩;rw[h4]at hp;obtain⟨c,_,rfl⟩:=List.mem_map.1 hp;rfl
   ·cases hv
 |o::r,i,s,log,h,hv=>by
  obtain⟨hd,hv⟩:=bS.1 hv;refine bF.2 ⟨hd,?_⟩;have key:∀h',xD.xDo T nt kb all pr i o r s log h' K (xD T nt kb all pr (i+1) r)->(match o.guard with
   |none=>dX P T (eD s o) (s.nx+8*i) (s.nx+8*i) o λ v up=>nu P T nt kb all pr (i+1) r (s.eff i (qK T s o v up)) (qK T s o v up::log) λ s'=>∃h',K s' h'
   |some jw=>match(all[jw.1]?).bind (·.dst)with
    |some t=>match s.tm.get t with
     |some (.v (.bool b))=>Nt b
      (bif jw.2 then dX P T (eD s o) (s.nx+8*i) (s.nx+8*i) o λ v up=>nu P T nt kb all pr (i+1) r (AS.eff {s with tm:=s.tm.set t (some (.v (.bool true)))} i (dT T s t o v up)) (dT T s t o v up::log) λ s'=>∃h',K s' h'
       else nu P T nt kb all pr (i+1) r (AS.eff {s with tm:=s.tm.set t (some (.v (.bool true)))} i ⟨[t],[],o.dst,some (.tup []),[],none⟩) (⟨[t],[],o.dst,some (.tup []),[],none⟩::log) λ s'=>∃h',K s' h')
      (bif jw.2 then nu P T nt kb all pr (i+1) r (AS.eff {s with tm:=s.tm.set t (some (.v (.bool false)))} i ⟨[t],[],o.dst,some (.tup []),[],none⟩) (⟨[t],[],o.dst,some (.tup []),[],none⟩::log) (λ s'=>∃h',K s' h')
       else dX P T (eD s o) (s.nx+8*i) (s.nx+8*i) o λ v up=>nu P T nt kb all pr (i+1) r (AS.eff {s with tm:=s.tm.set t (some (.v (.bool false)))} i (dT T s t o v up)) (dT T s t o v up::log) λ s'=>∃h',K s' h')
     |some (.tup [])=>nu P T nt kb all pr (i+1) r (s.eff i ⟨[t],[],o.dst,some (.tup []),[],none⟩) (⟨[t],[],o.dst,some (.tup []),[],none⟩::log) λ s'=>∃h',K s' h'
     |_=>False
    |none=>False):=by
   intro h' hv;have opm:∀{S:AS} {nm ky:Nat} {h1:Hn P} {F:Option D->Up->Hn P->Prop} {G:Option D->Up->Prop},AF T S nm ky o h1 F->(∀v up h2,F v up h2->G v up)->dX P T S nm ky o G:=λ hx hm=>j8 (wy hx) λ v up ⟨h2,hF⟩=>hm v up h2 hF
   unfold xD.xDo at hv
   cases hg:o.guard with
   |none=>
    rw[hg]at hv;exact opm hv λ v up h2 hF=>jt r (i+1) _ _ h2 hF
   |some jw=>
    rw[hg]at hv;dsimp only at hv ⊢
    cases ht:(all[jw.1]?).bind (·.dst)with
    |none=>rw[ht]at hv;exact hv.elim
    |some t=>
     rw[ht]at hv;dsimp only at hv ⊢
     split at hv
     case h_3=>cases hv
     case h_2 hb=>exact jt r (i+1) _ _ h' hv
     case h_1 b hb=>
     have run:∀(c:Bool) (h:Hn P),AF T (eD s o) (s.nx+8*i) (s.nx+8*i) o h (λ v up h'=>xD T nt kb all pr (i+1) r (AS.eff {s with tm:=s.tm.set t (some (.v (.bool c)))} i (dT T s t o v up)) (dT T s t o v up::log) h' K)->dX P T (eD s o) (s.nx+8*i) (s.nx+8*i) o λ v up=>nu P T nt kb all pr (i+1) r (AS.eff {s with tm:=s.tm.set t (some (.v (.bool c)))} i (dT T s t o v up)) (dT T s t o v up::log) λ s'=>∃h',K s' h':=λ c h hx=>opm hx λ v up h2 hF=>jt r (i+1) _ _ h2 hF
     have skip:∀(c:Bool) (h:Hn P),xD T nt kb all pr (i+1) r (AS.eff {s with tm:=s.tm.set t (some (.v (.bool c)))} i ⟨[t],[],o.dst,some (.tup []),[],none⟩) (⟨[t],[],o.dst,some (.tup []),[],none⟩::log) h K->nu P T nt kb all pr (i+1) r (AS.eff {s with tm:=s.tm.set t (some (.v (.bool c)))} i ⟨[t],[],o.dst,some (.tup []),[],none⟩) (⟨[t],[],o.dst,some (.tup []),[],none⟩::log) λ s'=>∃h',K s' h':=λ c h hx=>jt r (i+1) _ _ h hx
     obtain⟨j,want⟩:=jw;refine iC.2 ⟨λ hbt=>?_,λ hbf=>?_⟩
     ·subst hbt
      refine Hn.go_elim hv (λ h1 hv=>?_) λ h1 hv=>?_
      ·have hv:=(fc.1 hv).1 rfl
       cases want with
       |true=>exact run true h1 hv
       |false=>exact skip true h1 hv
      ·split at hv
       ·obtain⟨_,hv⟩:=hv
        cases want with
        |true=>exact run true _ hv
        |false=>exact skip true _ hv
       ·rename_i b' p h2
        obtain⟨e,_⟩:=hv;rw[p]at e;cases e
       ·rename_i b' ht hf
        obtain⟨e,hv,_⟩:=hv;have hv:=hv e.symm
        cases want with
        |true=>exact run true _ hv
        |false=>exact skip true _ hv
       ·cases hv
     ·subst hbf
      refine Hn.go_elim hv (λ h1 hv=>?_) λ h1 hv=>?_
      ·have hv:=(fc.1 hv).2 rfl
       cases want with
       |true=>exact skip false h1 hv
       |false=>exact run false h1 hv
      ·split at hv
       ·rename_i b' p h2
        obtain⟨e,_⟩:=hv;rw[p]at e;cases e
       ·obtain⟨_,hv⟩:=hv
        cases want with
        |true=>exact skip false _ hv
        |false=>exact run false _ hv
       ·rename_i b' ht hf
        obtain⟨e,_,hv⟩:=hv;have hv:=hv e.symm
        cases want with
        |true=>exact skip false _ hv
        |false=>exact run false _ hv
       ·cases hv
  exact Hn.go_elim hv (λ h' hv=>key h' hv) λ h' hv=>key h' (Hn.absOr_elim hv)

theorem gg {T:TT}{nt kb:Nat}{all:List Oper}{pr:List (List Nat)}{K K':AS->Prop}:∀(l:List Oper) (i:Nat) (s:AS) (log:List Rec),nu P T nt kb all pr i l s log K->(∀s,K s->K' s)->nu P T nt kb all pr i l s log K'
 |[],i,s,log,hv,hk=>⟨hv.1,hk _ hv.2⟩
 |o::r,i,s,log,hv,hk=>by
  obtain⟨hd,hv⟩:=bF.1 hv;refine bF.2 ⟨hd,?_⟩
  cases hg:o.guard with
  |none=>rw[hg]at hv;exact j8 hv λ v up h=>gg r (i+1) _ _ h hk
  |some jw=>
   rw[hg]at hv;dsimp only at hv ⊢
   cases ht:(all[jw.1]?).bind (·.dst)with
   |none=>rw[ht]at hv;exact hv.elim
   |some t=>
    rw[ht]at hv;dsimp only at hv ⊢
    split at hv
    case h_3=>exact hv.elim
    case h_2 hb=>exact gg r (i+1) _ _ hv hk
    case h_1 b hb=>
    obtain⟨h1,h2⟩:=iC.1 hv;obtain⟨j,want⟩:=jw;refine iC.2 ⟨λ e=>?_,λ e=>?_⟩
    ·have h1:=h1 e
     cases want with
     |true=>exact j8 h1 λ v up h=>gg r (i+1) _ _ h hk
     |false=>exact gg r (i+1) _ _ h1 hk
    ·have h2:=h2 e
     cases want with
     |true=>exact gg r (i+1) _ _ h2 hk
     |false=>exact j8 h2 λ v up h=>gg r (i+1) _ _ h hk
end
end Go.Vx
namespace Go.Vx
open Go.RowKit Go.Bw

section
variable {P:Program}

abbrev XC (P:Program):=Bool->Nat->Nat->Nat->Code->AS->Hn P->(AX->AS->Hn P->Prop)->Prop
def BX (R:XC P):Prop:=∀rd nt xn kb c s h K,R rd nt xn kb c s h K->AWP P rd nt xn c s λ e s'=>∃h',K e s' h'
def BY:AX->Bool
 | .exit _=>false
 |_=>true
theorem mv {e:AX}(h:BY e=true):e= .normal∨e= .ret:=by cases e<;>first|exact .inl rfl|exact .inr rfl|cases h
def BZ (T:TT)(s:AS):List ResultVar->Hn P->(List D->Hn P->Prop)->Prop
 |[],h,K=>K [] h
 | .tmp t::r,h,K=>kq (s.tm.get t) λ d=>BZ T s r h λ l=>K (d::l)
 | .cell t ty::r,h,K=>uE (iv T s ty (.tmp t)) h λ v _ h'=>kq v λ d=>BZ T s r h' λ l=>K (d::l)
theorem ll {T:TT}{s:AS}:∀{rs:List ResultVar} {h:Hn P} {K:List D->Hn P->Prop},BZ T s rs h K->jo T s rs λ l=>∃h',K l h'
 |[],h,_,hv=>⟨h,hv⟩
 | .tmp t::r,_,_,hv=>by
  obtain⟨d,hd,hv⟩:=aP.1 hv;exact aP.2 ⟨d,hd,ll hv⟩
 | .cell t ty::r,_,_,hv=>Ev.vc_mono (fG hv) λ v _ ⟨h',hv⟩=>by
  obtain⟨d,hd,hv⟩:=aP.1 hv;exact aP.2 ⟨d,hd,ll hv⟩
def Ue (T:TT)(R:XC P)(f:FuncId)(ds:List D)(xn nx kb:Nat)(hp:Tr (Nat×Ob))(h:Hn P)(K:List D->AS->Hn P->Prop):Prop:=
 kq P.funcs[f]? λ fn=>kq fn.body λ c=>jc (!(fn.name== "runtime.NumGoroutine")) (R false fn.ntmps xn kb c {tm:=na 0 ds,hp:=hp,nx:=nx,us:=[]} h λ e s' h2=>jc (BY e) (BZ T s' fn.results.toList h2 λ l h3=>K l s' h3))

def Ft (o:Oper):Option Call:=match o.op with
 | .call c=>match c.callee with
  | .builtin .append=>some c
  |_=>none
 |_=>none
theorem AG {o:Oper}{c:Call}(h:Ft o=some c):o.op= .call c∧c.callee= .builtin .append:=by
 unfold Ft at h
 split at h
 ·split at h
  ·cases h;exact⟨by assumption,by assumption⟩
  ·cases h
 ·cases h
def xO (T:TT)(R:XC P)(nt kb i:Nat)(o:Oper)(s:AS)(h:Hn P)(K:AS->Hn P->Prop):Prop:=
 match xZ s o with
 |some p=>kq (s.lat p.1) λ q=>jc (U5 q.1 p.2.1&&lh q.2.st&&U5 p.2.2.length q.2.params.size&&q.2.params.toList.all λ t=>Xl t q.2.nt) (R true q.2.nt (s.nx+8*(i+1)) (kb+8*(nt+1)) q.2.assign {tm:=xY q.2.params.toList p.2.2 q.2.tm,hp:=s.hp,nx:=s.nx+8*(i+1),us:=[]} h λ e s1 h1=>jc (hU e)
   (recP s1 p.1 p.2.1 (λ r=>lh r.st) (λ r=>{r with st:=.busy}) λ _ s2=>R true q.2.nt (s.nx+8*(i+1)) (kb+8*(nt+1)) q.2.body s2 h1 λ e s3 h3=>
    recP s3 p.1 p.2.1 (λ _=>true) (λ r=>{r with st:=bif hU e then .ready else .done,pend:=ml e}) λ _ s4=>K {tm:=ey s.tm o.dst (some (.v (.bool (hU e)))),hp:=s4.hp,nx:=s4.nx,us:=[]} h3))
 |none=>match ew s o with
  |some p=>h.go (λ h'=>Ue T R p.1 p.2 (s.nx+8*(i+1)) (s.nx+8*(i+1)) (kb+8*(nt+1)) s.hp h' λ l s' h2=>K {tm:=ey s.tm o.dst (some (uk l)),hp:=s'.hp,nx:=s'.nx,us:=[]} h2)
    λ h'=>BW s p.2 p.1 (s.nx+8*i) (s.nx+8*i) h' λ v up h2=>K {s with tm:=ey s.tm o.dst v,hp:=gy up s.hp,us:=i::s.us} h2
  |none=>match Ft o with
   |some c=>h.fork (uE (ev T s (s.nx+8*i) (s.nx+8*i) o) h λ v up h2=>K {s with tm:=ey s.tm o.dst v,hp:=gy up s.hp,us:=i::s.us} h2) λ h1 h2=>match Fg T s (s.nx+8*i) (s.nx+8*i) c.argTypes c.args with
    |some (b,(v1,u1),(v2,u2))=>jc b (K {s with tm:=ey s.tm o.dst (some v1),hp:=gy u1 s.hp,us:=i::s.us} h1∧K {s with tm:=ey s.tm o.dst (some v2),hp:=gy u2 s.hp,us:=i::s.us} h2)
    |none=>Need 24 ()
   |none=>uE (ev T s (s.nx+8*i) (s.nx+8*i) o) h λ v up h2=>K {s with tm:=ey s.tm o.dst v,hp:=gy up s.hp,us:=i::s.us} h2

theorem AWP.ex {rd:Bool}{nt xn:Nat}{c:Code}{s:AS}{K:AX->AS->Hn P->Prop}{G:AX->AS->Prop}(h:AWP P rd nt xn c s λ e s'=>∃h',K e s' h')(hk:∀e s' h',K e s' h'->G e s'):AWP P rd nt xn c s G:=h.mono λ e s' ⟨h',hK⟩=>hk e s' h' hK
theorem gh {T:TT}{s:AS}:∀{rs:List ResultVar} {K K':List D->Prop},jo T s rs K->(∀l,K l->K' l)->jo T s rs K'
 |[],_,_,h,hk=>hk _ h
 | .tmp t::r,_,_,h,hk=>by
  obtain⟨d,hd,h⟩:=aP.1 h;exact aP.2 ⟨d,hd,gh h λ l=>hk _⟩
 | .cell t ty::r,_,_,h,hk=>Ev.vc_mono h λ v _ h=>by
  obtain⟨d,hd,h⟩:=aP.1 h;exact aP.2 ⟨d,hd,gh h λ l=>hk _⟩
theorem mw {s:AS}{k g:Nat}{ok:LRec->Bool}{to:LRec->LRec}{K K':LRec->AS->Prop}(h:recP s k g ok to K)(hk:∀r s',K r s'->K' r s'):recP s k g ok to K':=by
 obtain⟨p,hp,h⟩:=aP.1 h;obtain⟨hc,h⟩:=bF.1 h;exact aP.2 ⟨p,hp,bF.2 ⟨hc,hk _ _ h⟩⟩

theorem uF {T:TT}{R:XC P}(hR:BX R){nt kb i:Nat}{o:Oper}{s:AS}{h:Hn P}{K:AS->Hn P->Prop}{G:AS->Prop}(hv:xO T R nt kb i o s h K)(hk:∀s' h',K s' h'->G s'):RA P T nt kb i o s G:=by
 unfold xO at hv;unfold RA
 cases hy:xZ s o with
 |some p=>
  rw[hy]at hv;dsimp only at hv ⊢;obtain⟨q,hq,hv⟩:=aP.1 hv;obtain⟨hc,hv⟩:=bS.1 hv;refine aP.2 ⟨q,hq,bF.2 ⟨hc,?_⟩⟩;refine(hR _ _ _ _ _ _ _ _ hv).ex λ e s1 h1 hv=>?_
  obtain⟨hn,hv⟩:=bS.1 hv;refine⟨(by cases e<;>first|rfl|(cases hn)),mw hv λ _ s2 hv=>?_⟩;refine(hR _ _ _ _ _ _ _ _ hv).ex λ e s3 h3 hv=>?_
  exact mw hv λ _ s4 hv=>hk _ _ hv
 |none=>
  rw[hy]at hv;dsimp only at hv ⊢
  cases hc:ew s o with
  |some p=>
   rw[hc]at hv;dsimp only at hv ⊢;refine Hn.go_elim hv (λ h' hv=>?_) λ h' hv=>?_
   ·obtain⟨fn,hf,hv⟩:=aP.1 hv
    obtain⟨c,hb,hv⟩:=aP.1 hv;obtain⟨hn,hv⟩:=bS.1 hv;refine Sa hf hb (rs:=fn.results.toList) rfl (by simpa using hn) ?_;refine(hR _ _ _ _ _ _ _ _ hv).ex λ e s' h2 hv=>?_
    obtain⟨he,hv⟩:=bS.1 hv;exact⟨mv he,gh (ll hv) λ l ⟨_,hl⟩=>hk _ _ hl⟩
   ·have hx:=iM hv
    obtain⟨al,fp,q,hin,r,bs,h1,h2,h4,h5,h6,h7⟩:=hx.h;exact⟨.inl ⟨al,fp,q,hin,r,bs,h1,h2,h4,h5,hk _ _ h7⟩⟩
  |none=>
   rw[hc]at hv;dsimp only at hv
   cases ha:Ft o with
   |none=>
    rw[ha]at hv;exact .inr (Ev.vc_mono (fG hv) λ v up ⟨h2,hK⟩=>hk _ _ hK)
   |some c=>
    rw[ha]at hv;dsimp only at hv;refine Hn.fork_elim hv (λ hv=>.inr (Ev.vc_mono (fG hv) λ v up ⟨h2,hK⟩=>hk _ _ hK)) λ h1 h2 hv=>?_
    obtain⟨q1,q2⟩:=AG ha
    split at hv
    ·rename_i b v1 u1 v2 u2 he
     obtain⟨rfl,hv1,hv2⟩:=bS.1 hv;exact .inl ⟨c,v1,u1,v2,u2,q1,q2,he,hk _ _ hv1,hk _ _ hv2⟩
    ·cases hv

def xL (T:TT)(R:XC P)(nt kb:Nat)(all:List Oper):Nat->List Oper->AS->Hn P->(AS->Hn P->Prop)->Prop
 |_,[],s,h,K=>K s h
 |i,o::r,s,h,K=>jc (jn nt o) (Kl h s λ s h=>xLo T R nt kb all i o s h K (xL T R nt kb all (i+1) r))
where xLo (T:TT) (R:XC P) (nt kb:Nat) (all:List Oper) (i:Nat) (o:Oper) (s:AS) (h:Hn P) (K:AS->Hn P->Prop) (next:AS->Hn P->(AS->Hn P->Prop)->Prop):Prop:=
 match o.guard with
 |none=>xO T R nt kb i o s h λ s' h'=>next s' h' K
 |some jw=>match(all[jw.1]?).bind (·.dst)with
  |some t=>match s.tm.get t with
   |some (.v (.bool b))=>
    let run (c:Bool) (h:Hn P):Prop:=xO T R nt kb i o {s with tm:=s.tm.set t (some (.v (.bool c)))} h λ s' h'=>next s' h' K
    let skip (c:Bool) (h:Hn P):Prop:=next {s with tm:=ey (s.tm.set t (some (.v (.bool c)))) o.dst (some (.tup [])),us:=i::s.us} h K
    h.go (λ h'=>qQ b (bif jw.2 then run true h' else skip true h') (bif jw.2 then skip false h' else run false h')) λ h'=>match h' with
     | .t b' _ h2=>b=b'∧bif jw.2 then run true h2 else skip true h2
     | .f b' _ h2=>b=b'∧bif jw.2 then skip false h2 else run false h2
     | .br b' ht hf=>b=b'∧(∀p,bif jw.2 then run true (ht p)else skip true (ht p))∧∀p,bif jw.2 then skip false (hf p)else run false (hf p)
     |_=>Need 6 b
   |some (.tup [])=>next {s with tm:=ey s.tm o.dst (some (.tup [])),us:=i::s.us} h K
   |_=>Need 7 t
  |none=>False

theorem SR.val {cx:Cx}{E:Env}{s:AS}{a:Act}{w:World}(h:SR cx E s a w){t:Nat}{d:D}(ht:s.tm.get t=some d):SR cx E {s with tm:=s.tm.set t (some d)} a w:=by
 refine{h with fr:=λ t' d' hd=>?_};rcases WC hd with⟨rfl,hv⟩|⟨_,hd⟩
 ·cases hv;exact h.fr t' _ ht
 ·exact h.fr t' d' hd
theorem SR.sub {cx:Cx}{E:Env}{s s2:AS}{a:Act}{w:World}(h:SR cx E s a w)(htm:s2.tm=s.tm)(hg:∀k x,s2.gat k=some x->s.gat k=some x)(hnx:s2.nx=s.nx)(hus:s2.us=s.us):SR cx E s2 a w∧Mut s s2 E E w w:=by
 refine⟨{h with
  fr:=λ t d hd=>h.fr t d (by rw[<-htm];exact hd)
  hp:=λ k g b hk=>h.hp k g b (AS.at_iff.2 (hg _ _ (AS.at_iff.1 hk)))
  lp:=λ k g b hk=>h.lp k g b (AS.lat_iff.2 (hg _ _ (AS.lat_iff.1 hk)))
  inj:=λ k k' g g' o o' hkk h1 h2=>h.inj k k' g g' o o' hkk (hg _ _ h1) (hg _ _ h2)
  low:=λ x ⟨k,g,o,hk,hx⟩=>h.low x ⟨k,g,o,hg _ _ hk,hx⟩
  nm:=λ g hg=>by rw[hnx,hus];exact h.nm g hg},⟨λ _ h=>h,λ _ _ _=>rfl,λ x _ ⟨k,g,o,hk,hx⟩=>⟨k,g,o,hg _ _ hk,hx⟩⟩⟩
theorem kM {cx:Cx}{E:Env}{a:Act}{w:World}{K:AS->Hn P->Prop}:∀(h:Hn P) (s:AS),SR cx E s a w->AD h s K->∃s2 h2,K s2 h2∧SR cx E s2 a w∧Mut s s2 E E w w∧s2.us=s.us
 | .val t d d' p h,s,hs,hv=>by
  subst p;obtain⟨h1,hv⟩:=hv;obtain⟨s2,h2,q1,q2,q3,q4⟩:=kM h _ (hs.val h1) hv;exact⟨s2,h2,q1,q2,⟨q3.own,q3.heap,q3.old⟩,q4⟩
 | .blk k g b b' p h,s,hs,hv=>by
  subst p;obtain⟨h1,hv⟩:=hv;obtain⟨r1,r2⟩:=hs.sub (s2:={s with hp:=s.hp.set k (some (g,.b b))}) rfl (λ k' x hk=>by
   rcases WC hk with⟨rfl,e⟩|⟨_,hk⟩
   ·cases e;exact AS.at_iff.1 h1
   ·exact hk) rfl rfl
  obtain⟨s2,h2,q1,q2,q3,q4⟩:=kM h _ r1 hv;exact⟨s2,h2,q1,q2,r2.trans q3 (Vd _),q4⟩
 | .nil,s,hs,hv=>⟨s,_,hv,hs,Mut.refl s E w,rfl⟩
 | .s ..,s,hs,hv=>⟨s,_,hv,hs,Mut.refl s E w,rfl⟩
 | .chk ..,s,hs,hv=>⟨s,_,hv,hs,Mut.refl s E w,rfl⟩
 | .t ..,s,hs,hv=>⟨s,_,hv,hs,Mut.refl s E w,rfl⟩
 | .f ..,s,hs,hv=>⟨s,_,hv,hs,Mut.refl s E w,rfl⟩
 | .br ..,s,hs,hv=>⟨s,_,hv,hs,Mut.refl s E w,rfl⟩
 | .opt ..,s,hs,hv=>⟨s,_,hv,hs,Mut.refl s E w,rfl⟩
 | .byt ..,s,hs,hv=>⟨s,_,hv,hs,Mut.refl s E w,rfl⟩
 | .call ..,s,hs,hv=>⟨s,_,hv,hs,Mut.refl s E w,rfl⟩
 | .loop1 ..,s,hs,hv=>⟨s,_,hv,hs,Mut.refl s E w,rfl⟩
 | .loop2 ..,s,hs,hv=>⟨s,_,hv,hs,Mut.refl s E w,rfl⟩
 | .loopE ..,s,hs,hv=>⟨s,_,hv,hs,Mut.refl s E w,rfl⟩
 | .nils ..,s,hs,hv=>⟨s,_,hv,hs,Mut.refl s E w,rfl⟩
 | .nilc ..,s,hs,hv=>⟨s,_,hv,hs,Mut.refl s E w,rfl⟩
 | .recv ..,s,hs,hv=>⟨s,_,hv,hs,Mut.refl s E w,rfl⟩
 | .em ..,s,hs,hv=>⟨s,_,hv,hs,Mut.refl s E w,rfl⟩
 | .lst ..,s,hs,hv=>⟨s,_,hv,hs,Mut.refl s E w,rfl⟩
 | .two ..,s,hs,hv=>⟨s,_,hv,hs,Mut.refl s E w,rfl⟩
 | .stab ..,s,hs,hv=>⟨s,_,hv,hs,Mut.refl s E w,rfl⟩
 | .abs p,_,_,_=>p.elim
 | .cut ..,s,hs,hv=>⟨s,_,hv,hs,Mut.refl s E w,rfl⟩
 | .out ..,s,hs,hv=>⟨s,_,hv,hs,Mut.refl s E w,rfl⟩
theorem bp {K:AS->Hn P->Prop}:∀(h:Hn P) (s:AS),AD h s K->∃s2 h2,K s2 h2∧pZ s s2
 | .val t d d' p h,s,hv=>by
  subst p;obtain⟨h1,hv⟩:=hv;obtain⟨s2,h2,q1,q2⟩:=bp h _ hv;exact⟨s2,h2,q1,pZ.trans (λ cx E a w hs hu=>⟨E,hs.val h1,Stp.refl E w,⟨λ _ h=>h,λ _ _ _=>rfl,λ _ _ h=>h⟩,hu⟩) q2⟩
 | .blk k g b b' p h,s,hv=>by
  subst p;obtain⟨h1,hv⟩:=hv;obtain⟨s2,h2,q1,q2⟩:=bp h _ hv;refine⟨s2,h2,q1,pZ.trans (λ cx E a w hs hu=>?_) q2⟩;obtain⟨r1,r2⟩:=hs.sub (s2:={s with hp:=s.hp.set k (some (g,.b b))}) rfl (λ k' x hk=>by
   rcases WC hk with⟨rfl,e⟩|⟨_,hk⟩
   ·cases e;exact AS.at_iff.1 h1
   ·exact hk) rfl rfl
  exact⟨E,r1,Stp.refl E w,r2,hu⟩
 | .nil,s,hv=>⟨s,_,hv,.refl s⟩
 | .s ..,s,hv=>⟨s,_,hv,.refl s⟩
 | .chk ..,s,hv=>⟨s,_,hv,.refl s⟩
 | .t ..,s,hv=>⟨s,_,hv,.refl s⟩
 | .f ..,s,hv=>⟨s,_,hv,.refl s⟩
 | .br ..,s,hv=>⟨s,_,hv,.refl s⟩
 | .opt ..,s,hv=>⟨s,_,hv,.refl s⟩
 | .byt ..,s,hv=>⟨s,_,hv,.refl s⟩
 | .call ..,s,hv=>⟨s,_,hv,.refl s⟩
 | .loop1 ..,s,hv=>⟨s,_,hv,.refl s⟩
 | .loop2 ..,s,hv=>⟨s,_,hv,.refl s⟩
 | .loopE ..,s,hv=>⟨s,_,hv,.refl s⟩
 | .nils ..,s,hv=>⟨s,_,hv,.refl s⟩
 | .nilc ..,s,hv=>⟨s,_,hv,.refl s⟩
 | .em ..,s,hv=>⟨s,_,hv,.refl s⟩
 | .lst ..,s,hv=>⟨s,_,hv,.refl s⟩
 | .two ..,s,hv=>⟨s,_,hv,.refl s⟩
 | .stab ..,s,hv=>⟨s,_,hv,.refl s⟩
 | .abs p,_,_=>p.elim
 | .recv ..,s,hv=>⟨s,_,hv,.refl s⟩
 | .cut ..,s,hv=>⟨s,_,hv,.refl s⟩
 | .out ..,s,hv=>⟨s,_,hv,.refl s⟩
theorem ju {K:AS->Hn P->Prop}:∀(h:Hn P) (s:AS),AE h s K->∃s2 h2,K s2 h2∧pZ s s2
 | .nils t k sz elem h,s,hv=>by
  obtain⟨h1,hv⟩:=hv;obtain⟨s2,h2,q1,q2⟩:=ju h _ hv;exact⟨s2,h2,q1,(pZ.nilS h1).trans q2⟩
 | .nilc k0 g0 b j k sz elem h,s,hv=>by
  obtain⟨h1,h2,hv⟩:=hv;obtain⟨hc,hv⟩:=bS.1 hv;simp only[U9,Bool.not_eq_true']at hc;obtain⟨⟨c1,c2⟩,c3⟩:=hc;obtain⟨s2,h3,q1,q2⟩:=ju h _ hv;exact⟨s2,h3,q1,(pZ.nilC h1 (λ e=>by subst e;simp at c1) c2 c3 h2).trans q2⟩
 | .recv k t d d' p h,s,hv=>by
  subst p;obtain⟨q,hq,h1,hv⟩:=aP.1 hv;obtain⟨s2,h2,q1,q2⟩:=ju h _ hv;exact⟨s2,h2,q1,(pZ.recS hq h1).trans q2⟩
 | .val ..,s,hv=>bp _ s hv
 | .blk ..,s,hv=>bp _ s hv
 | .nil,s,hv=>bp _ s hv
 | .em ..,s,hv=>bp _ s hv
 | .lst ..,s,hv=>bp _ s hv
 | .two ..,s,hv=>bp _ s hv
 | .stab ..,s,hv=>bp _ s hv
 | .abs p,_,_=>p.elim
 | .s ..,s,hv=>bp _ s hv
 | .chk ..,s,hv=>bp _ s hv
 | .t ..,s,hv=>bp _ s hv
 | .f ..,s,hv=>bp _ s hv
 | .br ..,s,hv=>bp _ s hv
 | .opt ..,s,hv=>bp _ s hv
 | .byt ..,s,hv=>bp _ s hv
 | .call ..,s,hv=>bp _ s hv
 | .loop1 ..,s,hv=>bp _ s hv
 | .loop2 ..,s,hv=>bp _ s hv
 | .loopE ..,s,hv=>bp _ s hv
 | .cut ..,s,hv=>bp _ s hv
 | .out ..,s,hv=>bp _ s hv
theorem oX {cx:Cx}{E:Env}{a:Act}{w:World}{K:AS->Hn P->Prop}{h:Hn P}{s:AS}(hs:SR cx E s a w)(hv:Kl h s K):∃s2 h2,K s2 h2∧SR cx E s2 a w∧Mut s s2 E E w w∧s2.us=s.us:=
 Hn.go_elim hv (λ h' hv=>⟨s,h',hv,hs,Mut.refl s E w,rfl⟩) λ h' hv=>kM h' s hs hv

theorem uG {cx:Cx}{T:TT}{R:XC P}{F:Fence}{n kb:Nat}(hF:FOK F)(hT:T.ok P)(hR:BX R){all:List Oper}{Q:Exit->Act->World->Prop}{K:AS->Hn P->Prop}:∀(l:List Oper) (i:Nat) (s:AS) (h:Hn P) (E:Env) (a:Act) (w:World),SR cx E s a w->(∀k∈s.us,k<i)->xL T R cx.nt kb all i l s h K->
  (∀s' h' E' a' w',K s' h'->SR cx E' s' a' w'->Stp E E' w w'->Mut s s' E E' w w'->(∀k∈s'.us,k<i+l.length)->Q .normal a' w')->wpListIn F n P all.toArray Q l a w
 |[],i,s,h,E,a,w,hs,hus,hv,hQ=>hQ s h E a w hv hs (Stp.refl E w) (Mut.refl s E w) (by simpa using hus)
 |o::r,i,s0,h0,E,a,w,hs0,hus0,hv,hQ=>by
  obtain⟨hd,hv⟩:=bS.1 hv;obtain⟨s,h,hv,hs,hmut0,hus1⟩:=oX hs0 hv;have hus:∀k∈s.us,k<i:=by rw[hus1];exact hus0
  have hlen:i+(o::r).length=i+1+r.length:=by simp only[VE];omega
  rw[hlen]at hQ;have hi:i∉s.us:=λ hh=>Nat.lt_irrefl _ (hus i hh)
  have hus':∀k∈i::s.us,k<i+1:=λ k hk=>by
   rcases List.mem_cons.1 hk with rfl|hk
   ·omega
   ·have:=hus k hk;omega
  have next:∀(s1:AS) (h1:Hn P) (E1:Env) (a1:Act) (w1:World),SR cx E1 s1 a1 w1->Stp E E1 w w1->Mut s s1 E E1 w w1->(∀k∈s1.us,k<i+1)->xL T R cx.nt kb all (i+1) r s1 h1 K->wpListIn F n P all.toArray Q r a1 w1:=λ s1 h1 E1 a1 w1 ck hst hmut hu1 hv1=>
   uG hF hT hR r (i+1) s1 h1 E1 a1 w1 ck hu1 hv1 λ s' h' E' a' w' hK hs' hst' hmut' hu'=>hQ s' h' E' a' w' hK hs' (hst.trans hst') ((hmut0.trans hmut (Vd _)).trans hmut' hst.size) hu'
  unfold xL.xLo at hv;unfold wpListIn
  cases hg:o.guard with
  |none=>
   rw[hg]at hv;simp only[XB,hg,if_true];exact qy hF hT hs hus hd (uF (G:=λ s'=>∃h',xL T R cx.nt kb all (i+1) r s' h' K) hR hv λ s' h' hx=>⟨h',hx⟩) λ s' E' a' w' ⟨h',hK⟩ hs' hst hmut hu'=>next s' h' E' a' w' hs' hst hmut hu' hK
  |some jw=>
   obtain⟨j,want⟩:=jw;rw[hg]at hv;dsimp only at hv
   split at hv
   case h_2=>exact hv.elim
   case h_1 t ht=>
   split at hv
   case h_3=>cases hv
   case h_2 hb=>
    have hy:=oS hs ht hb;simp only[XB,hg,hy];rw[ZE (by simp)];exact⟨λ f _=>hF.fn f,next _ h E _ w (da (s:={s with us:=i::s.us}) (hs.us i) hd (v:=some (.tup [])) oQ) (Stp.refl E w) ⟨λ _ h=>h,λ _ _ _=>rfl,λ _ _ h=>h⟩ hus' hv⟩
   case h_1 b hb=>
   have hy:=kL hs ht hb;simp only[XB,hg,hy];have run:∀c h,b=c->c=want->xO T R cx.nt kb i o {s with tm:=s.tm.set t (some (.v (.bool c)))} h (λ s' h'=>xL T R cx.nt kb all (i+1) r s' h' K)->(if(some b==some want)=true then o.wpIn F n P a w (wpListIn F n P all.toArray Q r) Q else(∀f,o.about P w a.eval=some f->F.fn f)∧wpListIn F n P all.toArray Q r (a.put o.dst undef) w):=λ c h hbc hcw hv=>by
    rw[ZF (by rw[hbc,hcw];simp)];exact qy hF hT (hs.know hb hbc) hus hd (uF (G:=λ s'=>∃h',xL T R cx.nt kb all (i+1) r s' h' K) hR hv λ s' h' hx=>⟨h',hx⟩) λ s' E' a' w' ⟨h',hK⟩ hs' hst hmut hu'=>next s' h' E' a' w' hs' hst ⟨hmut.own,hmut.heap,hmut.old⟩ hu' hK
   have skip:∀c h,b=c->c≠want->xL T R cx.nt kb all (i+1) r {s with tm:=ey (s.tm.set t (some (.v (.bool c)))) o.dst (some (.tup [])),us:=i::s.us} h K->(if(some b==some want)=true then o.wpIn F n P a w (wpListIn F n P all.toArray Q r) Q else(∀f,o.about P w a.eval=some f->F.fn f)∧wpListIn F n P all.toArray Q r (a.put o.dst undef) w):=λ c h hbc hcw hv=>by
    rw[ZE (by rw[hbc];simpa using hcw)];exact⟨λ f _=>hF.fn f,next _ h E _ w (da (s:={s with tm:=s.tm.set t (some (.v (.bool c))),us:=i::s.us}) ((hs.know hb hbc).us i) hd (v:=some (.tup [])) oQ) (Stp.refl E w) ⟨λ _ h=>h,λ _ _ _=>rfl,λ _ _ h=>h⟩ hus' hv⟩
   cases b with
   |true=>
    refine Hn.go_elim hv (λ h1 hv=>?_) λ h1 hv=>?_
    ·have hv:=(fc.1 hv).1 rfl
     cases want with
     |true=>exact run true h1 rfl rfl hv
     |false=>exact skip true h1 rfl (by simp) hv
    ·split at hv
     ·obtain⟨_,hv⟩:=hv
      cases want with
      |true=>exact run true _ rfl rfl hv
      |false=>exact skip true _ rfl (by simp) hv
     ·rename_i b' p h2
      obtain⟨e,_⟩:=hv;rw[p]at e;cases e
     ·rename_i b' ht hf
      obtain⟨e,hv,_⟩:=hv;have hv:=hv e.symm
      cases want with
      |true=>exact run true _ rfl rfl hv
      |false=>exact skip true _ rfl (by simp) hv
     ·cases hv
   |false=>
    refine Hn.go_elim hv (λ h1 hv=>?_) λ h1 hv=>?_
    ·have hv:=(fc.1 hv).2 rfl
     cases want with
     |true=>exact skip false h1 rfl (by simp) hv
     |false=>exact run false h1 rfl rfl hv
    ·split at hv
     ·rename_i b' p h2
      obtain⟨e,_⟩:=hv;rw[p]at e;cases e
     ·obtain⟨_,hv⟩:=hv
      cases want with
      |true=>exact skip false _ rfl (by simp) hv
      |false=>exact run false _ rfl rfl hv
     ·rename_i b' ht hf
      obtain⟨e,_,hv⟩:=hv;have hv:=hv e.symm
      cases want with
      |true=>exact skip false _ rfl (by simp) hv
      |false=>exact run false _ rfl rfl hv
     ·cases hv

def NC (K:AX->AS->Hn P->Prop)(s:AS)(h:Hn P):Option Code->Prop
 |none=>K .normal s h
 |some .ret=>K .ret s h
 |some (.exit id)=>K (.exit id) s h
 |_=>False
def Km (R:XC P)(rd:Bool)(nt xn kb:Nat)(c:Code):Nat->AS->Hn P->(AX->AS->Hn P->Prop)->Prop
 |0,_,_,_=>Need 8 ()
 |m+1,s,h,K=>R rd nt xn kb c s h λ e s' h'=>match e with
  | .normal=>Km R rd nt xn kb c m s' h' K
  |e=>K e s' h'
theorem oY {R:XC P}(hR:BX R){rd:Bool}{nt xn kb:Nat}{c:Code}{K:AX->AS->Hn P->Prop}:∀(m:Nat) (s:AS) (h:Hn P),Km R rd nt xn kb c m s h K->AWPr P rd nt xn c m s λ e s'=>∃h',K e s' h'
 |0,s,h,hv=>by cases hv
 |m+1,s,h,hv=>AWPr.step ((hR _ _ _ _ _ _ _ _ hv).ex λ e s' h' hv=>by
  cases e with
  |normal=>exact oY hR m s' h' hv
  |exit id=>exact⟨h',hv⟩
  |ret=>exact⟨h',hv⟩)
def Kn {α:Type}:List α->Bool
 |[]=>true
 |_=>false
def B0 (s:AS)(xn:Nat)(d:CutS)(X:Prop):Prop:=RB s (κE d.es) (γE d.es) d.tm∧RE s (κE d.es) (γE d.es) d.es∧jc (d.ok xn&&Kn s.us) X
theorem iN {s:AS}{xn:Nat}{d:CutS}{X:Prop}(h:B0 s xn d X)(hr:iK d):CutE s xn d∧X:=by
 obtain⟨h1,h2,h3⟩:=h;obtain⟨h3,h4⟩:=bS.1 h3;rw[U9]at h3;refine⟨⟨h1,h2,h3.1,hr,?_⟩,h4⟩
 cases hu:s.us with
 |nil=>rfl
 |cons x r=>rw[hu]at h3;cases h3.2

def Sd (R:XC P)(m:Nat)(rd:Bool)(nt xn kb:Nat)(c:Code)(s:AS)(h:Hn P)(K:AX->AS->Hn P->Prop)(E:AS->Hn P->Prop):Prop:=
 h.goL (λ h'=>Km R rd nt xn kb c m s h' K) λ h'=>AE h' s λ s h'=>match h' with
  | .loop1 rd' nt' xn' c' d _ e1 s1 _ h2=>(rd,nt,xn)=(rd',nt',xn')∧c=c'∧B0 s xn d (K e1 s1 h2)
  | .loop2 rd' nt' xn' c' d _ e1 s1 e2 s2 _ h1 h2=>(rd,nt,xn)=(rd',nt',xn')∧c=c'∧B0 s xn d (K e1 s1 h1∧K e2 s2 h2)
  | .loopE rd' nt' xn' c' d _ es _ hs=>(rd,nt,xn)=(rd',nt',xn')∧c=c'∧B0 s xn d (uz es λ i x=>K (gf es i).e ((gf es i).S x).st (hs i x))
  | .two h1 _=>E s h1∧True
  |h'=>Need 12 (((rd,nt,xn),(c,s)),h')
theorem qR {R:XC P}(hR:BX R){m:Nat}{rd:Bool}{nt xn kb:Nat}{c:Code}{s:AS}{h:Hn P}{K:AX->AS->Hn P->Prop}{E:AS->Hn P->Prop}(hE:∀s h,E s h->AWPl P rd nt xn c s λ e s'=>∃h',K e s' h')(hv:Sd R m rd nt xn kb c s h K E):AWPl P rd nt xn c s λ e s'=>∃h',K e s' h':=by
 refine Hn.goL_elim hv (λ h1 hv=>?_) λ h1 hv=>?_
 ·exact AWPl.rounds (oY hR m s h1 hv)
 ·obtain⟨s2,h2',hv,hret⟩:=ju _ _ hv
  refine AWPl.ret hret ?_
  split at hv
  ·rename_i rd' nt' xn' c' d rows e1 s1 hl h2
   obtain⟨he,rfl,hv⟩:=hv
   cases he
   obtain⟨hc,hv⟩:=iN hv rows;refine AWPl.cutStart hc (hl.mono λ e s' ⟨q1,q2⟩=>?_);subst q1 q2;exact⟨_,hv⟩
  ·rename_i rd' nt' xn' c' d rows e1 s1 e2 s2 hl h1' h2
   obtain⟨he,rfl,hv⟩:=hv
   cases he
   obtain⟨hc,hv1,hv2⟩:=iN hv rows;refine AWPl.cutStart hc (hl.mono λ e s' hq=>?_);rcases hq with⟨q1,q2⟩|⟨q1,q2⟩
   ·subst q1 q2;exact⟨_,hv1⟩
   ·subst q1 q2;exact⟨_,hv2⟩
  ·rename_i rd' nt' xn' c' d rows es hl hs'
   obtain⟨he,rfl,hv⟩:=hv
   cases he
   obtain⟨hc,hv⟩:=iN hv rows;exact AWPl.cutStart hc (hl.mono λ e s' hq=>uB (G:=λ e s'=>∃h',K e s' h') hv (λ i x hx=>⟨_,hx⟩) hq)
  ·exact hE _ _ hv.1
  ·cases hv
section
variable {F:Fence} {n:Nat} {P:Program} {b:Frame} {a:Act} {k:List Item} {cs:List Frame} {w:World} {Q:Exit->Act->World->Prop}
theorem eh {c:Code}:step P (lone (b.atR a (.code (.scope c)::k)) cs w)= .next (lone (b.atR a (.code c:: .inScope c::k)) cs w):=
 step_lone_go (by simp[stepG,stepG.exec,Frame.atR])
theorem qe {c:Code}:step P (lone (b.atR a (.inScope c::k)) cs w)= .next (lone (b.atR a k) cs w):=
 step_lone_go (by simp[stepG,stepG.exec,Frame.atR])
def Ko (Q:Exit->Act->World->Prop):Exit->Act->World->Prop
 | .goto _,_,_=>False
 |e,a,w=>Q e a w
theorem wz {c:Code}(h:c.wpIn F n P (Ko Q) a w):(Code.scope c).wpIn F n P Q a w:=by
 intro b k cs hro hb hr;have h0:(lone (b.atR a (.code (.scope c)::k)) cs w).fenced P F:=fenced_calm hb hr rfl;obtain⟨e,a₁,w₁,hq,harr⟩:=h b (.inScope c::k) cs hro hb hr
 cases e with
 |normal=>exact⟨.normal,a₁,w₁,hq,.head h0 eh (StepsIn.trans harr (.one (fenced_calm hb hr rfl) qe))⟩
 |exit id=>
  have hx:exitTo id (.inScope c::k)=exitTo id k:=by simp[exitTo]
  exact⟨.exit id,a₁,w₁,hq,λ k' hk=>.head h0 eh (harr.1 k' (by rw[hx];exact hk)),
   λ hr' hk=>let⟨k₁,h1,h2⟩:=harr.2 hr' (by rw[hx];exact hk);⟨k₁,h1,.head h0 eh h2⟩⟩
 |goto l=>exact hq.elim
 |ret=>exact⟨_,a₁,w₁,hq,.of_steps (.one h0 eh) harr⟩
 |panic ch=>exact⟨_,a₁,w₁,hq,.of_steps (.one h0 eh) harr⟩
 |outgrown=>exact⟨_,a₁,w₁,hq,.of_steps (.one h0 eh) harr⟩
end
def xC (P:Program)(T:TT):Nat->XC P
 |0,_,_,_,_,_,_,_,_=>Need 8 ()
 |f+1,rd,nt,xn,kb,code,s,h,K=>bif h.isAbs then True else match code with
  | .skip=>K .normal s h
  | .region _ ops d=>bif d then jc (BI (Kj ops.toList []) 0 ops.toList) (Kl h s λ s h=>xD T nt kb ops.toList (Kj ops.toList []) 0 ops.toList s [] h λ s' h'=>wx (s'.nx+8*ops.size) λ nx=>K .normal {tm:=s'.tm,hp:=s'.hp,nx:=nx,us:=[]} h')
   else xL T (xC P T f) nt kb ops.toList 0 ops.toList s h λ s' h'=>wx (s'.nx+8*ops.size) λ nx=>K .normal {tm:=s'.tm,hp:=s'.hp,nx:=nx,us:=[]} h'
  | .seq x y=>xC P T f rd nt xn kb x s h λ e s' h'=>match e with
   | .normal=>xC P T f rd nt xn kb y s' h' K
   |e=>K e s' h'
  | .cond c x y=>match fq s c with
   |some (.v (.bool b))=>h.go (λ h'=>qQ b (xC P T f rd nt xn kb x (ia s c true) h' K) (xC P T f rd nt xn kb y (ia s c false) h' K)) λ h'=>match h' with
    | .t b' _ h2=>b=b'∧xC P T f rd nt xn kb x (ia s c true) h2 K
    | .f b' _ h2=>b=b'∧xC P T f rd nt xn kb y (ia s c false) h2 K
    | .br b' ht hf=>b=b'∧(∀p,xC P T f rd nt xn kb x (ia s c true) (ht p) K)∧∀p,xC P T f rd nt xn kb y (ia s c false) (hf p) K
    |_=>Need 9 b
   |_=>Need 10 c
  | .block id c=>xC P T f rd nt xn kb c s h λ e s' h'=>match e with
   | .exit id'=>bif U5 id' id then K .normal s' h' else K (.exit id') s' h'
   |e=>K e s' h'
  | .exit id=>K (.exit id) s h
  | .ret=>K .ret s h
  | .rangeFunc g ps assign body=>jc (!rd) (match fq s g with
   |some (.fn (.func f') fi ca)=>Ue T (xC P T f) f' (fi++[.yl s.nx s.nx]++ca) (s.nx+8) (s.nx+8) (kb+8*(nt+2)) (s.hp.set s.nx (some (s.nx,.l {st:=.ready,pend:=none,params:=ps,assign:=assign,body:=body,nt:=nt,tm:=s.tm}))) h λ _ s' h'=>
    recP s' s.nx s.nx (λ r=>!wp r.st) (λ r=>{r with st:=.exhausted}) λ r s2=>NC K {tm:=s.tm,hp:=s2.hp,nx:=s2.nx,us:=[]} h' r.pend
   |_=>Need 11 g)
  | .loop c=>Sd (xC P T f) f rd nt xn kb c s h K λ s h1=>xC P T f rd nt xn kb c s h1 λ e s' h'=>match e with
   | .normal=>Sd (xC P T f) f rd nt xn kb c s' h' K λ s h'=>Need 8 (s,h')
   |e=>K e s' h'
  | .scope c=>xC P T f rd nt xn kb c s h K
  | .label _=>K .normal s h
  |_=>Need 13 h

theorem oZ {T:TT}(hT:T.ok P)(hfol:P.follows .mixedOrders=true):∀f,BX (xC P T f)
 |0=>λ rd nt xn kb c s h K hv=>by cases hv
 |f+1=>λ rd nt xn kb code s h K hv=>by
  have ih:=oZ hT hfol f;unfold xC at hv;rw[Hn.isAbs_no,cond_false]at hv
  cases code with
  |skip=>exact⟨λ F n cx E a w Q hF hro hn hu hs hQ=>wpIn_skip (hQ .normal s E a w ⟨h,hv⟩ hu hs ((Stp.refl E w).x _) (Mut.refl s E w))⟩
  |exit id=>exact⟨λ F n cx E a w Q hF hro hn hu hs hQ=>wpIn_exit (hQ (.exit id) s E a w ⟨h,hv⟩ hu hs ((Stp.refl E w).x _) (Mut.refl s E w))⟩
  |label l=>exact⟨λ F n cx E a w Q hF hro hn hu hs hQ=>wpIn_label (hQ .normal s E a w ⟨h,hv⟩ hu hs ((Stp.refl E w).x _) (Mut.refl s E w))⟩
  |scope c=>
   refine⟨λ F n cx E a w Q hF hro hn hu hs hQ=>wz ((ih _ _ _ _ _ _ _ _ hv).run F n cx E a w _ hF hro hn hu hs λ e s' E' a' w' ⟨h',hK⟩ hu' hs' hst hmut=>?_)⟩
   cases e with
   |normal=>exact hQ .normal s' E' a' w' ⟨h',hK⟩ hu' hs' hst hmut
   |exit id=>exact hQ (.exit id) s' E' a' w' ⟨h',hK⟩ hu' hs' hst hmut
   |ret=>exact hQ .ret s' E' a' w' ⟨h',hK⟩ hu' hs' hst hmut
  |ret=>exact⟨λ F n cx E a w Q hF hro hn hu hs hQ=>wpIn_ret (hQ .ret s E a w ⟨h,hv⟩ hu hs ((Stp.refl E w).x _) (Mut.refl s E w))⟩
  |region id ops d=>
   cases d with
   |true=>
    obtain⟨hpr,hv⟩:=bS.1 hv;refine⟨λ F n cx E a w Q hF hro hn hu hs hQ=>?_⟩;obtain⟨s2,h2,hv,gu,hmut,hus⟩:=oX hs hv;have hd:=jt _ _ _ _ _ hv;have hu2:s2.us=[]:=by rw[hus];exact hu
    refine(AWP.draw (rd:=rd) (nt:=nt) (kb:=kb) (xn:=xn) (id:=id) (ops:=ops) (K:=λ e s'=>∃h',K e s' h') hT hfol _ hpr ?_).run F n cx E a w Q hF hro hn hu2 gu λ e s' E' a' w' hK hu' hs' hst hmut'=>hQ e s' E' a' w' hK hu' hs' hst (hmut.trans hmut' (Vd _))
    exact gg _ _ _ _ hd λ s' ⟨h',hK⟩=>⟨h',oW.1 hK⟩
   |false=>
    refine⟨λ F n cx E a w Q hF hro hn hu hs hQ=>?_⟩;subst hn;refine wpIn_region_list (uG (n:=n) hF hT ih ops.toList 0 s h E a w hs (by rw[hu];intro k hk;cases hk) hv λ s' h' E' a' w' hK hs' hst hmut hus=>?_);have hK:=oW.1 hK;exact hQ .normal _ E' a' w' ⟨h',hK⟩ rfl (hs'.fin (by simpa using hus)) (hst.x _) ⟨hmut.own,hmut.heap,hmut.old⟩
  |seq x y=>
   refine⟨λ F n cx E a w Q hF hro hn hu hs hQ=>?_⟩;refine wpIn_seq ((ih _ _ _ _ _ _ _ _ hv).run F n cx E a w _ hF hro hn hu hs λ e s' E' a' w' ⟨h',hK⟩ hu' hs' hst hmut=>?_)
   cases e with
   |normal=>exact(ih _ _ _ _ _ _ _ _ hK).run F n cx E' a' w' Q hF hro hn hu' hs' λ e s2 E2 a2 w2 hK2 hu2 gu hst2 hmut2=>hQ e s2 E2 a2 w2 hK2 hu2 gu (hst.trans hst2) (hmut.trans hmut2 hst.size)
   |exit id=>exact hQ (.exit id) s' E' a' w' ⟨h',hK⟩ hu' hs' hst hmut
   |ret=>exact hQ .ret s' E' a' w' ⟨h',hK⟩ hu' hs' hst hmut
  |cond c x y=>
   dsimp only at hv
   split at hv
   case h_2=>cases hv
   case h_1 b hc=>
   have key:(b=true->∃h2,xC P T f rd nt xn kb x (ia s c true) h2 K)∧(b=false->∃h2,xC P T f rd nt xn kb y (ia s c false) h2 K):=by
    refine Hn.go_elim hv (λ h1 hv=>?_) λ h1 hv=>?_
    ·exact⟨λ hb=>⟨h1,(fc.1 hv).1 hb⟩,λ hb=>⟨h1,(fc.1 hv).2 hb⟩⟩
    ·split at hv
     ·rename_i b' p h2
      obtain⟨e,hv⟩:=hv;exact⟨λ _=>⟨_,hv⟩,λ hb=>by rw[hb,p]at e;cases e⟩
     ·rename_i b' p h2
      obtain⟨e,hv⟩:=hv;exact⟨λ hb=>(by rw[hb,p]at e;cases e),λ _=>⟨_,hv⟩⟩
     ·rename_i b' ht hf
      obtain⟨e,hv1,hv2⟩:=hv;exact⟨λ hb=>⟨_,hv1 (e.symm.trans hb)⟩,λ hb=>⟨_,hv2 (e.symm.trans hb)⟩⟩
     ·cases hv
   refine⟨λ F n cx E a w Q hF hro hn hu hs hQ=>?_⟩;have hr:=hs.eval hc;generalize huc:a.eval c=uc at hr
   cases hr
   refine wpIn_cond huc ?_
   cases b with
   |true=>
    obtain⟨h2,hx⟩:=key.1 rfl;exact(ih _ _ _ _ _ _ _ _ hx).run F n cx E a w Q hF hro hn (by rw[(sg _ _ _).1];exact hu) (hs.know' hc) λ e s2 E2 a2 w2 hK2 hu2 gu hst2 hmut2=>hQ e s2 E2 a2 w2 hK2 hu2 gu hst2 hmut2.know
   |false=>
    obtain⟨h2,hx⟩:=key.2 rfl;exact(ih _ _ _ _ _ _ _ _ hx).run F n cx E a w Q hF hro hn (by rw[(sg _ _ _).1];exact hu) (hs.know' hc) λ e s2 E2 a2 w2 hK2 hu2 gu hst2 hmut2=>hQ e s2 E2 a2 w2 hK2 hu2 gu hst2 hmut2.know
  |block id c=>
   refine⟨λ F n cx E a w Q hF hro hn hu hs hQ=>?_⟩;refine wpIn_block ((ih _ _ _ _ _ _ _ _ hv).run F n cx E a w _ hF hro hn hu hs λ e s' E' a' w' ⟨h',hK⟩ hu' hs' hst hmut=>?_)
   cases e with
   |normal=>exact hQ .normal s' E' a' w' ⟨h',hK⟩ hu' hs' hst hmut
   |ret=>exact hQ .ret s' E' a' w' ⟨h',hK⟩ hu' hs' hst hmut
   |exit id'=>
    simp only[AX.ex,Exit.inBlock];dsimp only at hK
    split
    ·rename_i e;subst e;simp only[Wo,cond_true]at hK;exact hQ .normal s' E' a' w' ⟨h',hK⟩ hu' hs' hst hmut
    ·rename_i e
     have:U5 id' id=false:=by
      cases hb:U5 id' id with
      |false=>rfl
      |true=>exact absurd (Vc hb) e
     rw[this]at hK;exact hQ (.exit id') s' E' a' w' ⟨h',hK⟩ hu' hs' hst hmut
  |rangeFunc g ps assign body=>
   obtain⟨h0,h1⟩:=bS.1 hv
   cases rd with
   |true=>cases h0
   |false=>
    split at h1
    case h_2=>cases h1
    case h_1 f' fi ca hg=>
    obtain⟨fn,hf,h1⟩:=aP.1 h1;obtain⟨c,hb,h1⟩:=aP.1 h1;obtain⟨hn,h1⟩:=bS.1 h1;refine AWP.range hT hg ⟨s.nx,fn,c,fn.results.toList,hf,hb,rfl,by simpa using hn,?_⟩;refine(ih _ _ _ _ _ _ _ _ h1).ex λ e s' h2 hv=>?_
    obtain⟨he,hv⟩:=bS.1 hv;refine⟨mv he,gh (ll hv) λ l ⟨_,hl⟩=>mw hl λ r s2 hx=>?_⟩
    cases hp:r.pend with
    |none=>rw[hp]at hx;exact⟨_,hx⟩
    |some c=>
     rw[hp]at hx
     cases c with
     |ret=>exact⟨_,hx⟩
     |exit id=>exact⟨_,hx⟩
     |_=>exact hx.elim
  |loop c=>
   refine(qR ih (λ s h hv=>AWPl.peel ((ih _ _ _ _ _ _ _ _ hv).mono λ e s' ⟨h',hv⟩=>?_)) hv).awp
   cases e with
   |normal=>exact qR ih (λ s h hv=>by cases hv) hv
   |exit id=>exact⟨h',hv⟩
   |ret=>exact⟨h',hv⟩
  |_=>cases hv
end
end Go.Vx
namespace Go.Vx
open Go.RowKit Go.Bw
def RG (κ γ:Nat->Nat):List (Nat×D)->Prop
 |[]=>True
 |p::r=>some (dz κ γ p.2)=some (dz κ γ p.2)∧RG κ γ r
theorem my (κ γ:Nat->Nat):∀l,RG κ γ l
 |[]=>trivial
 |_::r=>⟨rfl,my κ γ r⟩
def Uf (κ γ:Nat->Nat)(e:Ent):Prop:=
 match e.o with
 | .b x=>some (e.g,cb κ γ x)=some (e.g,cb κ γ x)
 | .c x=>some (e.g,x)=some (e.g,x)
 | .r x=>some (e.g,x)=some (e.g,x)
 | .l st pend params assign body nt tm=>(e.g,st,pend,params,assign,body,nt)=(e.g,st,pend,params,assign,body,nt)∧RG κ γ tm
def Se (κ γ:Nat->Nat):List Ent->Prop
 |[]=>True
 |e::r=>Uf κ γ e∧Se κ γ r
theorem o5 (κ γ:Nat->Nat):∀l,Se κ γ l
 |[]=>trivial
 |e::r=>⟨by unfold Uf;split<;>first|rfl|exact⟨rfl,my κ γ _⟩,o5 κ γ r⟩
def Fu (d:CutS)(X:Prop):Prop:=RG (κE d.es) (γE d.es) d.tm∧Se (κE d.es) (γE d.es) d.es∧X
def Kp (κ γ:Nat->Nat):List Nat->List Blk->Prop
 |g::gs,b::bs=>some (g,cb κ γ b)=some (g,cb κ γ b)∧Kp κ γ gs bs
 |_,_=>True
theorem yk (κ γ:Nat->Nat):∀gs bs,Kp κ γ gs bs
 |g::gs,b::bs=>⟨rfl,yk κ γ gs bs⟩
 |[],_=>trivial
 |_::_,[]=>trivial
def Kq (s:AS)(κ γ:Nat->Nat):List Nat->List Nat->List Blk->Prop
 |k::ks,g::gs,b::bs=>s.at k=some (g,cb κ γ b)∧Kq s κ γ ks gs bs
 |_,_,_=>True

theorem qS:∀(es:List Endl) (F:(i:Nat)->(gf es i).κ->Prop),(∀i x,F i x)->uz es F
 |[],_,_=>trivial
 |_::r,F,h=>⟨λ x=>h 0 x,qS r (λ i x=>F (i+1) x) λ i x=>h (i+1) x⟩
section
variable {P:Program}
def Hn.T:Hn P->Prop
 | .nil=>True
 | .s _ h=>h.T
 | .chk b _ h=>b=b∧h.T
 | .t b _ h=>b=b∧h.T
 | .f b _ h=>b=b∧h.T
 | .br b ht hf=>b=b∧(∀p,(ht p).T)∧∀p,(hf p).T
 | .opt o _ _ h=>o=o∧h.T
 | .byt cs _ _ h=>cs=cs∧h.T
 | .lst cs _ _ h=>cs=cs∧h.T
 | .two a b=>a.T∧b.T
 | .stab l h=>l.map (λ c=>(c,c))=l.map (λ c=>(c,c))∧h.T
 | .abs _=>True
 | .val _ d _ _ h=>some d=some d∧h.T
 | .blk _ g b _ _ h=>some (g,b)=some (g,b)∧h.T
 | .em _ ht hf=>(∀p,(ht p).T)∧∀p,(hf p).T
 | .recv _ _ d _ _ h=>some d=some d∧h.T
 | .nils _ _ _ _ h=>some kF=some kF∧h.T
 | .nilc _ g0 b _ _ _ _ h=>some (g0,b)=some (g0,b)∧some kF=some kF∧h.T
 | .call f0 _ _ b1 _ q _ _ b2 _ hin _ _ _ h=>f0=f0∧some (b1,q)=some (b1,q)∧some (b2,hin)=some (b2,hin)∧h.T
 | .loop1 rd nt xn c d _ _ _ _ h=>(rd,nt,xn)=(rd,nt,xn)∧c=c∧Fu d h.T
 | .loop2 rd nt xn c d _ _ _ _ _ _ h1 h2=>(rd,nt,xn)=(rd,nt,xn)∧c=c∧Fu d (h1.T∧h2.T)
 | .loopE rd nt xn c d _ es _ hs=>(rd,nt,xn)=(rd,nt,xn)∧c=c∧Fu d (uz es λ i x=>(hs i x).T)
 | .cut e d _ Q _=>e=e∧Fu d (Q=Q)
 | .out ks gs r bs R _=>rV (λ j=>ks.getD j 0) (λ j=>gs.getD j 0) bs r=rV (λ j=>ks.getD j 0) (λ j=>gs.getD j 0) bs r∧Kp (λ j=>ks.getD j 0) (λ j=>gs.getD j 0) gs bs∧R=R
theorem Hn.T_ok:∀h:Hn P,h.T
 | .nil=>trivial
 | .s _ h=>h.T_ok
 | .chk _ _ h=>⟨rfl,h.T_ok⟩
 | .t _ _ h=>⟨rfl,h.T_ok⟩
 | .f _ _ h=>⟨rfl,h.T_ok⟩
 | .br _ ht hf=>⟨rfl,λ p=>(ht p).T_ok,λ p=>(hf p).T_ok⟩
 | .opt _ _ _ h=>⟨rfl,h.T_ok⟩
 | .byt _ _ _ h=>⟨rfl,h.T_ok⟩
 | .lst _ _ _ h=>⟨rfl,h.T_ok⟩
 | .two a b=>⟨a.T_ok,b.T_ok⟩
 | .stab _ h=>⟨rfl,h.T_ok⟩
 | .abs _=>trivial
 | .val _ _ _ _ h=>⟨rfl,h.T_ok⟩
 | .blk _ _ _ _ _ h=>⟨rfl,h.T_ok⟩
 | .em _ ht hf=>⟨λ p=>(ht p).T_ok,λ p=>(hf p).T_ok⟩
 | .recv _ _ _ _ _ h=>⟨rfl,h.T_ok⟩
 | .nils _ _ _ _ h=>⟨rfl,h.T_ok⟩
 | .nilc _ _ _ _ _ _ _ h=>⟨rfl,rfl,h.T_ok⟩
 | .call _ _ _ _ _ _ _ _ _ _ _ _ _ _ h=>⟨rfl,rfl,rfl,h.T_ok⟩
 | .loop1 _ _ _ _ d _ _ _ _ h=>⟨rfl,rfl,my _ _ _,o5 _ _ _,h.T_ok⟩
 | .loop2 _ _ _ _ d _ _ _ _ _ _ h1 h2=>⟨rfl,rfl,my _ _ _,o5 _ _ _,h1.T_ok,h2.T_ok⟩
 | .loopE _ _ _ _ d _ es _ hs=>⟨rfl,rfl,my _ _ _,o5 _ _ _,qS es _ λ i x=>(hs i x).T_ok⟩
 | .cut _ d _ _ _=>⟨rfl,my _ _ _,o5 _ _ _,rfl⟩
 | .out _ _ _ _ _ _=>⟨rfl,yk _ _ _ _,rfl⟩

def cutK (xn:Nat)(Q:AX->AS->Prop)(e:AX)(s:AS)(h:Hn P):Prop:=
 h.go (λ h'=>Need 21 (e,s,h')) λ h'=>AE h' s λ s h=>match h with
  | .cut e' d _ Q' _=>e=e'∧B0 s xn d (Q=Q')
  |h'=>Need 21 (e,s,h')
theorem wA {xn:Nat}{Q:AX->AS->Prop}{e:AX}{s:AS}{h:Hn P}(hv:cutK xn Q e s h):∃(s2:AS) (d:CutS),pZ s s2∧CutE s2 xn d∧Q e d.st:=by
 refine Hn.go_elim hv (λ h' hv=>by cases hv) λ h' hv=>?_
 obtain⟨s2,h2,hv,hs⟩:=ju _ _ hv
 split at hv
 ·rename_i e' d rows Q' p
  obtain⟨rfl,hv⟩:=hv;obtain⟨hc,rfl⟩:=iN hv rows;exact⟨s2,d,hs,hc,p⟩
 ·cases hv

def Sf (T:TT)(rs:List ResultVar)(al:Bool)(m n:Nat)(R:D->List Blk->Prop)(e:AX)(s:AS)(h:Hn P):Prop:=
 jc (BY e) (BZ T s rs h λ l h=>h.go (λ h'=>Need 22 h') λ h'=>match h' with
  | .out ks gs r bs R' _=>uk l=rV (λ j=>ks.getD j 0) (λ j=>gs.getD j 0) bs r∧Kq s (λ j=>ks.getD j 0) (λ j=>gs.getD j 0) ks gs bs∧jc (gc ks&&j7 0 m gs&&U5 bs.length n&&U5 ks.length n&&U5 gs.length n) (R=R')
  | .abs _=>True
  |_=>Need 23 (s,l))
def wB (al:Bool)(n:Nat):List Blk->Prop
 |[]=>True
 |b::r=>Nz al n b=true∧wB al n r

theorem qT {al:Bool}{n:Nat}{κ γ:Nat->Nat}{s:AS}:∀{ks gs:List Nat} {bs:List Blk},ks.length=bs.length->gs.length=bs.length->Kq s κ γ ks gs bs->wB al n bs->Fq al n κ γ s ks gs bs
 |[],[],[],_,_,_,_=>trivial
 |k::ks,g::gs,b::bs,h1,h2,h3,h4=>⟨h3.1,h4.1,qT (by simpa using h1) (by simpa using h2) h3.2 h4.2⟩
 |[],_::_,_,h1,h2,_,_=>by simp only[WZ,VE]at h1 h2;omega
 |_::_,[],_,h1,h2,_,_=>by simp only[WZ,VE]at h1 h2;omega
 |[],[],_::_,h1,_,_,_=>by simp at h1
 |_::_,_::_,[],h1,_,_,_=>by simp at h1

mutual
theorem o6 {al:Bool}{κ γ:Nat->Nat}:∀(d:D),nv al 0 d=true->dz κ γ d=d
 | .v _,_=>rfl
 | .sl _ _ _ _,_=>rfl
 | .ep _ _,_=>rfl
 | .agg cs,h=>congrArg D.agg (ib cs h)
 | .tup cs,h=>congrArg V2 (ib cs h)
 | .ifc t x,h=>congrArg (D.ifc t) (o6 x h)
 | .fn f fi ca,h=>by
  have h:(eU al 0 fi&&eU al 0 ca)=true:=h;rw[U9]at h;show D.fn f (gb κ γ fi) (gb κ γ ca)=_;rw[ib fi h.1,ib ca h.2]
 | .ref _ g _ _ _,h=>absurd (Vf h) (YI g)
 | .ptr _ g _,h=>absurd (Vf h) (YI g)
 | .yl _ g,h=>absurd (Vf h) (YI g)
theorem ib {al:Bool}{κ γ:Nat->Nat}:∀(l:List D),eU al 0 l=true->gb κ γ l=l
 |[],_=>rfl
 |d::r,h=>by
  have h:(nv al 0 d&&eU al 0 r)=true:=h;rw[U9]at h;show dz κ γ d::gb κ γ r=_;rw[o6 d h.1,ib r h.2]
end
theorem AH {al:Bool}{κ γ:Nat->Nat}{bs:List Blk}{r:D}(h:nv al bs.length r=true):rV κ γ bs r=dz κ γ r:=by
 cases bs with
 |nil=>exact(o6 r h).symm
 |cons _ _=>rfl
mutual
theorem B1 {al:Bool}{n:Nat}:∀(d:D),d.pl=true->nv al n d=true
 | .v _,_=>rfl
 | .agg cs,h=>ym cs h
 | .ifc _ x,h=>B1 x h
 | .sl ..,h=>by cases h
 | .ep ..,h=>by cases h
 | .tup ..,h=>by cases h
 | .fn ..,h=>by cases h
 | .ref ..,h=>by cases h
 | .ptr ..,h=>by cases h
 | .yl ..,h=>by cases h
theorem ym {al:Bool}{n:Nat}:∀(l:List D),yh l=true->eU al n l=true
 |[],_=>rfl
 |d::r,h=>by
  have h:(d.pl&&yh r)=true:=h;rw[U9]at h;show(nv al n d&&eU al n r)=true;rw[B1 d h.1,ym r h.2];rfl
end
theorem B2 {α:Type}(f:α->D)(h:∀x,(f x).pl=true)(xs:List α):yh (xs.map f)=true:=j6.2 λ d hd=>by
 obtain⟨x,_,rfl⟩:=List.mem_map.1 hd;exact h x
theorem SpecH.run {al:Bool}{T:TT}(hT:T.ok P)(hfol:P.follows .mixedOrders=true){f:FuncId}{fn:Func}{c:Code}{rs:List ResultVar}{ds:List D}{hin:List Blk}{r:D}{bs:List Blk}(hf:P.funcs[f]? =some fn)(hb:fn.body=some c)(hrs:fn.results=⟨rs⟩)
  (hle:U7 hin.length bs.length=true) (hok:wB al bs.length bs) (hro:nv al bs.length r=true) (fuel kb:Nat) (h0:∀R:D->List Blk->Prop,(∀r' bs',r'=r->bs'=bs->R r' bs')->Hn P)
  (hE:xC P T fuel false fn.ntmps hin.length kb c (s0 ds hin) (h0 (λ r' bs'=>r'=r∧bs'=bs) λ _ _ h1 h2=>⟨h1,h2⟩) (Sf T rs al hin.length bs.length λ r' bs'=>r'=r∧bs'=bs)=(h0 (λ r' bs'=>r'=r∧bs'=bs) λ _ _ h1 h2=>⟨h1,h2⟩).T):SpecH al P f ds hin r bs:=by
 obtain⟨h,hh⟩:∃h,h=h0 (λ r' bs'=>r'=r∧bs'=bs) λ _ _ h1 h2=>⟨h1,h2⟩:=⟨_,rfl⟩
 rw[<-hh]at hE;clear hh h0;refine SpecH.of hT hf hb hrs hle ((oZ hT hfol fuel _ _ _ _ _ _ _ _ (hE.mpr h.T_ok)).ex λ e s' h' hv=>?_);obtain⟨he,hv⟩:=bS.1 hv;refine⟨mv he,gh (ll hv) λ l ⟨_,hv⟩=>?_⟩;refine Hn.go_elim hv (λ h' hv=>by cases hv) λ h' hv=>?_
 split at hv
 ·rename_i ks gs r' bs' R' p
  obtain⟨h1,h2,h3⟩:=hv;obtain⟨q3,q4⟩:=bS.1 h3;clear h3;subst q4;obtain⟨rfl,rfl⟩:=p;simp only[U9]at q3;obtain⟨⟨⟨⟨a1,a2⟩,a4⟩,a5⟩,a6⟩:=q3;have a5:=Vc a5;have a6:=Vc a6;exact⟨ks,gs,qT a5 a6 h2 hok,a1,a2,(AH hro).symm.trans h1.symm,hro⟩
 ·rename_i p;exact p.elim
 ·cases hv

def lm (K:AX->AS->Prop):AX->AS->Prop
 | .normal,_=>False
 |e,s=>K e s
theorem AWPl.runLoop {T:TT}(hT:T.ok P)(hfol:P.follows .mixedOrders=true){rd:Bool}{nt xn:Nat}{c:Code}{K:AX->AS->Prop}{ι:Type}(S:ι->CutS)(μ:ι->Nat)(fuel kb:Nat)(h0:∀(i:ι) (Q:AX->AS->Prop),(∀i',μ i'<μ i->Q .normal (S i').st)->(∀e s,lm K e s->Q e s)->Hn P)
  (hE:∀i,xC P T fuel rd nt xn kb c (S i).st (h0 i (λ e s'=>(e= .normal∧∃i',s'=(S i').st∧μ i'<μ i)∨lm K e s') (λ i' hm=>.inl ⟨rfl,i',rfl,hm⟩) λ _ _ hk=>.inr hk) (cutK xn λ e s'=>(e= .normal∧∃i',s'=(S i').st∧μ i'<μ i)∨lm K e s')=
   (h0 i (λ e s'=>(e= .normal∧∃i',s'=(S i').st∧μ i'<μ i)∨lm K e s') (λ i' hm=>.inl ⟨rfl,i',rfl,hm⟩) λ _ _ hk=>.inr hk).T) (i0:ι):AWPl P rd nt xn c (S i0).st K:=
 AWPl.loopI (λ i=>(S i).st) (λ _=>rfl) μ (λ i=>(AWP.cutEndR (Q:=λ e s'=>(e= .normal∧∃i',s'=(S i').st∧μ i'<μ i)∨lm K e s') ((oZ hT hfol fuel _ _ _ _ _ _ _ _ ((hE i).mpr (Hn.T_ok _))).ex λ e s' h' hv=>wA hv)).mono λ e s' hq=>by
  cases e with
  |normal=>
   rcases hq with⟨_,hq⟩|hq
   ·exact hq
   ·exact hq.elim
  |exit id=>
   rcases hq with⟨hq,_⟩|hq
   ·cases hq
   ·exact hq
  |ret=>
   rcases hq with⟨hq,_⟩|hq
   ·cases hq
   ·exact hq) i0
end
def ft:Code->List Code
 | .seq x y=>ft x++ft y
 | .cond _ x y=>ft x++ft y
 | .block _ c=>ft c
 | .scope c=>ft c
 | .loop c=>c::ft c
 | .rangeFunc _ _ a b=>ft a++ft b
 |_=>[]
end Go.Vx
namespace Go.Vx
open Go.RowKit Go.Bw
theorem av {α:Type}{f:α->D}(xs:List α){e:Nat}(d:α)(h:e<xs.length):(xs.map f)[e]? =some (f (xs.getD e d)):=by
 rw[Vu,U4 h,UZ,U4 h];rfl
theorem Sg (cells:List D)(a b:Nat):dW cells a b=(cells.drop a).take b:=jl ..
theorem ff {x:Int}(h:-9223372036854775808<=x∧x<=9223372036854775807):ax .i64 x=some (.v (.int .i64 x)):=by rw[aL,Zp x h]
theorem b4 {x:Int}(h:0<=x∧x<=255):ax .u8 x=some (.v (.int .u8 x)):=by rw[aL,ZS x h]
theorem aE {x:Int}(h:0<=x∧x<=4294967295):ax .u32 x=some (.v (.int .u32 x)):=by rw[aL,Zs x h]
theorem bG {x:Int}(h:0<=x∧x<=18446744073709551615):ax .u64 x=some (.v (.int .u64 x)):=by rw[aL,IntWalk.u64_in x h]
theorem sk {α β:Type}(f:α->β)(xs:List α):(xs.map f).take xs.length=xs.map f:=by rw[<-Vj (f:=f) («as»:=xs),Wd]
theorem Fv {k:IntKind}{m n x:Int}(h:x=min m n):k6 k false m n=some (.v (.int k x)):=by
 rw[rN,cond_false,show(if n<m then n else m)=x by split<;>omega]
theorem Fw {k:IntKind}{m n x:Int}(h:x=max m n):k6 k true m n=some (.v (.int k x)):=by
 rw[rN,cond_true,show(if n>m then n else m)=x by split<;>omega]
theorem At.nilSplit {P:Program}{f:FuncId}{n size sz:Nat}{cells cells':List D}{t:TypeId}(h0:At P f [.v (.slice none 0 0)] (.v (.slice none 0 0)) [])(h1:At P f [.sl true n size cells] (.ref 0 0 0 n sz) [⟨cells',t,true⟩])
  (hc:cells=[]->cells'=[]):At P f [.sl false n size cells] (.ref 0 0 0 n sz) [⟨cells',t,true⟩]:=by
 refine⟨h1.1,λ O φ0 w args hO hhb hinj hl ha=>?_⟩
 cases args with
 |nil=>cases hl
 |cons u r=>
  have hr:r=[]:=VQ (by simpa using hl);subst hr;have hr:=ha 0 _ u rfl rfl
  cases hr with
  |sl _ _ _ _ a c us hlen hd h1' hn hs hcc hnil hr=>
  cases a with
  |none=>
   obtain⟨rfl,_⟩:=hnil rfl;have hn0:n=0:=Nat.le_zero.1 hcc.1;subst hn0;have hcl:cells=[]:=VQ (by rw[hn,WT]);refine(h0.2 O φ0 w [_] hO hhb hinj rfl λ j d u hj hu=>?_).mono ?_
   ·cases j with
    |zero=>simp at hj hu;subst hj hu;exact .v _ rfl
    |succ j=>simp at hj
   ·rintro e w' ⟨u,rfl,hb,φ,_,hrd,_⟩
    refine⟨u,rfl,hb,λ _=>none,λ j hj=>(by cases hj),?_,λ j b hj=>?_,λ i j x _ _ _ h=>(by cases h),λ j x _ _ h=>(by cases h)⟩
    ·cases hrd with
     |v c h=>exact .refn 0 0 sz Xt rfl
    ·cases j with
     |zero=>simp at hj;subst hj;rw[hc hcl];exact⟨⟨Xt,rfl,rfl⟩,λ _=>rfl⟩
     |succ j=>simp at hj
  |some a=>
   refine h1.2 O φ0 w [_] hO hhb hinj rfl λ j d u hj hu=>?_
   cases j with
   |zero=>simp at hj hu;subst hj hu;exact .sl _ _ _ _ _ c us hlen hd h1' hn hs hcc (λ h=>by cases h) hr
   |succ j=>simp at hj
theorem cE {α:Type}(f:α->D)(h:∀x,(f x).closed=true)(xs:List α):ab (xs.map f)=true:=bq.2 λ d hd=>by
 obtain⟨x,_,rfl⟩:=List.mem_map.1 hd;exact h x
def RH:List Ent->List (Nat×Nat)->List Ent
 |e::r,p::l=>⟨e.k',e.g',p.1,p.2,e.o⟩::RH r l
 |r,_=>r
def CutS.re (c:CutS)(l:List (Nat×Nat)):CutS:=⟨c.tm,RH c.es l,c.nx⟩
def aq (P:Program)(f n:Nat):Code:=(ft ((P.funcs[f]?.bind (·.body)).getD .skip)).getD n .skip
def dY:Code->List (Array Tmp×Code×Code)
 | .seq x y=>dY x++dY y
 | .cond _ x y=>dY x++dY y
 | .block _ c=>dY c
 | .scope c=>dY c
 | .loop c=>dY c
 | .rangeFunc _ ps a b=>(ps,a,b)::(dY a++dY b)
 |_=>[]
def rangeAt (P:Program)(f n:Nat):Array Tmp×Code×Code:=(dY ((P.funcs[f]?.bind (·.body)).getD .skip)).getD n (#[],.skip,.skip)
theorem B3:∀(es:List Ent) (l:List (Nat×Nat)),(RH es l).map (λ e=>(e.k',(e.g',e.o.ob)))=es.map λ e=>(e.k',(e.g',e.o.ob))
 |[],[]=>rfl
 |[],_::_=>rfl
 |_::_,[]=>rfl
 |e::r,p::l=>by simp only[RH,WM,B3 r l]
theorem B4 (d:CutS)(l:List (Nat×Nat)):(d.re l).st=d.st:=by unfold CutS.st CutS.re;simp only[B3]
section
variable {P:Program}
def Nx {ι:Type}(S:ι->CutS)(μ:ι->Nat)(Q:AX->AS->Prop)(i:ι):Prop:=∀i',μ i'<μ i->Q .normal (S i').st
def Ug (es:List Endl)(Q:AX->AS->Prop):Prop:=∀e s,lm (uA es) e s->Q e s
def Hn.next {ι:Type}{S:ι->CutS}{Q:AX->AS->Prop}{μ:ι->Nat}{i:ι}(next:Nx S μ Q i)(i':ι)(h:μ i'<μ i)(l:List (Nat×Nat))(rows:iK ((S i').re l)):Hn P:=.cut .normal ((S i').re l) rows Q (by rw[B4];exact next i' h)
def Hn.last {es:List Endl}{Q:AX->AS->Prop}(last:Ug es Q)(n:Nat)(x:(gf es n).κ)(h:hU (gf es n).e=false)(l:List (Nat×Nat))(rows:iK (((gf es n).S x).re l)):Hn P:=
 .cut (gf es n).e (((gf es n).S x).re l) rows Q (by
  rw[B4];refine last _ _ ?_;have hk:=uC es n x
  cases he:(gf es n).e with
  |normal=>rw[he]at h;cases h
  |exit id=>rw[he]at hk;exact hk
  |ret=>rw[he]at hk;exact hk)
def Hn.inl {T:TT}(hT:T.ok P)(hfol:P.follows .mixedOrders=true)(rd:Bool)(nt xn:Nat)(c:Code){ι:Type}(S:ι->CutS)(μ:ι->Nat)(es:List Endl)(fuel kb:Nat)(h0:∀(i:ι) (Q:AX->AS->Prop),Nx S μ Q i->Ug es Q->Hn P)
  (hE:∀i,xC P T fuel rd nt xn kb c (S i).st (h0 i (λ e s'=>(e= .normal∧∃i',s'=(S i').st∧μ i'<μ i)∨lm (uA es) e s') (λ i' hm=>.inl ⟨rfl,i',rfl,hm⟩) λ _ _ hk=>.inr hk) (cutK xn λ e s'=>(e= .normal∧∃i',s'=(S i').st∧μ i'<μ i)∨lm (uA es) e s')=
   (h0 i (λ e s'=>(e= .normal∧∃i',s'=(S i').st∧μ i'<μ i)∨lm (uA es) e s') (λ i' hm=>.inl ⟨rfl,i',rfl,hm⟩) λ _ _ hk=>.inr hk).T) (i0:ι) (l:List (Nat×Nat)) (rows:iK ((S i0).re l)) (hs:(i:Nat)->(gf es i).κ->Hn P):Hn P:=
 .loopE rd nt xn c ((S i0).re l) rows es (by rw[B4];exact AWPl.runLoop hT hfol S μ fuel kb h0 hE i0) hs
def ck {e:Endl}(h:e.κ->Hn P):(i:Nat)->(gf [e] i).κ->Hn P
 |0,x=>h x
 |_+1,x=>nomatch x
def gu {e1 e2:Endl}(h1:e1.κ->Hn P)(h2:e2.κ->Hn P):(i:Nat)->(gf [e1,e2] i).κ->Hn P
 |0,x=>h1 x
 |1,x=>h2 x
 |_+2,x=>nomatch x
def tR {e1 e2 e3:Endl}(h1:e1.κ->Hn P)(h2:e2.κ->Hn P)(h3:e3.κ->Hn P):(i:Nat)->(gf [e1,e2,e3] i).κ->Hn P
 |0,x=>h1 x
 |1,x=>h2 x
 |2,x=>h3 x
 |_+3,x=>nomatch x
def HH {e1 e2 e3 e4:Endl}(h1:e1.κ->Hn P)(h2:e2.κ->Hn P)(h3:e3.κ->Hn P)(h4:e4.κ->Hn P):(i:Nat)->(gf [e1,e2,e3,e4] i).κ->Hn P
 |0,x=>h1 x
 |1,x=>h2 x
 |2,x=>h3 x
 |3,x=>h4 x
 |_+4,x=>nomatch x
end
end Go.Vx
namespace Go.Vx
open Go.RowKit Go.Bw
theorem aQ {k:IntKind}{v r:Int}(h:v=r):bY k v=some (.v (.int k r)):=by rw[dm,h]
theorem j9 (n:Nat)(x:Int)(hx:0<=x):Vb n x=BitVec.ofNat n x.toNat:=by
 obtain⟨m,rfl⟩:=Int.eq_ofNat_of_zero_le hx;simp
theorem yn {n:Nat}{x y:Int}(hx:0<=x∧x.toNat<2^n)(hy:0<=y∧y.toNat<2^n):(Vb n x|||Vb n y).toNat=x.toNat|||y.toNat:=by
 rw[j9 n x hx.1,j9 n y hy.1,BitVec.toNat_or,Yk,Yk,Wq hx.2,Wq hy.2]
theorem o8 {n:Nat}{x y:Int}(hx:0<=x∧x.toNat<2^n)(hy:0<=y∧y.toNat<2^n):(Vb n x&&&Vb n y).toNat=x.toNat&&&y.toNat:=by
 rw[j9 n x hx.1,j9 n y hy.1,BitVec.toNat_and,Yk,Yk,Wq hx.2,Wq hy.2]
theorem ee {x y:Int}(h:0<=x):x.tmod y=x%y:=Int.tmod_eq_emod_of_nonneg h
theorem iO {x y:Int}(h:0<=y):x.fdiv y=x/y:=Int.fdiv_eq_ediv_of_nonneg x h
theorem Kr {x y:Nat}(m:Nat)(hx:x%2^m=0)(hy:y<2^m):x|||y=x+y:=by
 have e:x=2^m*(x/2^m):=by have:=Nat.div_add_mod x (2^m);omega
 rw[e,<-Nat.two_pow_add_eq_or_of_lt hy]
theorem uH {x y:Int}(hx:0<=x∧x<=255)(hy:0<=y∧y<=255):Vo .u8 ((Vb 8 x|||Vb 8 y).toNat:Int)=((x.toNat|||y.toNat:Nat):Int):=by
 rw[yn ⟨hx.1,by omega⟩ ⟨hy.1,by omega⟩];have:x.toNat|||y.toNat<2^8:=aab (by omega) (by omega)
 exact ZS _ (by omega)
theorem AI {x y:Int}(hx:0<=x∧x<=255)(hy:0<=y∧y<=255):Vo .u8 ((Vb 8 x&&&Vb 8 y).toNat:Int)=((x.toNat&&&y.toNat:Nat):Int):=by
 rw[o8 ⟨hx.1,by omega⟩ ⟨hy.1,by omega⟩];have:x.toNat&&&y.toNat<=x.toNat:=Zg;exact ZS _ (by omega)
theorem wC (m:Nat)(N:Int){x y:Int}(hx:0<=x∧x<=255)(hy:0<=y∧y<=255)(hN:y+1=N)(hm:((2^m:Nat):Int)=N):Vo .u8 ((Vb 8 x&&&Vb 8 y).toNat:Int)=x%N:=by
 rw[AI hx hy,show y.toNat=2^m-1 from by omega,XO,<-hm];rw[Yy,WS hx.1]
theorem uJ (m:Nat)(N:Int){x y:Int}(hx:0<=x∧x<=255)(hy:0<=y∧y<=255)(hm:((2^m:Nat):Int)=N)(h1:x%N=0)(h2:y<N):Vo .u8 ((Vb 8 x|||Vb 8 y).toNat:Int)=x+y:=by
 rw[uH hx hy,Kr m (by have e:=congrArg AB h1;rw[<-hm,<-WS hx.1,<-Yy,Int.toNat_natCast]at e;exact e) (by omega)];omega
theorem qU {x y:Int}(hx:0<=x∧x<=4294967295)(hy:0<=y∧y<=4294967295):Vo .u32 ((Vb 32 x|||Vb 32 y).toNat:Int)=((x.toNat|||y.toNat:Nat):Int):=by
 rw[yn ⟨hx.1,by omega⟩ ⟨hy.1,by omega⟩];have:x.toNat|||y.toNat<2^32:=aab (by omega) (by omega)
 exact Zs _ (by omega)
theorem wD {x y:Int}(hx:0<=x∧x<=4294967295)(hy:0<=y∧y<=4294967295):Vo .u32 ((Vb 32 x&&&Vb 32 y).toNat:Int)=((x.toNat&&&y.toNat:Nat):Int):=by
 rw[o8 ⟨hx.1,by omega⟩ ⟨hy.1,by omega⟩];have:x.toNat&&&y.toNat<=x.toNat:=Zg;exact Zs _ (by omega)
theorem nd (m:Nat)(N:Int){x y:Int}(hx:0<=x∧x<=4294967295)(hy:0<=y∧y<=4294967295)(hN:y+1=N)(hm:((2^m:Nat):Int)=N):Vo .u32 ((Vb 32 x&&&Vb 32 y).toNat:Int)=x%N:=by
 rw[wD hx hy,show y.toNat=2^m-1 from by omega,XO,<-hm];rw[Yy,WS hx.1]
theorem wE {x y:Int}(hx:0<=x∧x<=18446744073709551615)(hy:0<=y∧y<=18446744073709551615):Vo .u64 ((Vb 64 x&&&Vb 64 y).toNat:Int)=((x.toNat&&&y.toNat:Nat):Int):=by
 rw[o8 ⟨hx.1,by omega⟩ ⟨hy.1,by omega⟩];have:x.toNat&&&y.toNat<=x.toNat:=Zg;exact IntWalk.u64_in _ (by omega)
theorem nf (m:Nat)(N:Int){x y:Int}(hx:0<=x∧x<=18446744073709551615)(hy:0<=y∧y<=18446744073709551615)(hN:y+1=N)(hm:((2^m:Nat):Int)=N):Vo .u64 ((Vb 64 x&&&Vb 64 y).toNat:Int)=x%N:=by
 rw[wE hx hy,show y.toNat=2^m-1 from by omega,XO,<-hm];rw[Yy,WS hx.1]
theorem cF {x y:Int}(hx:0<=x∧x<=9223372036854775807)(hy:0<y):Vo .i64 (x.tdiv y)=x/y:=by
 rw[Int.tdiv_eq_ediv_of_nonneg hx.1];have h1:=Int.ediv_nonneg hx.1 (Int.le_of_lt hy);have h2:=Int.ediv_le_self y hx.1;exact Zp _ (by omega)
end Go.Vx
namespace Go.Vx
open Go.RowKit Go.Bw
theorem aB {A B:List D}{e:TypeId}{r:Bool}(h:A=B):U1 A e r=U1 B e r:=by rw[h]
theorem D.sim.slN {nn:Bool}{n n' sz:Nat}{cells cells':List D}(h1:n=n')(h2:cells=cells'):(Vl nn n sz cells).sim (.sl nn n' sz cells'):=by rw[h1,h2];exact D.sim.refl _
theorem bW {α:Type}{c:Bool}{a b:α}(h:c=true):cond c a b=a:=by rw[h];rfl
theorem jv (k:IntKind)(m n:Int):k6 k true m n=some (.v (.int k (max m n))):=Fw rfl
theorem gE {b:Bool}(h:(!b)=true):b=false:=by cases b<;>simp_all
theorem gF {b:Bool}(h:(!b)=false):b=true:=by cases b<;>simp_all
theorem Ks {a b:Bool}(h:(a&&b)=true):a=true:=by cases a<;>simp_all
theorem Kt {a b:Bool}(h:(a&&b)=true):b=true:=by cases a<;>simp_all
theorem aI {a b:Bool}(h1:a=true)(h2:b=true):(a&&b)=true:=by rw[h1,h2];rfl
theorem fw {a b:Nat}(h:a=b):U5 a b=true:=by rw[h];exact Wo b
theorem iP (b:UInt8){m n:Int}(hm:m<=0)(hn:255<=n):m<=(b.toNat:Int)∧(b.toNat:Int)<=n:=by
 have:=b.toNat_lt;constructor<;>omega
theorem aR {k:IntKind}{a b:Int}(h:a=b):D.v (.int k a)=D.v (.int k b):=by rw[h]
theorem o9 {α:Type}[Inhabited α]{l:List α}{i:Nat}(h:i<l.length):l.take (i+1)=l.take i++[l.getD i mq]:=by
 rw[List.take_add_one,U4 h];simp[h]
theorem ka {l:List D}(h:ab l=true)(n:Nat):ab (l.take n)=true:=bq.2 λ d hd=>bq.1 h d (List.mem_of_mem_take hd)
theorem yo {l:List D}(h:ab l=true)(n:Nat):ab (l.drop n)=true:=bq.2 λ d hd=>bq.1 h d (List.mem_of_mem_drop hd)
theorem ND (bs:Z1)(n:Nat):ab ((bs.map dB).take n)=true:=ka (cR bs) n
theorem NE (bs:Z1)(n:Nat):ab ((bs.map dB).drop n)=true:=yo (cR bs) n
theorem lq (c:Bool)(a b:List D):ab (cond c a b)=cond c (ab a) (ab b):=by cases c<;>rfl
theorem B5 (a b:List D):ab (a++b)=(ab a&&ab b):=by
 induction a with
 |nil=>rfl
 |cons x a ih=>show(x.closed&&ab (a++b))=_;rw[ih,<-Bool.and_assoc];rfl
theorem cS {α:Type}[BEq α][LawfulBEq α]{a b:α}(h:(a !=b)=true):a≠b:=by simpa using h
theorem cT {α:Type}[BEq α][LawfulBEq α]{a b:α}(h:(a !=b)=false):a=b:=by simpa using h
theorem ap {α:Type}[BEq α][LawfulBEq α]{a b:α}(h:(a==b)=false):a≠b:=by simpa using h
theorem ic (l:Z1):(WU l.toArray).toList=l:=by rw[ByteArray.toList_eq]
theorem AJ (a b:Z1):WU a.toArray++WU b.toArray=WU (a++b).toArray:=by
 apply ByteArray.ext;simp
theorem Fx (a:Z1):(WU a.toArray).size=a.length:=rfl
theorem wF {α:Type}[Inhabited α]{f:α->List D}{k:Nat}(hk:∀x,(f x).length=k):∀{xs:List α} {i j:Nat},i<xs.length->j<k->(xs.flatMap f)[i*k+j]? =(f (xs.getD i mq))[j]?
 |[],i,j,h,_=>by simp at h
 |x::xs,0,j,h,hj=>by
  rw[Wf,WT,VK,List.getElem?_append_left (by rw[hk];exact hj)];rfl
 |x::xs,i+1,j,h,hj=>by
  rw[Wf,List.getElem?_append_right (by rw[hk,Wt];omega),hk];have e:(i+1)*k+j-k=i*k+j:=by rw[Wt];omega
  rw[e,wF hk (by simpa using h) hj];rfl
theorem HI {α:Type}[Inhabited α]{f:α->List D}{k:Nat}(hk:∀x,(f x).length=k){xs:List α}{i n j:Nat}{d:D}(h:i<xs.length)(e:n=i*k+j)(hj:(f (xs.getD i mq))[j]? =some d):(xs.flatMap f)[n]? =some d:=by
 have hlt:j<k:=by rw[<-hk (xs.getD i mq)];exact(List.getElem?_eq_some_iff.1 hj).1
 rw[e,wF hk h hlt];exact hj
theorem ba {α:Type}{f:α->List D}{k:Nat}(hk:∀x,(f x).length=k):∀(xs:List α),(xs.flatMap f).length=xs.length*k
 |[]=>by simp
 |x::xs=>by rw[Wf,U2,hk,ba hk xs,VE,Wt];omega
theorem aD {α:Type}[Inhabited α]{f:α->List D}{k:Nat}(hk:∀x,(f x).length=k){xs:List α}{i n:Nat}(h:i<xs.length)(e:n=i*k):((xs.flatMap f).drop n).take k=f (xs.getD i mq):=by
 apply List.ext_getElem?;intro j;rw[List.getElem?_take]
 by_cases hj:j<k
 ·rw[ZF hj,List.getElem?_drop,e,wF hk h hj]
 ·rw[ZE hj,List.getElem?_eq_none (by rw[hk];omega)]
theorem bj (bs:Z1)(off m:Nat):(bif U5 off 0&&U5 m (bs.map dB).length then bs.map dB else((bs.map dB).drop off).take m)=((bs.drop off).take m).map dB:=by
 cases h:U5 off 0&&U5 m (bs.map dB).length with
 |true=>
  have h1:=Vc (Ks h);have h2:=Vc (Kt h);subst h1 h2;simp
 |false=>rw[cond_false,List.map_take,List.map_drop]
theorem D.sim.nil {sz:Nat}(h:0<sz):(D.v (.slice none 0 0)).sim (.sl false 0 sz []):=λ E w u hr=>by
 cases hr with
 |v=>exact .sl false 0 sz [] none 0 [] rfl (by simp) (by simp) (by simp) h ⟨Vd _,VI _⟩ (λ _=>⟨rfl,rfl⟩) (.inl rfl)
theorem D.sim.slc {nn:Bool}{n n' sz:Nat}{cells cells':List D}(h1:n=n')(h2:cQ cells cells'):(Vl nn n sz cells).sim (.sl false n' sz cells'):=by
 subst h1;intro E w u h;obtain⟨e,g⟩:=h2.get
 cases h with
 |sl _ _ _ _ a c us hlen hd h1 hn hs hc h0 hr=>
  refine .sl false n sz cells' a c us (by rw[hlen,e]) (λ i d' u a1 a2=>?_) h1 (by rw[<-e,hn]) hs hc (λ h=>⟨(h0 h).1,rfl⟩) hr;obtain⟨d,b1,b2⟩:=g i d' a1;exact b2 _ _ _ (hd i d u b1 a2)
theorem fO {α:Type}{f:α->List D}(h:∀x,ab (f x)=true):∀l:List α,ab (l.flatMap f)=true
 |[]=>rfl
 |x::l=>by rw[Wf,B5,h x,fO h l];rfl
theorem gi {α:Type}{f:α->List D}(h:∀x,yh (f x)=true)(l:List α):yh (l.flatMap f)=true:=j6.2 λ d hd=>by
 obtain⟨t,_,hd⟩:=List.mem_flatMap.1 hd;exact j6.1 (h t) d hd
theorem yp {α:Type}{f:α->List D}{k:Nat}(hk:∀x,(f x).length=k):∀(xs:List α) (i:Nat),(xs.flatMap f).take (i*k)=(xs.take i).flatMap f
 |[],i=>by simp
 |x::xs,0=>by simp
 |x::xs,i+1=>by
  rw[Wf,List.take_succ_cons,Wf,List.take_append,hk,List.take_of_length_le (by rw[hk,Wt];omega),show(i+1)*k-k=i*k from by rw[Wt];omega,yp hk xs i]
theorem nT {α:Type}{f:α->List D}{c:List α}{l:List D}{t:α}{y:TypeId}{r:Bool}(h:l=f t):(⟨c.flatMap f++l,y,r⟩:Blk)=⟨(c++[t]).flatMap f,y,r⟩:=by rw[h,List.flatMap_append];simp
theorem NF (b:UInt8):(dB b).closed=true:=rfl
attribute [simp] ic AJ Fx
attribute [simp] dg iy An nP aU du bi oy T9 Ua Sg ab D.closed cR ND NE lq B5 ka yo fO NF dJ bX sk
end Go.Vx
namespace Go.Proofs.YtefjnofhgkjpmaaGreat
open Go.Vx

def Uh:TI:=⟨.int .i64,.int .i64 0,1,8,false⟩
def Ui:TI:=⟨.int .i64,.int .i64 0,1,8,false⟩
def Uj:TI:=⟨.bool,.bool false,1,1,false⟩
def Fy:TI:=⟨.int .u8,.int .u8 0,1,1,false⟩
def Uk:TI:=⟨.string,.string ⟨#[]⟩,1,16,false⟩
def NG:TI:=⟨.int .u64,.int .u64 0,1,8,false⟩
def NH:TI:=⟨.pointer 302,.pointer none,1,8,false⟩
def NI:TI:=⟨.pointer 305,.pointer none,1,8,false⟩
def NJ:TI:=⟨.pointer 313,.pointer none,1,8,false⟩
def NK:TI:=⟨.interface #[],.nilIface,1,16,false⟩
def NL:TI:=⟨.int .i32,.int .i32 0,1,4,false⟩
def NM:TI:=⟨.struct #[⟨"Size",3,0,false, "", "",0⟩,⟨"Chain",3,1,false, "", "",8⟩,⟨"Most",3,2,false, "", "",16⟩,⟨"Lazy",4,3,false, "", "",24⟩],.agg #[.int .i64 0,.int .i64 0,.int .i64 0,.bool false],4,32,true⟩
def NN:TI:=⟨.struct #[⟨"Size",3,0,false, "", "",0⟩,⟨"Chain",3,1,false, "", "",8⟩,⟨"Most",3,2,false, "", "",16⟩,⟨"Lazy",4,3,false, "", "",24⟩],.agg #[.int .i64 0,.int .i64 0,.int .i64 0,.bool false],4,32,true⟩
def NO:TI:=⟨.slice 5,.slice none 0 0,1,24,false⟩
def NP:TI:=⟨.struct #[⟨"Bytes",24,0,false, "", "",0⟩,⟨"Bits",3,1,false, "", "",24⟩],.agg #[.slice none 0 0,.int .i64 0],2,32,false⟩
def NQ:TI:=⟨.struct #[⟨"Bytes",24,0,false, "", "",0⟩,⟨"Bits",3,1,false, "", "",24⟩],.agg #[.slice none 0 0,.int .i64 0],2,32,false⟩
def NR:TI:=⟨.struct #[⟨"Style",23,0,false, "", "",0⟩,⟨"Hist",24,4,false, "", "",32⟩,⟨"Wait",24,5,false, "", "",56⟩,⟨"Pen",26,6,false, "", "",80⟩,⟨"Over",4,8,false, "", "",112⟩],.agg #[.int .i64 0,.int .i64 0,.int .i64 0,.bool false,.slice none 0 0,.slice none 0 0,.slice none 0 0,.int .i64 0,.bool false],9,120,false⟩
def NS:TI:=⟨.struct #[⟨"Style",23,0,false, "", "",0⟩,⟨"Hist",24,4,false, "", "",32⟩,⟨"Wait",24,5,false, "", "",56⟩,⟨"Pen",26,6,false, "", "",80⟩,⟨"Over",4,8,false, "", "",112⟩],.agg #[.int .i64 0,.int .i64 0,.int .i64 0,.bool false,.slice none 0 0,.slice none 0 0,.slice none 0 0,.int .i64 0,.bool false],9,120,false⟩
def NT:TI:=⟨.int .i64,.int .i64 0,1,8,false⟩
def NU:TI:=⟨.struct #[⟨"Flush",4,0,false, "", "",0⟩,⟨"Text",24,1,false, "", "",8⟩],.agg #[.bool false,.slice none 0 0],2,32,false⟩
def NV:TI:=⟨.pointer 68,.pointer none,1,8,false⟩
def NW:TI:=⟨.struct #[⟨"Press",28,0,true, "", "",0⟩,⟨"out",24,9,false, "", "bellows/press",120⟩],.agg #[.int .i64 0,.int .i64 0,.int .i64 0,.bool false,.slice none 0 0,.slice none 0 0,.slice none 0 0,.int .i64 0,.bool false,.slice none 0 0],10,144,false⟩
def NX:TI:=⟨.struct #[⟨"Press",28,0,true, "", "",0⟩,⟨"out",24,9,false, "", "bellows/press",120⟩],.agg #[.int .i64 0,.int .i64 0,.int .i64 0,.bool false,.slice none 0 0,.slice none 0 0,.slice none 0 0,.int .i64 0,.bool false,.slice none 0 0],10,144,false⟩
def NY:TI:=⟨.slice 119,.slice none 0 0,1,24,false⟩
def NZ:TI:=⟨.pointer 95,.pointer none,1,8,false⟩
def N0:TI:=⟨.struct #[⟨"b",24,0,false, "", "bellows/plain",0⟩,⟨"at",3,1,false, "", "bellows/plain",24⟩,⟨"e",31,2,false, "", "bellows/plain",32⟩],.agg #[.slice none 0 0,.int .i64 0,.int .i64 0],3,40,false⟩
def HJ:TI:=⟨.pointer 123,.pointer none,1,8,false⟩
def HK:TI:=⟨.slice 64,.slice none 0 0,1,24,false⟩
def HL:TI:=⟨.struct #[⟨"Lit",5,0,false, "", "",0⟩,⟨"Dist",3,1,false, "", "",8⟩,⟨"Long",3,2,false, "", "",16⟩],.agg #[.int .u8 0,.int .i64 0,.int .i64 0],3,24,true⟩
def HM:TI:=⟨.struct #[⟨"Lit",5,0,false, "", "",0⟩,⟨"Dist",3,1,false, "", "",8⟩,⟨"Long",3,2,false, "", "",16⟩],.agg #[.int .u8 0,.int .i64 0,.int .i64 0],3,24,true⟩
def HN:TI:=⟨.slice 126,.slice none 0 0,1,24,false⟩
def HO:TI:=⟨.struct #[⟨"l",121,0,false, "", "bellows/block",0⟩],.agg #[.slice none 0 0],1,24,false⟩
def HP:TI:=⟨.int .u32,.int .u32 0,1,4,false⟩
def HQ:TI:=⟨.struct #[⟨"v",124,0,false, "", "bellows/block",0⟩,⟨"n",3,1,false, "", "bellows/block",8⟩],.agg #[.int .u32 0,.int .i64 0],2,16,true⟩
def HR:TI:=⟨.array 3 5,.agg #[.int .u8 0,.int .u8 0,.int .u8 0],3,3,true⟩
def HS:TI:=⟨.slice 24,.slice none 0 0,1,24,false⟩
def HT:TI:=⟨.array 16 3,.agg #[.int .i64 0,.int .i64 0,.int .i64 0,.int .i64 0,.int .i64 0,.int .i64 0,.int .i64 0,.int .i64 0,.int .i64 0,.int .i64 0,.int .i64 0,.int .i64 0,.int .i64 0,.int .i64 0,.int .i64 0,.int .i64 0],16,128,true⟩
def HU:TI:=⟨.slice 3,.slice none 0 0,1,24,false⟩
def HV:TI:=⟨.struct #[⟨"Count",151,0,false, "", "",0⟩,⟨"Syms",152,16,false, "", "",128⟩],.agg #[.int .i64 0,.int .i64 0,.int .i64 0,.int .i64 0,.int .i64 0,.int .i64 0,.int .i64 0,.int .i64 0,.int .i64 0,.int .i64 0,.int .i64 0,.int .i64 0,.int .i64 0,.int .i64 0,.int .i64 0,.int .i64 0,.slice none 0 0],17,152,false⟩
def HW:TI:=⟨.struct #[⟨"Kind",5,0,false, "", "",0⟩,⟨"Last",4,1,false, "", "",1⟩,⟨"Left",3,2,false, "", "",8⟩,⟨"Longs",154,3,false, "", "",16⟩,⟨"Fars",154,20,false, "", "",168⟩],.agg #[.int .u8 0,.bool false,.int .i64 0,.int .i64 0,.int .i64 0,.int .i64 0,.int .i64 0,.int .i64 0,.int .i64 0,.int .i64 0,.int .i64 0,.int .i64 0,.int .i64 0,.int .i64 0,.int .i64 0,.int .i64 0,.int .i64 0,.int .i64 0,.int .i64 0,.slice none 0 0,.int .i64 0,.int .i64 0,.int .i64 0,.int .i64 0,.int .i64 0,.int .i64 0,.int .i64 0,.int .i64 0,.int .i64 0,.int .i64 0,.int .i64 0,.int .i64 0,.int .i64 0,.int .i64 0,.int .i64 0,.int .i64 0,.slice none 0 0],37,320,false⟩
def HX:TI:=⟨.pointer 163,.pointer none,1,8,false⟩
def HY:TI:=⟨.struct #[⟨"Pen",26,0,true, "", "",0⟩],.agg #[.slice none 0 0,.int .i64 0],2,32,false⟩
def HZ:TI:=⟨.struct #[⟨"Lit",5,0,false, "", "",0⟩,⟨"Dist",3,1,false, "", "",8⟩,⟨"Long",3,2,false, "", "",16⟩],.agg #[.int .u8 0,.int .i64 0,.int .i64 0],3,24,true⟩
def H1:TI:=⟨.array 286 3,.agg (YK 286 (.int .i64 0)),286,2288,true⟩
def H2:TI:=⟨.array 30 3,.agg #[.int .i64 0,.int .i64 0,.int .i64 0,.int .i64 0,.int .i64 0,.int .i64 0,.int .i64 0,.int .i64 0,.int .i64 0,.int .i64 0,.int .i64 0,.int .i64 0,.int .i64 0,.int .i64 0,.int .i64 0,.int .i64 0,.int .i64 0,.int .i64 0,.int .i64 0,.int .i64 0,.int .i64 0,.int .i64 0,.int .i64 0,.int .i64 0,.int .i64 0,.int .i64 0,.int .i64 0,.int .i64 0,.int .i64 0,.int .i64 0],30,240,true⟩
def H6:TI:=⟨.slice 187,.slice none 0 0,1,24,false⟩
def H7:TI:=⟨.array 19 3,.agg #[.int .i64 0,.int .i64 0,.int .i64 0,.int .i64 0,.int .i64 0,.int .i64 0,.int .i64 0,.int .i64 0,.int .i64 0,.int .i64 0,.int .i64 0,.int .i64 0,.int .i64 0,.int .i64 0,.int .i64 0,.int .i64 0,.int .i64 0,.int .i64 0,.int .i64 0],19,152,true⟩
def H8:TI:=⟨.struct #[⟨"Sym",3,0,false, "", "",0⟩,⟨"Extra",3,1,false, "", "",8⟩],.agg #[.int .i64 0,.int .i64 0],2,16,true⟩
def H9:TI:=⟨.slice 210,.slice none 0 0,1,24,false⟩
def Ia:TI:=⟨.func #[3] #[3,3] false,.nilFunc,1,8,false⟩
def Ib:TI:=⟨.int .u64,.int .u64 0,1,8,false⟩
def yq:TI:=⟨.struct #[⟨"Bits",124,0,false, "", "",0⟩,⟨"Long",5,1,false, "", "",4⟩],.agg #[.int .u32 0,.int .u8 0],2,8,true⟩
def Ic:TI:=⟨.int .u64,.int .u64 0,1,8,false⟩
def Ie:TI:=⟨.slice 225,.slice none 0 0,1,24,false⟩
def yr:TI:=⟨.slice 231,.slice none 0 0,1,24,false⟩
def If:TI:=⟨.struct #[⟨"weight",3,0,false, "", "bellows/build",0⟩,⟨"pair",4,1,false, "", "bellows/build",8⟩],.agg #[.int .i64 0,.bool false],2,16,true⟩
def Ig:TI:=⟨.array 17 124,.agg #[.int .u32 0,.int .u32 0,.int .u32 0,.int .u32 0,.int .u32 0,.int .u32 0,.int .u32 0,.int .u32 0,.int .u32 0,.int .u32 0,.int .u32 0,.int .u32 0,.int .u32 0,.int .u32 0,.int .u32 0,.int .u32 0,.int .u32 0],17,68,true⟩
def Ih:TI:=⟨.struct #[⟨"bits",3,0,false, "", "bellows/reach",0⟩,⟨"least",3,1,false, "", "bellows/reach",8⟩,⟨"many",3,2,false, "", "bellows/reach",16⟩],.agg #[.int .i64 0,.int .i64 0,.int .i64 0],3,24,true⟩
def Ii:TI:=⟨.slice 248,.slice none 0 0,1,24,false⟩
def Ij:TI:=⟨.struct #[⟨"first",3,0,false, "", "bellows/reach",0⟩,⟨"symbols",250,1,false, "", "bellows/reach",8⟩],.agg #[.int .i64 0,.slice none 0 0],2,32,false⟩
def Ik:TI:=⟨.struct #[⟨"t",154,0,false, "", "bellows/tree",0⟩,⟨"n",3,17,false, "", "bellows/tree",152⟩,⟨"code",3,18,false, "", "bellows/tree",160⟩,⟨"first",3,19,false, "", "bellows/tree",168⟩,⟨"place",3,20,false, "", "bellows/tree",176⟩],.agg #[.int .i64 0,.int .i64 0,.int .i64 0,.int .i64 0,.int .i64 0,.int .i64 0,.int .i64 0,.int .i64 0,.int .i64 0,.int .i64 0,.int .i64 0,.int .i64 0,.int .i64 0,.int .i64 0,.int .i64 0,.int .i64 0,.slice none 0 0,.int .i64 0,.int .i64 0,.int .i64 0,.int .i64 0],21,184,false⟩
def Il:TI:=⟨.slice 291,.slice none 0 0,1,24,false⟩
def Im:TI:=⟨.struct #[⟨"Weight",3,0,false, "", "",0⟩,⟨"Of",152,1,false, "", "",8⟩],.agg #[.int .i64 0,.slice none 0 0],2,32,false⟩
def Tl:List (Nat×TI):=[(2,Uh),(3,Ui),(4,Uj),(5,Fy),(9,Uk),(12,NG),(15,NH),(16,NI),(17,NJ),(20,NK),(21,NL),(22,NM),(23,NN),(24,NO),(25,NP),(26,NQ),(27,NR),(28,NS),(31,NT),(55,NU),(64,NV),(67,NW),(68,NX),(82,NY),(90,NZ),(95,N0),(105,HJ),(111,HK),(118,HL),(119,HM),(121,HN),(123,HO),(124,HP),(126,HQ),(129,HR),(149,HS),(151,HT),(152,HU),(154,HV),(156,HW),(161,HX),(163,HY),(175,HZ),(176,H1),(177,H2),(182,H6),(185,H7),(187,H8),(189,H9),(196,Ia),(204,Ib),(210,yq),(217,Ic),(224,Ie),(225,yr),(231,If),(234,Ig),(248,Ih),(250,Ii),(252,Ij),(282,Ik),(286,Il),(291,Im)]
def T:TT:=(.n (.n (.n (.n (.n (.n .e (some NT) (.n .e (some N0) .e)) (some NH) (.n .e none (.n (.n .e (some HZ) .e) (some HK) .e))) none (.n (.n .e none (.n .e none (.n .e (some If) .e))) (some NN) (.n (.n (.n .e (some HT) .e) none .e) (some NU) (.n .e (some HM) .e)))) (some Ui) (.n (.n (.n (.n .e (some NW) .e) none (.n (.n (.n .e (some Im) .e) (some HY) .e) none .e)) none .e) none (.n .e (some NR) (.n .e none (.n (.n .e (some H8) .e) (some HO) .e))))) none (.n (.n (.n (.n (.n (.n .e (some HR) .e) none .e) none (.n (.n .e (some HX) .e) none (.n .e (some yr) .e))) (some NJ) (.n .e none (.n (.n .e (some H2) .e) none .e))) (some Uk) (.n (.n .e none (.n .e (some HJ) .e)) (some NP) (.n (.n .e none (.n .e (some Ic) .e)) none (.n (.n .e (some H7) .e) (some HN) .e)))) (some Fy) (.n (.n .e (some NL) (.n (.n (.n .e (some HS) .e) none .e) none .e)) none (.n .e none (.n .e none (.n (.n .e (some H9) .e) none .e)))))) none (.n (.n (.n (.n (.n (.n .e (some NV) .e) none (.n .e none (.n .e (some Ie) .e))) (some NI) (.n .e none (.n (.n .e (some H1) .e) none .e))) none (.n .e (some NO) (.n (.n (.n .e (some HU) .e) none .e) none (.n .e none (.n .e (some Ih) .e))))) (some Uj) (.n (.n (.n (.n .e (some NX) (.n .e (some Ia) .e)) none .e) (some NK) .e) (some NG) (.n (.n (.n .e none (.n .e (some Ib) .e)) none .e) (some NS) (.n (.n (.n .e (some HW) .e) none .e) none (.n .e (some HP) (.n .e (some Ij) .e)))))) (some Uh) (.n (.n (.n .e none (.n (.n .e (some NY) (.n .e (some yq) .e)) none .e)) none (.n (.n .e none (.n .e none (.n .e (some Ig) .e))) (some NQ) (.n (.n (.n (.n .e (some Ik) .e) (some HV) .e) (some NZ) .e) none (.n .e none (.n .e (some Ii) .e))))) none (.n (.n .e (some NM) (.n .e none (.n (.n .e (some H6) .e) (some HL) .e))) none (.n .e none (.n (.n (.n (.n .e (some Il) .e) none .e) none .e) none (.n .e (some HQ) .e)))))))
set_option maxRecDepth 100000 in
theorem T_ok:TT.ok Tryz.prog T:=by
 refine TT.ok_ofL (l:=Tl) ?_ (by kernel_rfl)
 repeat(first|refine⟨R8 (by kernel_rfl) (by kernel_rfl) rfl,?_⟩|refine⟨NA (by kernel_rfl) (by kernel_rfl) rfl (by kernel_rfl) (by kernel_rfl) (by kernel_rfl),?_⟩)
 trivial
theorem ah:Tryz.prog.follows .mixedOrders=true:=by kernel_rfl
open Go.RowKit Go.Bw
abbrev zN (n:Nat):D:=.v (.int .i64 (n:Int))
abbrev zI (x:Int):D:=.v (.int .i64 x)
abbrev zS:D:=.v (.slice none 0 0)
abbrev ak (n:Nat):D:=.v (.int .u32 (n:Int))
abbrev bl (n:Nat):D:=.v (.int .u8 (n:Int))
abbrev uI (x:Int):D:=.v (.int .u32 x)
abbrev bI (x:Int):D:=.v (.int .u8 x)
theorem B6 {p:Prop}[Decidable p](h:decide p=true):p:=of_decide_eq_true h
theorem B7 {p:Prop}[Decidable p](h:decide p=false):¬p:=of_decide_eq_false h
def _root_.Go.Vx.Hn.cl {P:Program}(f:FuncId)(al:Bool)(fp:List Nat){q hin:_}{r:D}{bs:List Blk}(h:CallOk al P f q hin r bs)(nx:Hn P):Hn P:=.call f al fp true rfl q q (cQ.refl q) true rfl hin r bs h nx
def _root_.Go.Vx.Hn.op {P:Program}(x:Int)(h:-9223372036854775808<=x∧x<=9223372036854775807)(nx:Hn P):Hn P:=.opt (ax .i64 x) (.v (.int .i64 x)) (ff h) nx
def _root_.Go.Vx.Hn.bd {P:Program}(p:Prop)[Decidable p](f:decide p=true->p->Hn P)(g:decide p=false->¬p->Hn P):Hn P:=.br (decide p) (λ h=>f h (of_decide_eq_true h)) (λ h=>g h (of_decide_eq_false h))
theorem qr {d:D}{p:Prop}(h:p):D.sim d d∧p:=⟨.refl _,h⟩
theorem kr {p:Prop}(h:p:=by kernel_rfl):p:=h
abbrev S0:=SpecH false Tryz.prog
abbrev S1:=SpecH true Tryz.prog
def _root_.Go.Vx.Hn.ow {P:Program}(x:Int)(nx:Hn P)(h:-9223372036854775808<=x∧x<=9223372036854775807:=by omega):Hn P:=.opt (ax .i64 x) (.v (.int .i64 x)) (ff h) nx
theorem wr {p:Prop}(h:p:=by with_reducible rfl):p:=h
theorem om {p:Prop}(h:p:=by omega):p:=h
theorem aF {p:Prop}(h:p:=by assumption):p:=h
theorem ro {p:Prop}(h:p:=by repeat' first|exact trivial|exact rfl|exact(λ _=>cR _)|exact(λ _=>by assumption)|exact(λ _=>cE _ (λ _=>rfl) _)|exact(λ _=>fO (λ _=>rfl) _)|(intro h;cases h;done)|(intro _;rfl)|(intro _;exact dM _ (cE _ (λ _=>rfl) _))|exact mr _ (cE _ (λ _=>rfl) _)|refine And.intro ?_ ?_|refine iL ?_ ?_|(intro _;refine eg ?_ ?_)|refine eg ?_ ?_|(intro _;refine js ?_ ?_)|exact dM _ (cE _ (λ _=>rfl) _)|exact cE _ (λ _=>rfl) _):p:=h
theorem Ul:az Tryz.prog 11:=.of Tryz.func11 rfl rfl
theorem UV:az Tryz.prog 13:=.of Tryz.func13 rfl rfl
theorem M9:az Tryz.prog 15:=.of Tryz.func15 rfl rfl
theorem Um:az Tryz.prog 18:=.of Tryz.func18 rfl rfl
theorem N1:az Tryz.prog 28:=.of Tryz.func28 rfl rfl
theorem Na:az Tryz.prog 29:=.of Tryz.func29 rfl rfl
theorem RI:az Tryz.prog 43:=.of Tryz.func43 rfl rfl
theorem Un:az Tryz.prog 55:=.of Tryz.func55 rfl rfl
theorem In:az Tryz.prog 56:=.of Tryz.func56 rfl rfl
theorem Uo:az Tryz.prog 64:=.of Tryz.func64 rfl rfl
theorem Uq:az Tryz.prog 65:=.of Tryz.func65 rfl rfl
theorem jx:az Tryz.prog 73:=.of Tryz.func73 rfl rfl
theorem N2:az Tryz.prog 86:=.of Tryz.func86 rfl rfl
theorem UW:az Tryz.prog 93:=.of Tryz.func93 rfl rfl
theorem B8:az Tryz.prog 105:=.of Tryz.func105 rfl rfl
theorem B9:az Tryz.prog 111:=.of Tryz.func111 rfl rfl
theorem Ca:az Tryz.prog 113:=.of Tryz.func113 rfl rfl
theorem N3:az Tryz.prog 117:=.of Tryz.func117 rfl rfl
theorem fx:az Tryz.prog 119:=.of Tryz.func119 rfl rfl
theorem N4:az Tryz.prog 121:=.of Tryz.func121 rfl rfl
theorem N5:az Tryz.prog 123:=.of Tryz.func123 rfl rfl
theorem Si:az Tryz.prog 124:=.of Tryz.func124 rfl rfl
theorem Sj:az Tryz.prog 125:=.of Tryz.func125 rfl rfl
theorem Sk:az Tryz.prog 126:=.of Tryz.func126 rfl rfl
theorem Sl:az Tryz.prog 127:=.of Tryz.func127 rfl rfl
theorem Sm:az Tryz.prog 141:=.of Tryz.func141 rfl rfl
theorem wG:az Tryz.prog 142:=.of Tryz.func142 rfl rfl
theorem wH:az Tryz.prog 143:=.of Tryz.func143 rfl rfl
theorem Ku:az Tryz.prog 144:=.of Tryz.func144 rfl rfl
theorem Sn:az Tryz.prog 147:=.of Tryz.func147 rfl rfl
theorem Kv:az Tryz.prog 148:=.of Tryz.func148 rfl rfl
theorem fH:az Tryz.prog 152:=.of Tryz.func152 rfl rfl
theorem So:az Tryz.prog 155:=.of Tryz.func155 rfl rfl
theorem N6:az Tryz.prog 156:=.of Tryz.func156 rfl rfl
theorem Kw:az Tryz.prog 160:=.of Tryz.func160 rfl rfl
theorem Kx:az Tryz.prog 163:=.of Tryz.func163 rfl rfl
theorem Cb:az Tryz.prog 175:=.of Tryz.func175 rfl rfl
theorem Sp:az Tryz.prog 176:=.of Tryz.func176 rfl rfl
theorem Sq:az Tryz.prog 193:=.of Tryz.func193 rfl rfl
theorem Sr:az Tryz.prog 198:=.of Tryz.func198 rfl rfl
end Go.Proofs.YtefjnofhgkjpmaaGreat
namespace Go.Proofs.YtefjnofhgkjpmaaGreat
open Go.RowKit Go.Bw Go.Vx
open List (length getD map take drop flatMap replicate)
namespace Vp
abbrev iD (i:Int):D:=.v (.int .i64 i)
abbrev dw:D:=.v (.slice none 0 0)
abbrev uD (n:Nat):D:=.v (.int .u32 (n:Int))
abbrev nD (n:Nat):D:=.v (.int .i64 (n:Int))
abbrev bD (b:Bool):D:=.v (.bool b)
abbrev fP (n:Nat):D:=.v (.int .u8 (n:Int))
def lk {α β:Type}(b:List β)(x:α):α:=match b with
 |[]=>x
 |_::_=>x
theorem au {α β:Type}(b:List β)(x:α):lk b x=x:=by cases b<;>rfl
def mz (b:Z1)(p:Nat):Nat:=(b.getD (p/8) mq).toNat/2^(p%8)%2
def fU (b:Z1)(p:Nat):Nat->Nat
 |0=>0
 |n+1=>fU b p n+2^n*mz b (p+n)
theorem yu (b:Z1)(p:Nat):mz b p<2:=Nat.mod_lt _ (by decide)
theorem nU (b:Z1)(p:Nat):∀n,fU b p n<2^n
 |0=>Xt
 |n+1=>by
  have h1:=nU b p n;have h2:=yu b (p+n);have h3:2^n*mz b (p+n)<=2^n*1:=Nat.mul_le_mul_left _ om;rw[fU,Nat.pow_succ];omega
def gG (b:Z1)(p m:Nat):Nat:=lk b (if 8*b.length<p+m then 0 else fU b p m)
def kV (b:Z1)(p m:Nat):Nat:=lk b (if 8*b.length<p+m then 10 else 0)
theorem Io {b:Z1}{p m:Nat}(h:8*b.length<p+m):gG b p m=0:=(au _ _).trans (ZF h)
theorem yv {b:Z1}{p m:Nat}(h:¬8*b.length<p+m):gG b p m=fU b p m:=(au _ _).trans (ZE h)
theorem Ip {b:Z1}{p m:Nat}(h:8*b.length<p+m):kV b p m=10:=(au _ _).trans (ZF h)
theorem Cc {b:Z1}{p m:Nat}(h:¬8*b.length<p+m):kV b p m=0:=(au _ _).trans (ZE h)
theorem wI (b:Z1)(p m:Nat):gG b p m<2^m:=by
 by_cases h:8*b.length<p+m
 ·rw[Io h];exact Nat.two_pow_pos m
 ·rw[yv h];exact nU b p m
def aW:Z1->Nat
 |[]=>0
 |x::r=>(if x.toNat=0 then 0 else 2^(15-x.toNat))+aW r
def bg:Z1->Nat
 |[]=>0
 |x::r=>(if x.toNat=0 then 0 else 1)+bg r
def dn (l:Z1)(most:Nat):Bool:=l.any λ x=>decide (most<x.toNat)
theorem qV (a c:Z1):aW (a++c)=aW a+aW c:=by
 induction a with
 |nil=>simp[aW]
 |cons x r ih=>rw[XE,aW,aW,ih];omega
theorem qW (a c:Z1):bg (a++c)=bg a+bg c:=by
 induction a with
 |nil=>simp[bg]
 |cons x r ih=>rw[XE,bg,bg,ih];omega
theorem Cd (l:Z1):bg l<=l.length:=by
 induction l with
 |nil=>exact Vd _
 |cons x r ih=>rw[bg,VE];split<;>omega
theorem Ce (l:Z1):aW l<=l.length*32768:=by
 induction l with
 |nil=>exact Vd _
 |cons x r ih=>
  rw[aW,VE];have:2^(15-x.toNat)<=2^15:=VD (by decide) om
  split<;>omega
theorem qX {l:Z1}{i:Nat}(h:i<l.length):l.take (i+1)=l.take i++[l.getD i mq]:=o9 h
theorem iQ {l:Z1}{i:Nat}(h:i<l.length):aW (l.take (i+1))=aW (l.take i)+(if(l.getD i mq).toNat=0 then 0 else 2^(15-(l.getD i mq).toNat)):=by
 rw[qX h,qV];rfl
theorem kN {l:Z1}{i:Nat}(h:i<l.length):bg (l.take (i+1))=bg (l.take i)+(if(l.getD i mq).toNat=0 then 0 else 1):=by
 rw[qX h,qW];rfl
def sn (l:Z1)(most:Nat):Nat:=
 if 320<l.length then 4 else if dn l most=true then 2 else if 32768<aW l then 30
 else if aW l=32768∨bg l=0∨bg l=1∧aW l=16384 then 0 else 31
def aG (l:Z1)(most:Nat):Nat:=lk l (sn l most)
theorem iR (l:Z1)(most:Nat):aG l most=sn l most:=au _ _
theorem yw {l:Z1}{most i:Nat}(h:i<l.length)(h2:most<(l.getD i mq).toNat):dn l most=true:=by
 unfold dn;rw[Y5];refine⟨l.getD i mq,?_,decide_eq_true h2⟩;rw[UZ,U4 h];exact V3 h
theorem lr {l:Z1}{most:Nat}(h:∀i,i<l.length->(l.getD i mq).toNat<=most):dn l most=false:=by
 unfold dn;rw[List.any_eq_false];intro x hx;obtain⟨i,hi⟩:=Wc hx;have hlt:=(List.getElem?_eq_some_iff.1 hi).1;have:=h i hlt;rw[UZ,hi]at this;simpa using this
theorem dN {l:Z1}{most:Nat}(h:dn l most=false){i:Nat}(hi:i<l.length):(l.getD i mq).toNat<=most:=by
 rcases VL most (l.getD i mq).toNat with q|q
 ·rw[yw hi q]at h;cases h
 ·exact q
theorem dD {l:Z1}{most:Nat}(h:aG l most=0):l.length<=320∧dn l most=false∧aW l<=32768:=by
 rw[iR]at h;unfold sn at h
 split at h
 ·cases h
 ·split at h
  ·cases h
  ·split at h
   ·cases h
   ·refine⟨by omega,by simp_all,by omega⟩
def cu (l:Z1)(n k:Nat):List Nat:=(Wa k).filter λ i=>decide ((l.getD i mq).toNat=n)
def aJ (l:Z1):Nat->List Nat
 |0=>[]
 |n+1=>aJ l n++(if n=0 then[]else cu l n l.length)
def sq (l:Z1)(n:Nat):Nat:=if n=0 then 0 else(cu l n l.length).length
def aa (l:Z1)(n:Nat):Nat:=lk l (sq l n)
def af (l:Z1):List Nat:=lk l (aJ l 16)
theorem dE (l:Z1):af l=aJ l 16:=au _ _
def ae (l:Z1)(n k m:Nat):Nat:=lk l (if m=0 then 0 else if m<n then(cu l m l.length).length else if m=n then(cu l m k).length else 0)
def aK (l:Z1)(n k:Nat):List Nat:=lk l (aJ l n++(if n=0 then[]else cu l n k))
def dZ (f:Nat->Nat):List D:=[nD (f 0),nD (f 1),nD (f 2),nD (f 3),nD (f 4),nD (f 5),nD (f 6),nD (f 7),nD (f 8),nD (f 9),nD (f 10),nD (f 11),nD (f 12),nD (f 13),nD (f 14),nD (f 15)]
def N7 (m:Nat)(l:Z1):List D:=dZ (aa l)++[.sl false m 1 ((af l).map nD)]
abbrev yx (m:Nat)(l:Z1):D:=.agg (N7 m l)
def eE:List D:=[iD 0,iD 0,iD 0,iD 0,iD 0,iD 0,iD 0,iD 0,iD 0,iD 0,iD 0,iD 0,iD 0,iD 0,iD 0,iD 0,dw]
abbrev Iq:D:=.agg eE
theorem yy (f:Nat->Nat)(r:List D)(n:Nat)(h:n<16):(dZ f++r)[n]? =some (nD (f n)):=by
 match n,h with
 |0,_=>rfl|1,_=>rfl|2,_=>rfl|3,_=>rfl|4,_=>rfl|5,_=>rfl|6,_=>rfl|7,_=>rfl
 |8,_=>rfl|9,_=>rfl|10,_=>rfl|11,_=>rfl|12,_=>rfl|13,_=>rfl|14,_=>rfl|15,_=>rfl
 |n+16,h=>exact absurd h om
theorem Ky (f:Nat->Nat)(n:Nat)(h:n<16):(dZ f)[n]? =some (nD (f n)):=by
 have:=yy f [] n h
 rwa [VS]at this
theorem AK {f g:Nat->Nat}(h:∀n,n<16->f n=g n):dZ f=dZ g:=by
 unfold dZ;rw[h 0 (by decide),h 1 (by decide),h 2 (by decide),h 3 (by decide),h 4 (by decide),h 5 (by decide),h 6 (by decide),h 7 (by decide),h 8 (by decide),h 9 (by decide),h 10 (by decide),h 11 (by decide),h 12 (by decide),h 13 (by decide),h 14 (by decide),h 15 (by decide)]
theorem N8 (f:Nat->Nat)(r:List D)(n:Nat)(h:n<16)(x:Nat):ai (dZ f++r) n [nD x]=dZ (λ m=>if m=n then x else f m)++r:=by
 match n,h with
 |0,_=>rfl|1,_=>rfl|2,_=>rfl|3,_=>rfl|4,_=>rfl|5,_=>rfl|6,_=>rfl|7,_=>rfl
 |8,_=>rfl|9,_=>rfl|10,_=>rfl|11,_=>rfl|12,_=>rfl|13,_=>rfl|14,_=>rfl|15,_=>rfl
 |n+16,h=>exact absurd h om
theorem dO (l:Z1)(n k:Nat):cu l n (k+1)=cu l n k++(if(l.getD k mq).toNat=n then[k]else[]):=by
 unfold cu;rw[XU,List.filter_append]
 congr 1
 rw[List.filter_cons,List.filter_nil]
 by_cases h:(l.getD k mq).toNat=n
 ·rw[ZF h,ZF (decide_eq_true h)]
 ·rw[ZE h,ZE (by simpa using h)]
theorem ke (l:Z1)(n k:Nat):(cu l n k).length<=k:=by
 unfold cu;exact Vq (List.length_filter_le _ _) (by simp)
theorem fy {l:Z1}{n k i:Nat}:i∈cu l n k↔i<k∧(l.getD i mq).toNat=n:=by
 unfold cu;simp
theorem dP (l:Z1)(n k:Nat):aK l n k=aJ l n++(if n=0 then[]else cu l n k):=au _ _
theorem d9 (l:Z1)(n k m:Nat):ae l n k m=if m=0 then 0 else if m<n then(cu l m l.length).length else if m=n then(cu l m k).length else 0:=au _ _
theorem gR (l:Z1)(n:Nat):aa l n=sq l n:=au _ _
theorem uK (l:Z1):aK l 0 0=[]:=dP l 0 0
theorem qY (l:Z1)(n:Nat):aK l (n+1) 0=aK l n l.length:=by
 rw[dP,dP,aJ,ZE (Nat.succ_ne_zero n)];show _++cu l (n+1) 0=_;have:cu l (n+1) 0=[]:=rfl;rw[this,VS]
theorem Cf {l:Z1}{n k:Nat}(hn:n≠0)(h:(l.getD k mq).toNat=n):aK l n (k+1)=aK l n k++[k]:=by
 rw[dP,dP,ZE hn,ZE hn,dO,ZF h,Ve]
theorem Cg {l:Z1}{n k:Nat}(h:n=0∨(l.getD k mq).toNat≠n):aK l n (k+1)=aK l n k:=by
 rw[dP,dP]
 by_cases hn:n=0
 ·rw[ZF hn,ZF hn]
 ·rw[ZE hn,ZE hn,dO,ZE (by rcases h with h|h;exact absurd h hn;exact h),VS]
theorem wJ (l:Z1):aK l 16 0=af l:=by
 rw[dP];show aJ l 16++cu l 16 0=_;have:cu l 16 0=[]:=rfl;rw[this,VS,dE]
theorem yz (l:Z1)(m:Nat):ae l 0 0 m=0:=by
 rw[d9]
 by_cases h:m=0
 ·rw[ZF h]
 ·rw[ZE h,ZE om,ZE h]
theorem uL (l:Z1)(n m:Nat):ae l (n+1) 0 m=ae l n l.length m:=by
 rw[d9,d9]
 by_cases h0:m=0
 ·rw[ZF h0,ZF h0]
 ·rw[ZE h0,ZE h0]
  by_cases h1:m<n
  ·rw[ZF om,ZF h1]
  ·rw[ZE h1]
   by_cases h2:m=n
   ·rw[ZF om,ZF h2]
   ·rw[ZE om,ZE h2]
    by_cases h3:m=n+1
    ·rw[ZF h3];rfl
    ·rw[ZE h3]
theorem Fz {l:Z1}{n k:Nat}(hn:n≠0)(h:(l.getD k mq).toNat=n)(m:Nat):ae l n (k+1) m=if m=n then ae l n k n+1 else ae l n k m:=by
 rw[d9,d9,d9]
 by_cases h2:m=n
 ·subst h2
  rw[ZE hn,ZE om,ZF rfl,ZF rfl,ZE hn,ZE om,ZF rfl,dO,ZF h,U2];rfl
 ·rw[ZE h2,ZE h2,ZE h2]
theorem FA {l:Z1}{n k:Nat}(h:n=0∨(l.getD k mq).toNat≠n)(m:Nat):ae l n (k+1) m=ae l n k m:=by
 rw[d9,d9]
 by_cases h0:m=0
 ·rw[ZF h0,ZF h0]
 ·rw[ZE h0,ZE h0]
  by_cases h1:m<n
  ·rw[ZF h1,ZF h1]
  ·rw[ZE h1,ZE h1]
   by_cases h2:m=n
   ·subst h2
    rw[ZF rfl,ZF rfl,dO,ZE (by rcases h with h|h;exact absurd h h0;exact h),VS]
   ·rw[ZE h2,ZE h2]
theorem AL (l:Z1)(m:Nat)(h:m<16):ae l 16 0 m=aa l m:=by
 rw[d9,gR];unfold sq
 by_cases h0:m=0
 ·rw[ZF h0,ZF h0]
 ·rw[ZE h0,ZE h0,ZF h]
theorem Ch (l:Z1)(n k m:Nat)(hk:k<=l.length):ae l n k m<=l.length:=by
 rw[d9]
 split
 ·omega
 ·split
  ·exact ke _ _ _
  ·split
   ·exact Vq (ke _ _ _) hk
   ·omega
theorem qZ (l:Z1):∀n,(aJ l n).length<=n*l.length
 |0=>VI _
 |n+1=>by
  have h1:=qZ l n;have h2:=ke l n l.length;rw[aJ,U2,Nat.succ_mul]
  split
  ·simp;omega
  ·omega
theorem wK {l:Z1}{n k:Nat}(hn:n<=16)(hk:k<=l.length):(aK l n k).length<=17*l.length:=by
 rw[dP,U2];have h1:=qZ l n;have h2:=ke l n k;have h3:n*l.length<=16*l.length:=Nat.mul_le_mul_right _ hn;have h4:(if n=0 then[]else cu l n k).length<=l.length:=by
  split
  ·simp
  ·omega
 omega
@[simp] theorem eW (xs:List Nat):ab (xs.map nD)=true:=cE _ (λ _=>rfl) xs
theorem Ss {l:Z1}{a k:Nat}(h:a=0∨(l.getD (k*1) mq).toNat≠a)(m:Nat):ae l a (k+1) m=ae l a k m:=FA (by rwa [VG]at h) m
theorem N9 {l:Z1}{a k:Nat}(h:a=0∨(l.getD (k*1) mq).toNat≠a):aK l a (k+1)=aK l a k:=Cg (by rwa [VG]at h)
theorem Su (l:Z1)(a k:Nat){o:Nat}{d:D}(ho:o=a)(h0:0<a)(h1:a<16)(h:(l.getD (k*1) mq).toNat=a):ai (dZ (ae l a k)++[d]) o [D.v (.int .i64 (((ae l a k o:Nat):Int)+1))]=dZ (ae l a (k+1))++[d]:=by
 subst ho;rw[show D.v (.int .i64 (((ae l o k o:Nat):Int)+1))=nD (ae l o k o+1)from rfl,N8 _ _ _ h1];have e:dZ (λ m=>if m=o then ae l o k o+1 else ae l o k m)=dZ (ae l o (k+1)):=AK λ m _=>by
  rw[Fz om (by rwa [VG]at h)]
 rw[e]
theorem Ir {l:Z1}{a k:Nat}(h0:0<a)(h:(l.getD (k*1) mq).toNat=a):aK l a (k+1)=aK l a k++[k]:=Cf om (by rwa [VG]at h)

end Vp
end Go.Proofs.YtefjnofhgkjpmaaGreat
namespace Go.Proofs.YtefjnofhgkjpmaaGreat
open Go.RowKit Go.Bw Go.Vx
open List (length getD map take drop flatMap replicate)
namespace Vp
theorem fV {p:Prop}(h:p:=by(have h9:=dp (l.getD i default).s;have hb:=hB i;have hc:=ej (l.getD i default);refine aR ?_;omega)):p:=h
theorem gj {p:Prop}(h:p:=by(have h9:=dp (l.getD i default).s;have hb:=hB i;have hc:=ej (l.getD i default);omega)):p:=h
theorem kt {p:Prop}(h:p:=by(rw[KC (z:=bh (l.getD i default)) (by(omega))])):p:=h
theorem uM {p:Prop}(h:p:=by(simp only[pa,List.length_map,Nat.mul_one,Nat.beq_refl,Bool.true_and,Bool.and_true];have h9:=dp (l.getD i default).s;have hb:=hB i;have hc:=ej (l.getD i default);refine Nat.ble_eq_true_of_le ?_;omega)):p:=h
theorem uN {p:Prop}(h:p:=by show bh (getD l i default)-(j+1)<bh (getD l i default)-j;clear Z9 ZC ZA ZD;omega):p:=h
theorem uO {p:Prop}(h:p:=by(have h9:=dp (l.getD i default).s;have hb:=hB i;have hc:=ej (l.getD i default);rw[List.length_append,List.length_replicate];omega)):p:=h
theorem uP {p:Prop}(h:p:=by(have h9:=dp (l.getD i default).s;have hb:=hB i;have hc:=ej (l.getD i default);exact KA hR om om om om)):p:=h
theorem uQ {p:Prop}(h:p:=by show k-(i+1)<k-i;clear ZA ZD;omega):p:=h
theorem FB {p:Prop}(h:p:=by((refine aI ?_ ?_)<;>(repeat' (first|(refine aI ?_ ?_)|(with_reducible rfl)|(refine decide_eq_true ?_)|(refine Nat.ble_eq_true_of_le ?_)|(refine fw ?_)))<;>(omega))):p:=h
theorem FC {p:Prop}(h:p:=by(have h9:=dp (l.getD i default).s;have hb:=hB i;have hc:=ej (l.getD i default);have q:=Iv (l:=l) (n:=n) (i:=i) (o:=o) om om om om;rw[hR]at q;rw[q]at h;exact absurd h (by decide))):p:=h
theorem yA {p:Prop}(h:p:=by(exact Sv (by(omega)))):p:=h
theorem yB {p:Prop}(h:p:=by(have h9:=dp (l.getD i default).s;have hb:=hB i;have hc:=ej (l.getD i default);refine aR ?_;have q:=Iv (l:=l) (n:=n) (i:=i) (o:=o) om om om om;rw[hR]at q;rw[q];rfl)):p:=h
theorem Ci {p:Prop}(h:p:=by(refine decide_eq_false ?_;(omega))):p:=h
theorem Is {p:Prop}(h:p:=by(rw[ba (k:=2) (λ _=>rfl)];refine Nat.ble_eq_true_of_le ?_;(omega))):p:=h
def rb (s:Nat):Nat:=if s=16 then 2 else if s=17 then 3 else if s=18 then 7 else 0
def p2 (s:Nat):Nat:=2^rb s
structure Rn where
 s:Nat
 x:Nat
 deriving Inhabited
abbrev ce (r:Rn):List D:=[nD r.s,nD r.x]
def bh (r:Rn):Nat:=if r.s=16 then r.x+3 else if r.s=17 then r.x+3 else if r.s=18 then r.x+11 else 1
def aS (r:Rn)(o:Z1):UInt8:=if r.s=16 then o.getD (o.length-1) mq else if r.s<16 then V6 r.s else 0
def cq (n:Nat):List Rn->Z1->Z1×Nat
 |[],o=>if o.length=n then(o,0)else([],100)
 |r::q,o=>if 18<r.s∨p2 r.s<=r.x then([],8)else if r.s=16∧o.length=0 then([],100)else if n<o.length+bh r then([],100)else cq n q (o++Vk (bh r) (aS r o))
def cv (n:Nat)(l:List Rn):Z1×Nat:=lk l (cq n l [])
theorem iS (n:Nat)(l:List Rn):cv n l=cq n l []:=au _ _
theorem It {n:Nat}{l:List Rn}{i:Nat}{o:Z1}(hi:l.length<=i):cq n (l.drop i) o=if o.length=n then(o,0)else([],100):=by
 rw[List.drop_eq_nil_of_le hi];rfl
theorem sr {l:List Rn}{i:Nat}(hi:i<l.length):l.drop i=l.getD i mq::l.drop (i+1):=by
 rw[List.drop_eq_getElem_cons hi,UZ,U4 hi];rfl
theorem yC {n:Nat}{l:List Rn}{i:Nat}{o:Z1}(hi:i<l.length)(h:18<(l.getD i mq).s∨p2 (l.getD i mq).s<=(l.getD i mq).x):cq n (l.drop i) o=([],8):=by rw[sr hi,cq,ZF h]
theorem Iu {n:Nat}{l:List Rn}{i:Nat}{o:Z1}(hi:i<l.length)(h:¬(18<(l.getD i mq).s∨p2 (l.getD i mq).s<=(l.getD i mq).x))(h2:(l.getD i mq).s=16∧o.length=0):cq n (l.drop i) o=([],100):=by rw[sr hi,cq,ZE h,ZF h2]
theorem Iv {n:Nat}{l:List Rn}{i:Nat}{o:Z1}(hi:i<l.length)(h:¬(18<(l.getD i mq).s∨p2 (l.getD i mq).s<=(l.getD i mq).x))(h2:¬((l.getD i mq).s=16∧o.length=0))(h3:n<o.length+bh (l.getD i mq)):cq n (l.drop i) o=([],100):=by rw[sr hi,cq,ZE h,ZE h2,ZF h3]
theorem Oa {n:Nat}{l:List Rn}{i:Nat}{o:Z1}(hi:i<l.length)(h:¬(18<(l.getD i mq).s∨p2 (l.getD i mq).s<=(l.getD i mq).x))(h2:¬((l.getD i mq).s=16∧o.length=0))(h3:¬n<o.length+bh (l.getD i mq)):cq n (l.drop i) o=cq n (l.drop (i+1)) (o++Vk (bh (l.getD i mq)) (aS (l.getD i mq) o)):=by rw[sr hi,cq,ZE h,ZE h2,ZE h3]
theorem dp (s:Nat):p2 s<=128∧rb s<=7:=by unfold p2 rb;split;decide;split;decide;split<;>decide
theorem yD (s:Nat)(h:s<=18):S0 113 [nD s] [] (.tup [nD (rb s),iD 0]) []:=by
 refine SpecH.run T_ok ah Tryz.func113 rfl rfl rfl trivial rfl 1000 64 (λ R ok=>(.s 13 (.f (decide (18<(s:Int))) Ci (.s 4 (.br ((s:Int)==16) (λ p0=>have Z7:=eq_of_beq p0;(.s 2 (.out [] [] (V2 [zI 2,zI 0]) [] R (ok _ _ (by((have hs:s=16:=by omega);subst hs;rfl)) wr)))) (λ p0=>have Z7:=ap p0;(.s 4 (.br ((s:Int)==17) (λ p1=>have Z6:=eq_of_beq p1;(.s 2 (.out [] [] (V2 [zI 3,zI 0]) [] R (ok _ _ (by((have hs:s=17:=by omega);subst hs;rfl)) wr)))) (λ p1=>have Z6:=ap p1;(.s 4 (.br ((s:Int)==18) (λ p2=>have Z5:=eq_of_beq p2;(.s 2 (.out [] [] (V2 [zI 7,zI 0]) [] R (ok _ _ (by((have hs:s=18:=by omega);subst hs;rfl)) wr)))) (λ p2=>have Z5:=ap p2;(.s 2 (.out [] [] (V2 [zI 0,zI 0]) [] R (ok _ _ (by(rw[show rb s=0 from by unfold rb;rw[ZE om,ZE om,ZE om]];rfl)) wr))))))))))))))) kr
theorem Kz (s:Nat)(h:18<s)(h2:s<=1000000):S0 113 [nD s] [] (.tup [nD 0,iD 2]) []:=by
 refine SpecH.run T_ok ah Tryz.func113 rfl rfl rfl trivial rfl 1000 64 (λ R ok=>(.s 13 (.t (decide (18<(s:Int))) (by(refine decide_eq_true ?_;(omega))) (.s 2 (.out [] [] (V2 [zI 0,zI 2]) [] R (ok _ _ (by(simp;done)) wr)))))) kr
theorem Iw (s:Nat):ax .i64 (2^min (rb s) 64*1)=some (nD (p2 s)):=by
 have h:=dp s;rw[show min (rb s) 64=rb s from by omega,Int.mul_one];have e:(2:Int)^rb s=((p2 s:Nat):Int):=by unfold p2;push_cast;rfl
 rw[e];generalize p2 s=Z at *;exact ff om
theorem KA {n:Nat}{l:List Rn}{i:Nat}{o:Z1}{R:Z1×Nat}(hR:cq n (l.drop i) o=R)(hi:i<l.length)(h:¬(18<(l.getD i mq).s∨p2 (l.getD i mq).s<=(l.getD i mq).x))(h2:¬((l.getD i mq).s=16∧o.length=0))(h3:o.length+bh (l.getD i mq)<=n):cq n (l.drop (i+1)) (o++Vk (bh (l.getD i mq)) (aS (l.getD i mq) o))=R:=by rw[<-hR,Oa hi h h2 om]
theorem KB {r:Rn}{o:Z1}(h:r.s=16):aS r o=o.getD (o.length-1) mq:=ZF h
theorem Oc {r:Rn}{o:Z1}(h:r.s=17∨r.s=18):aS r o=0:=(ZE om).trans (ZE om)
theorem Od {r:Rn}{o:Z1}(h:r.s<16):aS r o=V6 r.s:=(ZE om).trans (ZF h)
theorem ej (r:Rn):(r.s=16∧bh r=r.x+3)∨(r.s=17∧bh r=r.x+3)∨(r.s=18∧bh r=r.x+11)∨(r.s≠16∧r.s≠17∧r.s≠18∧bh r=1):=by
 unfold bh;split;omega;split;omega;split<;>omega
theorem Ix {r:Rn}{o:Z1}{z:Nat}(h:r.s=16)(hz:z=o.length-1):D.v (.int .u8 (((o.getD z mq).toNat:Nat):Int))=dB (aS r o):=by rw[KB h,hz];rfl
theorem Sv {r:Rn}{o:Z1}(h:r.s=17∨r.s=18):D.v (.int .u8 0)=dB (aS r o):=by rw[Oc h];rfl
theorem Oe {r:Rn}{o:Z1}(h:r.s<16):D.v (.int .u8 (r.s:Int))=dB (aS r o):=by rw[Od h];unfold dB;rw[WQ];congr 2;omega
theorem Og {o:Z1}{j:Nat}{v:UInt8}:o++Vk (j+1) v=o++Vk j v++[v]:=by rw[List.replicate_succ',Ve]
def aH (o:Z1)(v:UInt8):Nat->Z1
 |0=>o
 |j+1=>aH o v j++[v]
theorem ss (o:Z1)(v:UInt8):∀j,aH o v j=o++Vk j v
 |0=>by simp[aH]
 |j+1=>by rw[aH,ss o v j,Og]
theorem pa (o:Z1)(v:UInt8)(j:Nat):(aH o v j).length=o.length+j:=by rw[ss,U2,List.length_replicate]
theorem jy {o:Z1}{j:Nat}{v:UInt8}:List.map dB (aH o v j)++[D.v (.int .u8 ((v.toNat:Nat):Int))]=List.map dB (aH o v (j+1)):=by rw[aH,List.map_append];rfl
theorem KC {o:Z1}{j z:Nat}{v:UInt8}(h:j=z):aH o v j=o++Vk z v:=by rw[ss,h]
theorem ng {o:Z1}{j:Nat}{v:UInt8}{k g sz:Nat}:U6 k g 0 ((aH o v j).length+1) sz=U6 k g 0 (aH o v (j+1)).length sz:=by rw[pa,pa];rfl
theorem su {n:Nat}{l:List Rn}{i:Nat}{o:Z1}{R:Z1×Nat}(hR:cq n (l.drop i) o=R)(hi:l.length<=i)(h:R.2=0):o=R.1∧R.1.length=n:=by
 rw[It hi]at hR
 split at hR
 ·next q=>rw[<-hR];exact⟨rfl,q⟩
 ·rw[<-hR]at h;cases h
theorem KD (l:List Rn)(k:Nat)(hk:k=l.length)(hK:k<=1000)(n:Nat)(hn:n<=320)(hB:∀i,(l.getD i mq).x<=1000000∧(l.getD i mq).s<=1000000)(h:(cv n l).2=0):S0 181 [.sl false k 2 (l.flatMap ce),nD n] [] (.tup [.ref 0 0 0 (cv n l).1.length 1,iD 0]) [⟨(cv n l).1.map dB, 5,true⟩]:=by
 refine SpecH.run T_ok ah Tryz.func181 rfl rfl rfl ⟨bn _,trivial⟩ rfl 1000 64 (λ R ok=>(.s 12 (.f (decide (320<(n:Int))) Ci (.s 4 (.nils 6 96 1 5 (Hn.inl T_ok ah false 93 0 (aq Tryz.prog 181 0) (λ(x:(i:Nat)×'(hi:i<=k)×'(o:Z1)×'(ho:o.length<=n)×'(hR:cq n (l.drop i) o=cv n l)×'Unit)=>match x with|⟨i,hi,o,ho,hR,_⟩=>CutS.mk [(1,zN n),(6,(U6 0 0 (0) (o.length) 1)),(19,Vl false k 2 (flatMap ce l)),(20,zN k),(21,nD i)] [⟨0,0,96,96,.b ⟨o.map dB,5,true⟩⟩] 8) (λ(x:(i:Nat)×'(hi:i<=k)×'(o:Z1)×'(ho:o.length<=n)×'(hR:cq n (l.drop i) o=cv n l)×'Unit)=>match x with|⟨i,hi,o,ho,hR,_⟩=>k-i) [⟨(hl:(cv n l).1.length=n)×'Unit,.exit 0,λ x=>match x with|⟨hl,_⟩=>CutS.mk [(1,zN n),(6,(U6 0 0 (0) ((cv n l).1.length) 1)),(19,Vl false k 2 (flatMap ce l)),(20,zN k)] [⟨0,0,96,96,.b ⟨(cv n l).1.map dB,5,true⟩⟩] 8⟩] 1000 64 (fun|⟨i,hi,o,ho,hR,_⟩,Q,ZA,ZD=>(.s 2 (.bd ((i:Int)<k) (λ p0 Z7=>(.s 1 (.chk (true&&decide ((i:Int)<k)&&true) FB (.s 2 (.chk (U7 (i*2+2) (length (flatMap ce l))) Is (.lst (take 2 (drop (i*2) (flatMap ce l))) ([zN (Rn.s (getD l i mq)),zN (Rn.x (getD l i mq))]) (aD (k:=2) (i:=i) (λ _=>rfl) om om) (.s 12 (.em (decide (Rn.s (getD l i mq)<=18)) (λ p1=>have Z6:=B6 p1;(.cl 113 false [] (.fn Ca (@yD (Rn.s (getD l i mq)) om)) (.s 38 (.opt (ax .i64 (2^min (rb (Rn.s (getD l i mq))) 64*1)) (nD (p2 (Rn.s (getD l i mq)))) (@Iw (l.getD i mq).s) (.s 4 (.bd ((↑(p2 (Rn.s (getD l i mq))):Int)<=(↑(Rn.x (getD l i mq)):Int)) (λ p2 Z5=>(.abs (by(have h9:=dp (l.getD i mq).s;have hb:=hB i;have hc:=ej (l.getD i mq);have q:=yC (l:=l) (n:=n) (i:=i) (o:=o) om (.inr om);rw[hR]at q;rw[q]at h;exact absurd h (by decide))))) (λ p2 Z5=>(.s 18 (.br ((↑(Rn.s (getD l i mq)):Int)==16) (λ p3=>have Z4:=eq_of_beq p3;(.s 4 (.br ((↑(length o):Int)==0) (λ p4=>have Z3:=eq_of_beq p4;(.abs (by(have h9:=dp (l.getD i mq).s;have hb:=hB i;have hc:=ej (l.getD i mq);have q:=Iu (l:=l) (n:=n) (i:=i) (o:=o) om om om;rw[hR]at q;rw[q]at h;exact absurd h (by decide))))) (λ p4=>have Z3:=ap p4;(.s 5 (.ow ((↑(length o):Int)-1) (.s 1 (.chk (decide (0<=(↑(length o):Int)-1)&&decide ((↑(length o):Int)-1<(↑(length o):Int))) FB (.s 2 (.opt ((map dB o)[0+AB ((↑(length o):Int)-1)*1]?) (dB (getD o (0+AB ((↑(length o):Int)-1)*1) mq)) (av _ _ om) (.s 4 (.op ((↑(Rn.x (getD l i mq)):Int)+3) gj (.s 6 (.op ((↑(length o):Int)+((↑(Rn.x (getD l i mq)):Int)+3)) gj (.s 3 (.bd ((n:Int)<(↑(length o):Int)+((↑(Rn.x (getD l i mq)):Int)+3)) (λ p5 p5f=>(.abs FC)) (λ p5 p5f=>(.s 2 (.val 6 (U6 0 0 0 (length o) 1) (U6 0 0 0 (length (aH o (aS (getD l i mq) o) 0)) 1) (by exact rfl) (.val 11 (bl (U3 (getD o (0+AB ((↑(length o):Int)-1)*1) mq))) (bl (U3 (aS (getD l i mq) o))) (by(exact Ix (by(omega)) (by(omega)))) (.val 79 (zI ((↑(Rn.x (getD l i mq)):Int)+3)) (zN (bh (getD l i mq))) fV (.blk 0 0 (U1 (map dB o) 5 true) (U1 (map dB (aH o (aS (getD l i mq) o) 0)) 5 true) (by exact rfl) (Hn.inl T_ok ah false 93 0 (aq Tryz.prog 181 1) (λ(x:(j:Nat)×'(hj:j<=bh (l.getD i mq))×'Unit)=>match x with|⟨j,hj,_⟩=>CutS.mk [(1,zN n),(6,(U6 0 0 (0) ((aH o (aS (l.getD i mq) o) j).length) 1)),(11,dB (aS (l.getD i mq) o)),(19,Vl false k 2 (flatMap ce l)),(20,zN k),(21,zN i),(34,Vh 8 8 1),(35,zN (Rn.x (getD l i mq))),(36,D.v (.bool false)),(39,Vh 8 8 1),(40,zN (Rn.x (getD l i mq))),(41,zN (rb (Rn.s (getD l i mq)))),(42,zN (Vp.p2 (Rn.s (getD l i mq)))),(43,D.v (.bool (decide ((↑(Vp.p2 (Rn.s (getD l i mq))):Int)<=(↑(Rn.x (getD l i mq)):Int))))),(79,nD (bh (l.getD i mq))),(80,nD j)] [⟨0,0,0,0,.b ⟨(aH o (aS (l.getD i mq) o) j).map dB,5,true⟩⟩,⟨8,8,32,32,.b ⟨[zN (Rn.s (getD l i mq)),zN (Rn.x (getD l i mq))],187,false⟩⟩] 16) (λ(x:(j:Nat)×'(hj:j<=bh (l.getD i mq))×'Unit)=>match x with|⟨j,hj,_⟩=>bh (l.getD i mq)-j) [⟨Unit,.exit 7,λ x=>match x with|()=>CutS.mk [(1,zN n),(6,(U6 0 0 (0) ((o++replicate (bh (l.getD i mq)) (aS (l.getD i mq) o)).length) 1)),(19,Vl false k 2 (flatMap ce l)),(20,zN k),(21,zN i),(34,Vh 8 8 1),(35,zN (Rn.x (getD l i mq))),(36,D.v (.bool false)),(39,Vh 8 8 1),(40,zN (Rn.x (getD l i mq))),(41,zN (rb (Rn.s (getD l i mq)))),(42,zN (Vp.p2 (Rn.s (getD l i mq)))),(43,D.v (.bool (decide ((↑(Vp.p2 (Rn.s (getD l i mq))):Int)<=(↑(Rn.x (getD l i mq)):Int)))))] [⟨0,0,0,0,.b ⟨(o++replicate (bh (l.getD i mq)) (aS (l.getD i mq) o)).map dB,5,true⟩⟩,⟨8,8,32,32,.b ⟨[zN (Rn.s (getD l i mq)),zN (Rn.x (getD l i mq))],187,false⟩⟩] 16⟩] 1000 64 (fun|⟨j,hj,_⟩,Q,Z9,ZC=>(.s 2 (.bd ((j:Int)<(↑(bh (getD l i mq)):Int)) (λ p6 p6f=>(.s 5 (.chk (true&&U5 (length (aH o (aS (getD l i mq) o) j)*1) (length (map dB (aH o (aS (getD l i mq) o) j)))&&true&&true&&true&&true&&U7 ((length (aH o (aS (getD l i mq) o) j)+1)*1) 140737488355328) uM (.s 3 (.op (j+1) gj (.s 1 (.val 6 (U6 48 48 0 (length (aH o (aS (getD l i mq) o) j)+1) 1) (U6 48 48 0 (length (aH o (aS (getD l i mq) o) (j+1))) 1) (by(exact ng)) (.val 80 (zI (j+1)) (zN (j+1)) fV (.blk 48 48 (U1 (map dB (aH o (aS (getD l i mq) o) j)++[bl (U3 (aS (getD l i mq) o))]) 5 true) (U1 (map dB (aH o (aS (getD l i mq) o) (j+1))) 5 true) (by(refine aB jy)) (Hn.next Z9 ⟨(j+1),om,⟨⟩⟩ uN [(48,48),(8,8)] ro)))))))))) (λ p6 p6f=>(.val 6 (U6 0 0 0 (length (aH o (aS (getD l i mq) o) j)) 1) (U6 0 0 0 (length (o++replicate (bh (getD l i mq)) (aS (getD l i mq) o))) 1) kt (.blk 0 0 (U1 (map dB (aH o (aS (getD l i mq) o) j)) 5 true) (U1 (map dB (o++replicate (bh (getD l i mq)) (aS (getD l i mq) o))) 5 true) kt (Hn.last ZC 0 (():Unit) rfl [(0,0),(8,8)] ro))))))) (fun|⟨j,hj,_⟩=>by kernel_rfl) ⟨(0),om,⟨⟩⟩ [(0,0),(32,32)] ro (ck (fun|()=>(.s 2 (.ow (i+1) (.s 1 (.val 21 (zI (i+1)) (zN (i+1)) fV (Hn.next ZA ⟨(i+1),om,(o++replicate (bh (l.getD i mq)) (aS (l.getD i mq) o)),uO,uP,⟨⟩⟩ uQ [(0,0)] ro)))))))))))))))))))))))))))))) (λ p3=>have Z4:=ap p3;(.s 3 (.br ((↑(Rn.s (getD l i mq)):Int)==18) (λ p7=>have p7f:=eq_of_beq p7;(.s 3 (.op ((↑(Rn.x (getD l i mq)):Int)+8) gj (.s 4 (.op ((↑(Rn.x (getD l i mq)):Int)+8+3) gj (.s 6 (.op ((↑(length o):Int)+((↑(Rn.x (getD l i mq)):Int)+8+3)) gj (.s 3 (.bd ((n:Int)<(↑(length o):Int)+((↑(Rn.x (getD l i mq)):Int)+8+3)) (λ p8 p8f=>(.abs FC)) (λ p8 p8f=>(.s 2 (.val 6 (U6 0 0 0 (length o) 1) (U6 0 0 0 (length (aH o (aS (getD l i mq) o) 0)) 1) (by exact rfl) (.val 11 (bI 0) (bl (U3 (aS (getD l i mq) o))) yA (.val 79 (zI ((↑(Rn.x (getD l i mq)):Int)+8+3)) (zN (bh (getD l i mq))) fV (.blk 0 0 (U1 (map dB o) 5 true) (U1 (map dB (aH o (aS (getD l i mq) o) 0)) 5 true) (by exact rfl) (Hn.inl T_ok ah false 93 0 (aq Tryz.prog 181 1) (λ(x:(j:Nat)×'(hj:j<=bh (l.getD i mq))×'Unit)=>match x with|⟨j,hj,_⟩=>CutS.mk [(1,zN n),(6,(U6 0 0 (0) ((aH o (aS (l.getD i mq) o) j).length) 1)),(11,dB (aS (l.getD i mq) o)),(19,Vl false k 2 (flatMap ce l)),(20,zN k),(21,zN i),(34,Vh 8 8 1),(35,zN (Rn.x (getD l i mq))),(36,D.v (.bool false)),(39,Vh 8 8 1),(40,zN (Rn.x (getD l i mq))),(41,zN (rb (Rn.s (getD l i mq)))),(42,zN (Vp.p2 (Rn.s (getD l i mq)))),(43,D.v (.bool (decide ((↑(Vp.p2 (Rn.s (getD l i mq))):Int)<=(↑(Rn.x (getD l i mq)):Int))))),(79,nD (bh (l.getD i mq))),(80,nD j)] [⟨0,0,0,0,.b ⟨(aH o (aS (l.getD i mq) o) j).map dB,5,true⟩⟩,⟨8,8,32,32,.b ⟨[zN (Rn.s (getD l i mq)),zN (Rn.x (getD l i mq))],187,false⟩⟩] 16) (λ(x:(j:Nat)×'(hj:j<=bh (l.getD i mq))×'Unit)=>match x with|⟨j,hj,_⟩=>bh (l.getD i mq)-j) [⟨Unit,.exit 7,λ x=>match x with|()=>CutS.mk [(1,zN n),(6,(U6 0 0 (0) ((o++replicate (bh (l.getD i mq)) (aS (l.getD i mq) o)).length) 1)),(19,Vl false k 2 (flatMap ce l)),(20,zN k),(21,zN i),(34,Vh 8 8 1),(35,zN (Rn.x (getD l i mq))),(36,D.v (.bool false)),(39,Vh 8 8 1),(40,zN (Rn.x (getD l i mq))),(41,zN (rb (Rn.s (getD l i mq)))),(42,zN (Vp.p2 (Rn.s (getD l i mq)))),(43,D.v (.bool (decide ((↑(Vp.p2 (Rn.s (getD l i mq))):Int)<=(↑(Rn.x (getD l i mq)):Int)))))] [⟨0,0,0,0,.b ⟨(o++replicate (bh (l.getD i mq)) (aS (l.getD i mq) o)).map dB,5,true⟩⟩,⟨8,8,32,32,.b ⟨[zN (Rn.s (getD l i mq)),zN (Rn.x (getD l i mq))],187,false⟩⟩] 16⟩] 1000 64 (fun|⟨j,hj,_⟩,Q,Z9,ZC=>(.s 2 (.bd ((j:Int)<(↑(bh (getD l i mq)):Int)) (λ p9 p9f=>(.s 5 (.chk (true&&U5 (length (aH o (aS (getD l i mq) o) j)*1) (length (map dB (aH o (aS (getD l i mq) o) j)))&&true&&true&&true&&true&&U7 ((length (aH o (aS (getD l i mq) o) j)+1)*1) 140737488355328) uM (.s 3 (.op (j+1) gj (.s 1 (.val 6 (U6 48 48 0 (length (aH o (aS (getD l i mq) o) j)+1) 1) (U6 48 48 0 (length (aH o (aS (getD l i mq) o) (j+1))) 1) (by(exact ng)) (.val 80 (zI (j+1)) (zN (j+1)) fV (.blk 48 48 (U1 (map dB (aH o (aS (getD l i mq) o) j)++[bl (U3 (aS (getD l i mq) o))]) 5 true) (U1 (map dB (aH o (aS (getD l i mq) o) (j+1))) 5 true) (by(refine aB jy)) (Hn.next Z9 ⟨(j+1),om,⟨⟩⟩ uN [(48,48),(8,8)] ro)))))))))) (λ p9 p9f=>(.val 6 (U6 0 0 0 (length (aH o (aS (getD l i mq) o) j)) 1) (U6 0 0 0 (length (o++replicate (bh (getD l i mq)) (aS (getD l i mq) o))) 1) kt (.blk 0 0 (U1 (map dB (aH o (aS (getD l i mq) o) j)) 5 true) (U1 (map dB (o++replicate (bh (getD l i mq)) (aS (getD l i mq) o))) 5 true) kt (Hn.last ZC 0 (():Unit) rfl [(0,0),(8,8)] ro))))))) (fun|⟨j,hj,_⟩=>by kernel_rfl) ⟨(0),om,⟨⟩⟩ [(0,0),(32,32)] ro (ck (fun|()=>(.s 2 (.ow (i+1) (.s 1 (.val 21 (zI (i+1)) (zN (i+1)) fV (Hn.next ZA ⟨(i+1),om,(o++replicate (bh (l.getD i mq)) (aS (l.getD i mq) o)),uO,uP,⟨⟩⟩ uQ [(0,0)] ro))))))))))))))))))))))) (λ p7=>have p7f:=ap p7;(.s 3 (.br ((↑(Rn.s (getD l i mq)):Int)==17) (λ p10=>have p10f:=eq_of_beq p10;(.s 3 (.op ((↑(Rn.x (getD l i mq)):Int)+3) gj (.s 6 (.op ((↑(length o):Int)+((↑(Rn.x (getD l i mq)):Int)+3)) gj (.s 3 (.bd ((n:Int)<(↑(length o):Int)+((↑(Rn.x (getD l i mq)):Int)+3)) (λ p11 p11f=>(.abs FC)) (λ p11 p11f=>(.s 2 (.val 6 (U6 0 0 0 (length o) 1) (U6 0 0 0 (length (aH o (aS (getD l i mq) o) 0)) 1) (by exact rfl) (.val 11 (bI 0) (bl (U3 (aS (getD l i mq) o))) yA (.val 79 (zI ((↑(Rn.x (getD l i mq)):Int)+3)) (zN (bh (getD l i mq))) fV (.blk 0 0 (U1 (map dB o) 5 true) (U1 (map dB (aH o (aS (getD l i mq) o) 0)) 5 true) (by exact rfl) (Hn.inl T_ok ah false 93 0 (aq Tryz.prog 181 1) (λ(x:(j:Nat)×'(hj:j<=bh (l.getD i mq))×'Unit)=>match x with|⟨j,hj,_⟩=>CutS.mk [(1,zN n),(6,(U6 0 0 (0) ((aH o (aS (l.getD i mq) o) j).length) 1)),(11,dB (aS (l.getD i mq) o)),(19,Vl false k 2 (flatMap ce l)),(20,zN k),(21,zN i),(34,Vh 8 8 1),(35,zN (Rn.x (getD l i mq))),(36,D.v (.bool false)),(39,Vh 8 8 1),(40,zN (Rn.x (getD l i mq))),(41,zN (rb (Rn.s (getD l i mq)))),(42,zN (Vp.p2 (Rn.s (getD l i mq)))),(43,D.v (.bool (decide ((↑(Vp.p2 (Rn.s (getD l i mq))):Int)<=(↑(Rn.x (getD l i mq)):Int))))),(79,nD (bh (l.getD i mq))),(80,nD j)] [⟨0,0,0,0,.b ⟨(aH o (aS (l.getD i mq) o) j).map dB,5,true⟩⟩,⟨8,8,32,32,.b ⟨[zN (Rn.s (getD l i mq)),zN (Rn.x (getD l i mq))],187,false⟩⟩] 16) (λ(x:(j:Nat)×'(hj:j<=bh (l.getD i mq))×'Unit)=>match x with|⟨j,hj,_⟩=>bh (l.getD i mq)-j) [⟨Unit,.exit 7,λ x=>match x with|()=>CutS.mk [(1,zN n),(6,(U6 0 0 (0) ((o++replicate (bh (l.getD i mq)) (aS (l.getD i mq) o)).length) 1)),(19,Vl false k 2 (flatMap ce l)),(20,zN k),(21,zN i),(34,Vh 8 8 1),(35,zN (Rn.x (getD l i mq))),(36,D.v (.bool false)),(39,Vh 8 8 1),(40,zN (Rn.x (getD l i mq))),(41,zN (rb (Rn.s (getD l i mq)))),(42,zN (Vp.p2 (Rn.s (getD l i mq)))),(43,D.v (.bool (decide ((↑(Vp.p2 (Rn.s (getD l i mq))):Int)<=(↑(Rn.x (getD l i mq)):Int)))))] [⟨0,0,0,0,.b ⟨(o++replicate (bh (l.getD i mq)) (aS (l.getD i mq) o)).map dB,5,true⟩⟩,⟨8,8,32,32,.b ⟨[zN (Rn.s (getD l i mq)),zN (Rn.x (getD l i mq))],187,false⟩⟩] 16⟩] 1000 64 (fun|⟨j,hj,_⟩,Q,Z9,ZC=>(.s 2 (.bd ((j:Int)<(↑(bh (getD l i mq)):Int)) (λ p12 p12f=>(.s 5 (.chk (true&&U5 (length (aH o (aS (getD l i mq) o) j)*1) (length (map dB (aH o (aS (getD l i mq) o) j)))&&true&&true&&true&&true&&U7 ((length (aH o (aS (getD l i mq) o) j)+1)*1) 140737488355328) uM (.s 3 (.op (j+1) gj (.s 1 (.val 6 (U6 48 48 0 (length (aH o (aS (getD l i mq) o) j)+1) 1) (U6 48 48 0 (length (aH o (aS (getD l i mq) o) (j+1))) 1) (by(exact ng)) (.val 80 (zI (j+1)) (zN (j+1)) fV (.blk 48 48 (U1 (map dB (aH o (aS (getD l i mq) o) j)++[bl (U3 (aS (getD l i mq) o))]) 5 true) (U1 (map dB (aH o (aS (getD l i mq) o) (j+1))) 5 true) (by(refine aB jy)) (Hn.next Z9 ⟨(j+1),om,⟨⟩⟩ uN [(48,48),(8,8)] ro)))))))))) (λ p12 p12f=>(.val 6 (U6 0 0 0 (length (aH o (aS (getD l i mq) o) j)) 1) (U6 0 0 0 (length (o++replicate (bh (getD l i mq)) (aS (getD l i mq) o))) 1) kt (.blk 0 0 (U1 (map dB (aH o (aS (getD l i mq) o) j)) 5 true) (U1 (map dB (o++replicate (bh (getD l i mq)) (aS (getD l i mq) o))) 5 true) kt (Hn.last ZC 0 (():Unit) rfl [(0,0),(8,8)] ro))))))) (fun|⟨j,hj,_⟩=>by kernel_rfl) ⟨(0),om,⟨⟩⟩ [(0,0),(32,32)] ro (ck (fun|()=>(.s 2 (.ow (i+1) (.s 1 (.val 21 (zI (i+1)) (zN (i+1)) fV (Hn.next ZA ⟨(i+1),om,(o++replicate (bh (l.getD i mq)) (aS (l.getD i mq) o)),uO,uP,⟨⟩⟩ uQ [(0,0)] ro))))))))))))))))))))) (λ p10=>have p10f:=ap p10;(.s 7 (.opt (ax .u8 (↑(Rn.s (getD l i mq)):Int)) (bl (Rn.s (getD l i mq))) (b4 om) (.s 7 (.ow ((↑(length o):Int)+1) (.s 3 (.bd ((n:Int)<(↑(length o):Int)+1) (λ p13 p13f=>(.abs FC)) (λ p13 p13f=>(.s 2 (.val 6 (U6 0 0 0 (length o) 1) (U6 0 0 0 (length (aH o (aS (getD l i mq) o) 0)) 1) (by exact rfl) (.val 11 (bl (Rn.s (getD l i mq))) (bl (U3 (aS (getD l i mq) o))) (by(exact Oe (by(omega)))) (.val 79 (zI 1) (zN (bh (getD l i mq))) fV (.blk 0 0 (U1 (map dB o) 5 true) (U1 (map dB (aH o (aS (getD l i mq) o) 0)) 5 true) (by exact rfl) (Hn.inl T_ok ah false 93 0 (aq Tryz.prog 181 1) (λ(x:(j:Nat)×'(hj:j<=bh (l.getD i mq))×'Unit)=>match x with|⟨j,hj,_⟩=>CutS.mk [(1,zN n),(6,(U6 0 0 (0) ((aH o (aS (l.getD i mq) o) j).length) 1)),(11,dB (aS (l.getD i mq) o)),(19,Vl false k 2 (flatMap ce l)),(20,zN k),(21,zN i),(34,Vh 8 8 1),(35,zN (Rn.x (getD l i mq))),(36,D.v (.bool false)),(39,Vh 8 8 1),(40,zN (Rn.x (getD l i mq))),(41,zN (rb (Rn.s (getD l i mq)))),(42,zN (Vp.p2 (Rn.s (getD l i mq)))),(43,D.v (.bool (decide ((↑(Vp.p2 (Rn.s (getD l i mq))):Int)<=(↑(Rn.x (getD l i mq)):Int))))),(79,nD (bh (l.getD i mq))),(80,nD j)] [⟨0,0,0,0,.b ⟨(aH o (aS (l.getD i mq) o) j).map dB,5,true⟩⟩,⟨8,8,32,32,.b ⟨[zN (Rn.s (getD l i mq)),zN (Rn.x (getD l i mq))],187,false⟩⟩] 16) (λ(x:(j:Nat)×'(hj:j<=bh (l.getD i mq))×'Unit)=>match x with|⟨j,hj,_⟩=>bh (l.getD i mq)-j) [⟨Unit,.exit 7,λ x=>match x with|()=>CutS.mk [(1,zN n),(6,(U6 0 0 (0) ((o++replicate (bh (l.getD i mq)) (aS (l.getD i mq) o)).length) 1)),(19,Vl false k 2 (flatMap ce l)),(20,zN k),(21,zN i),(34,Vh 8 8 1),(35,zN (Rn.x (getD l i mq))),(36,D.v (.bool false)),(39,Vh 8 8 1),(40,zN (Rn.x (getD l i mq))),(41,zN (rb (Rn.s (getD l i mq)))),(42,zN (Vp.p2 (Rn.s (getD l i mq)))),(43,D.v (.bool (decide ((↑(Vp.p2 (Rn.s (getD l i mq))):Int)<=(↑(Rn.x (getD l i mq)):Int)))))] [⟨0,0,0,0,.b ⟨(o++replicate (bh (l.getD i mq)) (aS (l.getD i mq) o)).map dB,5,true⟩⟩,⟨8,8,32,32,.b ⟨[zN (Rn.s (getD l i mq)),zN (Rn.x (getD l i mq))],187,false⟩⟩] 16⟩] 1000 64 (fun|⟨j,hj,_⟩,Q,Z9,ZC=>(.s 2 (.bd ((j:Int)<(↑(bh (getD l i mq)):Int)) (λ p14 p14f=>(.s 5 (.chk (true&&U5 (length (aH o (aS (getD l i mq) o) j)*1) (length (map dB (aH o (aS (getD l i mq) o) j)))&&true&&true&&true&&true&&U7 ((length (aH o (aS (getD l i mq) o) j)+1)*1) 140737488355328) uM (.s 3 (.op (j+1) gj (.s 1 (.val 6 (U6 48 48 0 (length (aH o (aS (getD l i mq) o) j)+1) 1) (U6 48 48 0 (length (aH o (aS (getD l i mq) o) (j+1))) 1) (by(exact ng)) (.val 80 (zI (j+1)) (zN (j+1)) fV (.blk 48 48 (U1 (map dB (aH o (aS (getD l i mq) o) j)++[bl (U3 (aS (getD l i mq) o))]) 5 true) (U1 (map dB (aH o (aS (getD l i mq) o) (j+1))) 5 true) (by(refine aB jy)) (Hn.next Z9 ⟨(j+1),om,⟨⟩⟩ uN [(48,48),(8,8)] ro)))))))))) (λ p14 p14f=>(.val 6 (U6 0 0 0 (length (aH o (aS (getD l i mq) o) j)) 1) (U6 0 0 0 (length (o++replicate (bh (getD l i mq)) (aS (getD l i mq) o))) 1) kt (.blk 0 0 (U1 (map dB (aH o (aS (getD l i mq) o) j)) 5 true) (U1 (map dB (o++replicate (bh (getD l i mq)) (aS (getD l i mq) o))) 5 true) kt (Hn.last ZC 0 (():Unit) rfl [(0,0),(8,8)] ro))))))) (fun|⟨j,hj,_⟩=>by kernel_rfl) ⟨(0),om,⟨⟩⟩ [(0,0),(32,32)] ro (ck (fun|()=>(.s 2 (.ow (i+1) (.s 1 (.val 21 (zI (i+1)) (zN (i+1)) fV (Hn.next ZA ⟨(i+1),om,(o++replicate (bh (l.getD i mq)) (aS (l.getD i mq) o)),uO,uP,⟨⟩⟩ uQ [(0,0)] ro)))))))))))))))))))))))))))))))))))) (λ p1=>have Z6:=B7 p1;(.abs (by(have h9:=dp (l.getD i mq).s;have hb:=hB i;have hc:=ej (l.getD i mq);have q:=yC (l:=l) (n:=n) (i:=i) (o:=o) om (.inl om);rw[hR]at q;rw[q]at h;exact absurd h (by decide))))))))))))) (λ p0 Z7=>(.val 6 (U6 0 0 0 (length o) 1) (U6 0 0 0 (length (Va (cv n l))) 1) (by(rw[(su hR om h).1])) (.blk 0 0 (U1 (map dB o) 5 true) (U1 (map dB (Va (cv n l))) 5 true) (by(rw[(su hR om h).1])) (Hn.last ZD 0 (⟨(by(exact(su hR om h).2)),⟨⟩⟩:(hl:(cv n l).1.length=n)×'Unit) rfl [(0,0)] ro))))))) (fun|⟨i,hi,o,ho,hR,_⟩=>by kernel_rfl) ⟨(0),om,([]),(by(simp;done)),(by(exact(iS n l).symm)),⟨⟩⟩ [(96,96)] ro (ck (fun|⟨hl,_⟩=>(.s 5 (.f ((↑(length (Va (cv n l))):Int) !=(n:Int)) (by(simp <;>(omega))) (.s 3 (.out [0] [0] (V2 [U6 0 0 0 (length (Va (cv n l))) 1,zI 0]) [U1 (map dB (Va (cv n l))) 5 true] R (ok _ _ wr wr))))))))))))) kr
theorem Cj {n:Nat}{l:List Rn}{i:Nat}{o:Z1}{R:Z1×Nat}(hR:cq n (l.drop i) o=R)(hi:l.length<=i)(h:R.2≠0):o.length≠n∧R.2=100:=by
 rw[It hi]at hR
 split at hR
 ·rw[<-hR]at h;exact absurd rfl h
 ·next q=>exact⟨q,by rw[<-hR]⟩
theorem FD (l:List Rn)(k:Nat)(hk:k=l.length)(hK:k<=1000)(n:Nat)(hn:n<=320)(hB:∀i,(l.getD i mq).x<=1000000∧(l.getD i mq).s<=1000000)(h:(cv n l).2≠0):S0 181 [.sl false k 2 (l.flatMap ce),nD n] [] (.tup [dw,nD (cv n l).2]) []:=by
 refine SpecH.run T_ok ah Tryz.func181 rfl rfl rfl trivial rfl 1000 64 (λ R ok=>(.s 12 (.f (decide (320<(n:Int))) Ci (.s 4 (.nils 6 96 1 5 (Hn.inl T_ok ah false 93 0 (aq Tryz.prog 181 0) (λ(x:(i:Nat)×'(hi:i<=k)×'(o:Z1)×'(ho:o.length<=n)×'(hR:cq n (l.drop i) o=cv n l)×'Unit)=>match x with|⟨i,hi,o,ho,hR,_⟩=>CutS.mk [(1,zN n),(6,(U6 0 0 (0) (o.length) 1)),(19,Vl false k 2 (flatMap ce l)),(20,zN k),(21,nD i)] [⟨0,0,96,96,.b ⟨o.map dB,5,true⟩⟩] 8) (λ(x:(i:Nat)×'(hi:i<=k)×'(o:Z1)×'(ho:o.length<=n)×'(hR:cq n (l.drop i) o=cv n l)×'Unit)=>match x with|⟨i,hi,o,ho,hR,_⟩=>k-i) [⟨(o2:Z1)×'(ho2:o2.length≠n)×'(ho3:o2.length<=n)×'(he:(cv n l).2=100)×'Unit,.exit 0,λ x=>match x with|⟨o2,ho2,ho3,he,_⟩=>CutS.mk [(1,zN n),(6,(U6 0 0 (0) (o2.length) 1)),(19,Vl false k 2 (flatMap ce l)),(20,zN k)] [⟨0,0,96,96,.b ⟨o2.map dB,5,true⟩⟩] 8⟩,⟨Unit,.ret,λ x=>match x with|()=>CutS.mk [(4,dw),(5,nD (cv n l).2)] [] 8⟩] 1000 64 (fun|⟨i,hi,o,ho,hR,_⟩,Q,ZA,ZD=>(.s 2 (.bd ((i:Int)<k) (λ p0 Z7=>(.s 1 (.chk (true&&decide ((i:Int)<k)&&true) FB (.s 2 (.chk (U7 (i*2+2) (length (flatMap ce l))) Is (.lst (take 2 (drop (i*2) (flatMap ce l))) ([zN (Rn.s (getD l i mq)),zN (Rn.x (getD l i mq))]) (aD (k:=2) (i:=i) (λ _=>rfl) om om) (.s 12 (.em (decide (Rn.s (getD l i mq)<=18)) (λ p1=>have Z6:=B6 p1;(.cl 113 false [] (.fn Ca (@yD (Rn.s (getD l i mq)) om)) (.s 38 (.opt (ax .i64 (2^min (rb (Rn.s (getD l i mq))) 64*1)) (nD (p2 (Rn.s (getD l i mq)))) (@Iw (l.getD i mq).s) (.s 4 (.bd ((↑(p2 (Rn.s (getD l i mq))):Int)<=(↑(Rn.x (getD l i mq)):Int)) (λ p2 Z5=>(.s 2 (.val 5 (zI 8) (zN (U0 (cv n l))) (by(have h9:=dp (l.getD i mq).s;have hb:=hB i;have hc:=ej (l.getD i mq);refine aR ?_;have q:=yC (l:=l) (n:=n) (i:=i) (o:=o) om (.inr om);rw[hR]at q;rw[q];rfl)) (Hn.last ZD 1 (():Unit) rfl [] ro)))) (λ p2 Z5=>(.s 18 (.br ((↑(Rn.s (getD l i mq)):Int)==16) (λ p3=>have Z4:=eq_of_beq p3;(.s 4 (.br ((↑(length o):Int)==0) (λ p4=>have Z3:=eq_of_beq p4;(.s 2 (.val 5 (zI 100) (zN (U0 (cv n l))) (by(have h9:=dp (l.getD i mq).s;have hb:=hB i;have hc:=ej (l.getD i mq);refine aR ?_;have q:=Iu (l:=l) (n:=n) (i:=i) (o:=o) om om om;rw[hR]at q;rw[q];rfl)) (Hn.last ZD 1 (():Unit) rfl [] ro)))) (λ p4=>have Z3:=ap p4;(.s 5 (.ow ((↑(length o):Int)-1) (.s 1 (.chk (decide (0<=(↑(length o):Int)-1)&&decide ((↑(length o):Int)-1<(↑(length o):Int))) FB (.s 2 (.opt ((map dB o)[0+AB ((↑(length o):Int)-1)*1]?) (dB (getD o (0+AB ((↑(length o):Int)-1)*1) mq)) (av _ _ om) (.s 4 (.op ((↑(Rn.x (getD l i mq)):Int)+3) gj (.s 6 (.op ((↑(length o):Int)+((↑(Rn.x (getD l i mq)):Int)+3)) gj (.s 3 (.bd ((n:Int)<(↑(length o):Int)+((↑(Rn.x (getD l i mq)):Int)+3)) (λ p5 p5f=>(.s 2 (.val 5 (zI 100) (zN (U0 (cv n l))) yB (Hn.last ZD 1 (():Unit) rfl [] ro)))) (λ p5 p5f=>(.s 2 (.val 6 (U6 0 0 0 (length o) 1) (U6 0 0 0 (length (aH o (aS (getD l i mq) o) 0)) 1) (by exact rfl) (.val 11 (bl (U3 (getD o (0+AB ((↑(length o):Int)-1)*1) mq))) (bl (U3 (aS (getD l i mq) o))) (by(exact Ix (by(omega)) (by(omega)))) (.val 79 (zI ((↑(Rn.x (getD l i mq)):Int)+3)) (zN (bh (getD l i mq))) fV (.blk 0 0 (U1 (map dB o) 5 true) (U1 (map dB (aH o (aS (getD l i mq) o) 0)) 5 true) (by exact rfl) (Hn.inl T_ok ah false 93 0 (aq Tryz.prog 181 1) (λ(x:(j:Nat)×'(hj:j<=bh (l.getD i mq))×'Unit)=>match x with|⟨j,hj,_⟩=>CutS.mk [(1,zN n),(6,(U6 0 0 (0) ((aH o (aS (l.getD i mq) o) j).length) 1)),(11,dB (aS (l.getD i mq) o)),(19,Vl false k 2 (flatMap ce l)),(20,zN k),(21,zN i),(34,Vh 8 8 1),(35,zN (Rn.x (getD l i mq))),(36,D.v (.bool false)),(39,Vh 8 8 1),(40,zN (Rn.x (getD l i mq))),(41,zN (rb (Rn.s (getD l i mq)))),(42,zN (Vp.p2 (Rn.s (getD l i mq)))),(43,D.v (.bool (decide ((↑(Vp.p2 (Rn.s (getD l i mq))):Int)<=(↑(Rn.x (getD l i mq)):Int))))),(79,nD (bh (l.getD i mq))),(80,nD j)] [⟨0,0,0,0,.b ⟨(aH o (aS (l.getD i mq) o) j).map dB,5,true⟩⟩,⟨8,8,32,32,.b ⟨[zN (Rn.s (getD l i mq)),zN (Rn.x (getD l i mq))],187,false⟩⟩] 16) (λ(x:(j:Nat)×'(hj:j<=bh (l.getD i mq))×'Unit)=>match x with|⟨j,hj,_⟩=>bh (l.getD i mq)-j) [⟨Unit,.exit 7,λ x=>match x with|()=>CutS.mk [(1,zN n),(6,(U6 0 0 (0) ((o++replicate (bh (l.getD i mq)) (aS (l.getD i mq) o)).length) 1)),(19,Vl false k 2 (flatMap ce l)),(20,zN k),(21,zN i),(34,Vh 8 8 1),(35,zN (Rn.x (getD l i mq))),(36,D.v (.bool false)),(39,Vh 8 8 1),(40,zN (Rn.x (getD l i mq))),(41,zN (rb (Rn.s (getD l i mq)))),(42,zN (Vp.p2 (Rn.s (getD l i mq)))),(43,D.v (.bool (decide ((↑(Vp.p2 (Rn.s (getD l i mq))):Int)<=(↑(Rn.x (getD l i mq)):Int)))))] [⟨0,0,0,0,.b ⟨(o++replicate (bh (l.getD i mq)) (aS (l.getD i mq) o)).map dB,5,true⟩⟩,⟨8,8,32,32,.b ⟨[zN (Rn.s (getD l i mq)),zN (Rn.x (getD l i mq))],187,false⟩⟩] 16⟩] 1000 64 (fun|⟨j,hj,_⟩,Q,Z9,ZC=>(.s 2 (.bd ((j:Int)<(↑(bh (getD l i mq)):Int)) (λ p6 p6f=>(.s 5 (.chk (true&&U5 (length (aH o (aS (getD l i mq) o) j)*1) (length (map dB (aH o (aS (getD l i mq) o) j)))&&true&&true&&true&&true&&U7 ((length (aH o (aS (getD l i mq) o) j)+1)*1) 140737488355328) uM (.s 3 (.op (j+1) gj (.s 1 (.val 6 (U6 48 48 0 (length (aH o (aS (getD l i mq) o) j)+1) 1) (U6 48 48 0 (length (aH o (aS (getD l i mq) o) (j+1))) 1) (by(exact ng)) (.val 80 (zI (j+1)) (zN (j+1)) fV (.blk 48 48 (U1 (map dB (aH o (aS (getD l i mq) o) j)++[bl (U3 (aS (getD l i mq) o))]) 5 true) (U1 (map dB (aH o (aS (getD l i mq) o) (j+1))) 5 true) (by(refine aB jy)) (Hn.next Z9 ⟨(j+1),om,⟨⟩⟩ uN [(48,48),(8,8)] ro)))))))))) (λ p6 p6f=>(.val 6 (U6 0 0 0 (length (aH o (aS (getD l i mq) o) j)) 1) (U6 0 0 0 (length (o++replicate (bh (getD l i mq)) (aS (getD l i mq) o))) 1) kt (.blk 0 0 (U1 (map dB (aH o (aS (getD l i mq) o) j)) 5 true) (U1 (map dB (o++replicate (bh (getD l i mq)) (aS (getD l i mq) o))) 5 true) kt (Hn.last ZC 0 (():Unit) rfl [(0,0),(8,8)] ro))))))) (fun|⟨j,hj,_⟩=>by kernel_rfl) ⟨(0),om,⟨⟩⟩ [(0,0),(32,32)] ro (ck (fun|()=>(.s 2 (.ow (i+1) (.s 1 (.val 21 (zI (i+1)) (zN (i+1)) fV (Hn.next ZA ⟨(i+1),om,(o++replicate (bh (l.getD i mq)) (aS (l.getD i mq) o)),uO,uP,⟨⟩⟩ uQ [(0,0)] ro)))))))))))))))))))))))))))))) (λ p3=>have Z4:=ap p3;(.s 3 (.br ((↑(Rn.s (getD l i mq)):Int)==18) (λ p7=>have p7f:=eq_of_beq p7;(.s 3 (.op ((↑(Rn.x (getD l i mq)):Int)+8) gj (.s 4 (.op ((↑(Rn.x (getD l i mq)):Int)+8+3) gj (.s 6 (.op ((↑(length o):Int)+((↑(Rn.x (getD l i mq)):Int)+8+3)) gj (.s 3 (.bd ((n:Int)<(↑(length o):Int)+((↑(Rn.x (getD l i mq)):Int)+8+3)) (λ p8 p8f=>(.s 2 (.val 5 (zI 100) (zN (U0 (cv n l))) yB (Hn.last ZD 1 (():Unit) rfl [] ro)))) (λ p8 p8f=>(.s 2 (.val 6 (U6 0 0 0 (length o) 1) (U6 0 0 0 (length (aH o (aS (getD l i mq) o) 0)) 1) (by exact rfl) (.val 11 (bI 0) (bl (U3 (aS (getD l i mq) o))) yA (.val 79 (zI ((↑(Rn.x (getD l i mq)):Int)+8+3)) (zN (bh (getD l i mq))) fV (.blk 0 0 (U1 (map dB o) 5 true) (U1 (map dB (aH o (aS (getD l i mq) o) 0)) 5 true) (by exact rfl) (Hn.inl T_ok ah false 93 0 (aq Tryz.prog 181 1) (λ(x:(j:Nat)×'(hj:j<=bh (l.getD i mq))×'Unit)=>match x with|⟨j,hj,_⟩=>CutS.mk [(1,zN n),(6,(U6 0 0 (0) ((aH o (aS (l.getD i mq) o) j).length) 1)),(11,dB (aS (l.getD i mq) o)),(19,Vl false k 2 (flatMap ce l)),(20,zN k),(21,zN i),(34,Vh 8 8 1),(35,zN (Rn.x (getD l i mq))),(36,D.v (.bool false)),(39,Vh 8 8 1),(40,zN (Rn.x (getD l i mq))),(41,zN (rb (Rn.s (getD l i mq)))),(42,zN (Vp.p2 (Rn.s (getD l i mq)))),(43,D.v (.bool (decide ((↑(Vp.p2 (Rn.s (getD l i mq))):Int)<=(↑(Rn.x (getD l i mq)):Int))))),(79,nD (bh (l.getD i mq))),(80,nD j)] [⟨0,0,0,0,.b ⟨(aH o (aS (l.getD i mq) o) j).map dB,5,true⟩⟩,⟨8,8,32,32,.b ⟨[zN (Rn.s (getD l i mq)),zN (Rn.x (getD l i mq))],187,false⟩⟩] 16) (λ(x:(j:Nat)×'(hj:j<=bh (l.getD i mq))×'Unit)=>match x with|⟨j,hj,_⟩=>bh (l.getD i mq)-j) [⟨Unit,.exit 7,λ x=>match x with|()=>CutS.mk [(1,zN n),(6,(U6 0 0 (0) ((o++replicate (bh (l.getD i mq)) (aS (l.getD i mq) o)).length) 1)),(19,Vl false k 2 (flatMap ce l)),(20,zN k),(21,zN i),(34,Vh 8 8 1),(35,zN (Rn.x (getD l i mq))),(36,D.v (.bool false)),(39,Vh 8 8 1),(40,zN (Rn.x (getD l i mq))),(41,zN (rb (Rn.s (getD l i mq)))),(42,zN (Vp.p2 (Rn.s (getD l i mq)))),(43,D.v (.bool (decide ((↑(Vp.p2 (Rn.s (getD l i mq))):Int)<=(↑(Rn.x (getD l i mq)):Int)))))] [⟨0,0,0,0,.b ⟨(o++replicate (bh (l.getD i mq)) (aS (l.getD i mq) o)).map dB,5,true⟩⟩,⟨8,8,32,32,.b ⟨[zN (Rn.s (getD l i mq)),zN (Rn.x (getD l i mq))],187,false⟩⟩] 16⟩] 1000 64 (fun|⟨j,hj,_⟩,Q,Z9,ZC=>(.s 2 (.bd ((j:Int)<(↑(bh (getD l i mq)):Int)) (λ p9 p9f=>(.s 5 (.chk (true&&U5 (length (aH o (aS (getD l i mq) o) j)*1) (length (map dB (aH o (aS (getD l i mq) o) j)))&&true&&true&&true&&true&&U7 ((length (aH o (aS (getD l i mq) o) j)+1)*1) 140737488355328) uM (.s 3 (.op (j+1) gj (.s 1 (.val 6 (U6 48 48 0 (length (aH o (aS (getD l i mq) o) j)+1) 1) (U6 48 48 0 (length (aH o (aS (getD l i mq) o) (j+1))) 1) (by(exact ng)) (.val 80 (zI (j+1)) (zN (j+1)) fV (.blk 48 48 (U1 (map dB (aH o (aS (getD l i mq) o) j)++[bl (U3 (aS (getD l i mq) o))]) 5 true) (U1 (map dB (aH o (aS (getD l i mq) o) (j+1))) 5 true) (by(refine aB jy)) (Hn.next Z9 ⟨(j+1),om,⟨⟩⟩ uN [(48,48),(8,8)] ro)))))))))) (λ p9 p9f=>(.val 6 (U6 0 0 0 (length (aH o (aS (getD l i mq) o) j)) 1) (U6 0 0 0 (length (o++replicate (bh (getD l i mq)) (aS (getD l i mq) o))) 1) kt (.blk 0 0 (U1 (map dB (aH o (aS (getD l i mq) o) j)) 5 true) (U1 (map dB (o++replicate (bh (getD l i mq)) (aS (getD l i mq) o))) 5 true) kt (Hn.last ZC 0 (():Unit) rfl [(0,0),(8,8)] ro))))))) (fun|⟨j,hj,_⟩=>by kernel_rfl) ⟨(0),om,⟨⟩⟩ [(0,0),(32,32)] ro (ck (fun|()=>(.s 2 (.ow (i+1) (.s 1 (.val 21 (zI (i+1)) (zN (i+1)) fV (Hn.next ZA ⟨(i+1),om,(o++replicate (bh (l.getD i mq)) (aS (l.getD i mq) o)),uO,uP,⟨⟩⟩ uQ [(0,0)] ro))))))))))))))))))))))) (λ p7=>have p7f:=ap p7;(.s 3 (.br ((↑(Rn.s (getD l i mq)):Int)==17) (λ p10=>have p10f:=eq_of_beq p10;(.s 3 (.op ((↑(Rn.x (getD l i mq)):Int)+3) gj (.s 6 (.op ((↑(length o):Int)+((↑(Rn.x (getD l i mq)):Int)+3)) gj (.s 3 (.bd ((n:Int)<(↑(length o):Int)+((↑(Rn.x (getD l i mq)):Int)+3)) (λ p11 p11f=>(.s 2 (.val 5 (zI 100) (zN (U0 (cv n l))) yB (Hn.last ZD 1 (():Unit) rfl [] ro)))) (λ p11 p11f=>(.s 2 (.val 6 (U6 0 0 0 (length o) 1) (U6 0 0 0 (length (aH o (aS (getD l i mq) o) 0)) 1) (by exact rfl) (.val 11 (bI 0) (bl (U3 (aS (getD l i mq) o))) yA (.val 79 (zI ((↑(Rn.x (getD l i mq)):Int)+3)) (zN (bh (getD l i mq))) fV (.blk 0 0 (U1 (map dB o) 5 true) (U1 (map dB (aH o (aS (getD l i mq) o) 0)) 5 true) (by exact rfl) (Hn.inl T_ok ah false 93 0 (aq Tryz.prog 181 1) (λ(x:(j:Nat)×'(hj:j<=bh (l.getD i mq))×'Unit)=>match x with|⟨j,hj,_⟩=>CutS.mk [(1,zN n),(6,(U6 0 0 (0) ((aH o (aS (l.getD i mq) o) j).length) 1)),(11,dB (aS (l.getD i mq) o)),(19,Vl false k 2 (flatMap ce l)),(20,zN k),(21,zN i),(34,Vh 8 8 1),(35,zN (Rn.x (getD l i mq))),(36,D.v (.bool false)),(39,Vh 8 8 1),(40,zN (Rn.x (getD l i mq))),(41,zN (rb (Rn.s (getD l i mq)))),(42,zN (Vp.p2 (Rn.s (getD l i mq)))),(43,D.v (.bool (decide ((↑(Vp.p2 (Rn.s (getD l i mq))):Int)<=(↑(Rn.x (getD l i mq)):Int))))),(79,nD (bh (l.getD i mq))),(80,nD j)] [⟨0,0,0,0,.b ⟨(aH o (aS (l.getD i mq) o) j).map dB,5,true⟩⟩,⟨8,8,32,32,.b ⟨[zN (Rn.s (getD l i mq)),zN (Rn.x (getD l i mq))],187,false⟩⟩] 16) (λ(x:(j:Nat)×'(hj:j<=bh (l.getD i mq))×'Unit)=>match x with|⟨j,hj,_⟩=>bh (l.getD i mq)-j) [⟨Unit,.exit 7,λ x=>match x with|()=>CutS.mk [(1,zN n),(6,(U6 0 0 (0) ((o++replicate (bh (l.getD i mq)) (aS (l.getD i mq) o)).length) 1)),(19,Vl false k 2 (flatMap ce l)),(20,zN k),(21,zN i),(34,Vh 8 8 1),(35,zN (Rn.x (getD l i mq))),(36,D.v (.bool false)),(39,Vh 8 8 1),(40,zN (Rn.x (getD l i mq))),(41,zN (rb (Rn.s (getD l i mq)))),(42,zN (Vp.p2 (Rn.s (getD l i mq)))),(43,D.v (.bool (decide ((↑(Vp.p2 (Rn.s (getD l i mq))):Int)<=(↑(Rn.x (getD l i mq)):Int)))))] [⟨0,0,0,0,.b ⟨(o++replicate (bh (l.getD i mq)) (aS (l.getD i mq) o)).map dB,5,true⟩⟩,⟨8,8,32,32,.b ⟨[zN (Rn.s (getD l i mq)),zN (Rn.x (getD l i mq))],187,false⟩⟩] 16⟩] 1000 64 (fun|⟨j,hj,_⟩,Q,Z9,ZC=>(.s 2 (.bd ((j:Int)<(↑(bh (getD l i mq)):Int)) (λ p12 p12f=>(.s 5 (.chk (true&&U5 (length (aH o (aS (getD l i mq) o) j)*1) (length (map dB (aH o (aS (getD l i mq) o) j)))&&true&&true&&true&&true&&U7 ((length (aH o (aS (getD l i mq) o) j)+1)*1) 140737488355328) uM (.s 3 (.op (j+1) gj (.s 1 (.val 6 (U6 48 48 0 (length (aH o (aS (getD l i mq) o) j)+1) 1) (U6 48 48 0 (length (aH o (aS (getD l i mq) o) (j+1))) 1) (by(exact ng)) (.val 80 (zI (j+1)) (zN (j+1)) fV (.blk 48 48 (U1 (map dB (aH o (aS (getD l i mq) o) j)++[bl (U3 (aS (getD l i mq) o))]) 5 true) (U1 (map dB (aH o (aS (getD l i mq) o) (j+1))) 5 true) (by(refine aB jy)) (Hn.next Z9 ⟨(j+1),om,⟨⟩⟩ uN [(48,48),(8,8)] ro)))))))))) (λ p12 p12f=>(.val 6 (U6 0 0 0 (length (aH o (aS (getD l i mq) o) j)) 1) (U6 0 0 0 (length (o++replicate (bh (getD l i mq)) (aS (getD l i mq) o))) 1) kt (.blk 0 0 (U1 (map dB (aH o (aS (getD l i mq) o) j)) 5 true) (U1 (map dB (o++replicate (bh (getD l i mq)) (aS (getD l i mq) o))) 5 true) kt (Hn.last ZC 0 (():Unit) rfl [(0,0),(8,8)] ro))))))) (fun|⟨j,hj,_⟩=>by kernel_rfl) ⟨(0),om,⟨⟩⟩ [(0,0),(32,32)] ro (ck (fun|()=>(.s 2 (.ow (i+1) (.s 1 (.val 21 (zI (i+1)) (zN (i+1)) fV (Hn.next ZA ⟨(i+1),om,(o++replicate (bh (l.getD i mq)) (aS (l.getD i mq) o)),uO,uP,⟨⟩⟩ uQ [(0,0)] ro))))))))))))))))))))) (λ p10=>have p10f:=ap p10;(.s 7 (.opt (ax .u8 (↑(Rn.s (getD l i mq)):Int)) (bl (Rn.s (getD l i mq))) (b4 om) (.s 7 (.ow ((↑(length o):Int)+1) (.s 3 (.bd ((n:Int)<(↑(length o):Int)+1) (λ p13 p13f=>(.s 2 (.val 5 (zI 100) (zN (U0 (cv n l))) yB (Hn.last ZD 1 (():Unit) rfl [] ro)))) (λ p13 p13f=>(.s 2 (.val 6 (U6 0 0 0 (length o) 1) (U6 0 0 0 (length (aH o (aS (getD l i mq) o) 0)) 1) (by exact rfl) (.val 11 (bl (Rn.s (getD l i mq))) (bl (U3 (aS (getD l i mq) o))) (by(exact Oe (by(omega)))) (.val 79 (zI 1) (zN (bh (getD l i mq))) fV (.blk 0 0 (U1 (map dB o) 5 true) (U1 (map dB (aH o (aS (getD l i mq) o) 0)) 5 true) (by exact rfl) (Hn.inl T_ok ah false 93 0 (aq Tryz.prog 181 1) (λ(x:(j:Nat)×'(hj:j<=bh (l.getD i mq))×'Unit)=>match x with|⟨j,hj,_⟩=>CutS.mk [(1,zN n),(6,(U6 0 0 (0) ((aH o (aS (l.getD i mq) o) j).length) 1)),(11,dB (aS (l.getD i mq) o)),(19,Vl false k 2 (flatMap ce l)),(20,zN k),(21,zN i),(34,Vh 8 8 1),(35,zN (Rn.x (getD l i mq))),(36,D.v (.bool false)),(39,Vh 8 8 1),(40,zN (Rn.x (getD l i mq))),(41,zN (rb (Rn.s (getD l i mq)))),(42,zN (Vp.p2 (Rn.s (getD l i mq)))),(43,D.v (.bool (decide ((↑(Vp.p2 (Rn.s (getD l i mq))):Int)<=(↑(Rn.x (getD l i mq)):Int))))),(79,nD (bh (l.getD i mq))),(80,nD j)] [⟨0,0,0,0,.b ⟨(aH o (aS (l.getD i mq) o) j).map dB,5,true⟩⟩,⟨8,8,32,32,.b ⟨[zN (Rn.s (getD l i mq)),zN (Rn.x (getD l i mq))],187,false⟩⟩] 16) (λ(x:(j:Nat)×'(hj:j<=bh (l.getD i mq))×'Unit)=>match x with|⟨j,hj,_⟩=>bh (l.getD i mq)-j) [⟨Unit,.exit 7,λ x=>match x with|()=>CutS.mk [(1,zN n),(6,(U6 0 0 (0) ((o++replicate (bh (l.getD i mq)) (aS (l.getD i mq) o)).length) 1)),(19,Vl false k 2 (flatMap ce l)),(20,zN k),(21,zN i),(34,Vh 8 8 1),(35,zN (Rn.x (getD l i mq))),(36,D.v (.bool false)),(39,Vh 8 8 1),(40,zN (Rn.x (getD l i mq))),(41,zN (rb (Rn.s (getD l i mq)))),(42,zN (Vp.p2 (Rn.s (getD l i mq)))),(43,D.v (.bool (decide ((↑(Vp.p2 (Rn.s (getD l i mq))):Int)<=(↑(Rn.x (getD l i mq)):Int)))))] [⟨0,0,0,0,.b ⟨(o++replicate (bh (l.getD i mq)) (aS (l.getD i mq) o)).map dB,5,true⟩⟩,⟨8,8,32,32,.b ⟨[zN (Rn.s (getD l i mq)),zN (Rn.x (getD l i mq))],187,false⟩⟩] 16⟩] 1000 64 (fun|⟨j,hj,_⟩,Q,Z9,ZC=>(.s 2 (.bd ((j:Int)<(↑(bh (getD l i mq)):Int)) (λ p14 p14f=>(.s 5 (.chk (true&&U5 (length (aH o (aS (getD l i mq) o) j)*1) (length (map dB (aH o (aS (getD l i mq) o) j)))&&true&&true&&true&&true&&U7 ((length (aH o (aS (getD l i mq) o) j)+1)*1) 140737488355328) uM (.s 3 (.op (j+1) gj (.s 1 (.val 6 (U6 48 48 0 (length (aH o (aS (getD l i mq) o) j)+1) 1) (U6 48 48 0 (length (aH o (aS (getD l i mq) o) (j+1))) 1) (by(exact ng)) (.val 80 (zI (j+1)) (zN (j+1)) fV (.blk 48 48 (U1 (map dB (aH o (aS (getD l i mq) o) j)++[bl (U3 (aS (getD l i mq) o))]) 5 true) (U1 (map dB (aH o (aS (getD l i mq) o) (j+1))) 5 true) (by(refine aB jy)) (Hn.next Z9 ⟨(j+1),om,⟨⟩⟩ uN [(48,48),(8,8)] ro)))))))))) (λ p14 p14f=>(.val 6 (U6 0 0 0 (length (aH o (aS (getD l i mq) o) j)) 1) (U6 0 0 0 (length (o++replicate (bh (getD l i mq)) (aS (getD l i mq) o))) 1) kt (.blk 0 0 (U1 (map dB (aH o (aS (getD l i mq) o) j)) 5 true) (U1 (map dB (o++replicate (bh (getD l i mq)) (aS (getD l i mq) o))) 5 true) kt (Hn.last ZC 0 (():Unit) rfl [(0,0),(8,8)] ro))))))) (fun|⟨j,hj,_⟩=>by kernel_rfl) ⟨(0),om,⟨⟩⟩ [(0,0),(32,32)] ro (ck (fun|()=>(.s 2 (.ow (i+1) (.s 1 (.val 21 (zI (i+1)) (zN (i+1)) fV (Hn.next ZA ⟨(i+1),om,(o++replicate (bh (l.getD i mq)) (aS (l.getD i mq) o)),uO,uP,⟨⟩⟩ uQ [(0,0)] ro)))))))))))))))))))))))))))))))))))) (λ p1=>have Z6:=B7 p1;(.cl 113 false [] (.fn Ca (@Kz (Rn.s (getD l i mq)) om gj)) (.s 34 (.val 5 (zI 8) (zN (U0 (cv n l))) (by(have h9:=dp (l.getD i mq).s;have hb:=hB i;have hc:=ej (l.getD i mq);refine aR ?_;have q:=yC (l:=l) (n:=n) (i:=i) (o:=o) om (.inl om);rw[hR]at q;rw[q];rfl)) (Hn.last ZD 1 (():Unit) rfl [] ro))))))))))))) (λ p0 Z7=>(Hn.last ZD 0 (⟨(o),(by(exact(Cj hR om h).1)),om,(by(exact(Cj hR om h).2)),⟨⟩⟩:(o2:Z1)×'(ho2:o2.length≠n)×'(ho3:o2.length<=n)×'(he:(cv n l).2=100)×'Unit) rfl [(0,0)] ro))))) (fun|⟨i,hi,o,ho,hR,_⟩=>by kernel_rfl) ⟨(0),om,([]),(by(simp;done)),(by(exact(iS n l).symm)),⟨⟩⟩ [(96,96)] ro (gu (fun|⟨o2,ho2,ho3,he,_⟩=>(.s 5 (.t ((↑(length o2):Int) !=(n:Int)) (by(simp <;>(omega))) (.s 2 (.out [] [] (V2 [zS,zI 100]) [] R (ok _ _ (by(rw[he];rfl)) wr)))))) (fun|()=>(.out [] [] (V2 [zS,zN (U0 (cv n l))]) [] R (ok _ _ wr wr)))))))))) kr
structure Sy where
 bits:Nat
 least:Nat
 many:Nat
 deriving Inhabited
abbrev gZ (s:Sy):List D:=[nD s.bits,nD s.least,nD s.many]
def aw:List Sy:=[⟨0,3,1⟩,⟨0,4,1⟩,⟨0,5,1⟩,⟨0,6,1⟩,⟨0,7,1⟩,⟨0,8,1⟩,⟨0,9,1⟩,⟨0,10,1⟩,⟨1,11,2⟩,⟨1,13,2⟩,⟨1,15,2⟩,⟨1,17,2⟩,⟨2,19,4⟩,⟨2,23,4⟩,⟨2,27,4⟩,⟨2,31,4⟩,⟨3,35,8⟩,⟨3,43,8⟩,⟨3,51,8⟩,⟨3,59,8⟩,⟨4,67,16⟩,⟨4,83,16⟩,⟨4,99,16⟩,⟨4,115,16⟩,⟨5,131,32⟩,⟨5,163,32⟩,⟨5,195,32⟩,⟨5,227,31⟩,⟨0,258,1⟩]
def aC:List Sy:=[⟨0,1,1⟩,⟨0,2,1⟩,⟨0,3,1⟩,⟨0,4,1⟩,⟨1,5,2⟩,⟨1,7,2⟩,⟨2,9,4⟩,⟨2,13,4⟩,⟨3,17,8⟩,⟨3,25,8⟩,⟨4,33,16⟩,⟨4,49,16⟩,⟨5,65,32⟩,⟨5,97,32⟩,⟨6,129,64⟩,⟨6,193,64⟩,⟨7,257,128⟩,⟨7,385,128⟩,⟨8,513,256⟩,⟨8,769,256⟩,⟨9,1025,512⟩,⟨9,1537,512⟩,⟨10,2049,1024⟩,⟨10,3073,1024⟩,⟨11,4097,2048⟩,⟨11,6145,2048⟩,⟨12,8193,4096⟩,⟨12,12289,4096⟩,⟨13,16385,8192⟩,⟨13,24577,8192⟩]
theorem sv (T:List Sy)(hT:T=aw):S0 160 [] [] (.agg [iD 257,.ref 0 0 0 29 3]) [⟨T.flatMap gZ, 248,true⟩]:=by
 refine SpecH.run T_ok ah Tryz.func160 rfl rfl rfl ⟨gi (λ _=>rfl) _,trivial⟩ rfl 4000 64 (λ R ok=>(.s 1376 (.out [5080] [5080] (D.agg [zI 257,U6 0 0 0 29 3]) [U1 [zI 0,zI 3,zI 1,zI 0,zI 4,zI 1,zI 0,zI 5,zI 1,zI 0,zI 6,zI 1,zI 0,zI 7,zI 1,zI 0,zI 8,zI 1,zI 0,zI 9,zI 1,zI 0,zI 10,zI 1,zI 1,zI 11,zI 2,zI 1,zI 13,zI 2,zI 1,zI 15,zI 2,zI 1,zI 17,zI 2,zI 2,zI 19,zI 4,zI 2,zI 23,zI 4,zI 2,zI 27,zI 4,zI 2,zI 31,zI 4,zI 3,zI 35,zI 8,zI 3,zI 43,zI 8,zI 3,zI 51,zI 8,zI 3,zI 59,zI 8,zI 4,zI 67,zI 16,zI 4,zI 83,zI 16,zI 4,zI 99,zI 16,zI 4,zI 115,zI 16,zI 5,zI 131,zI 32,zI 5,zI 163,zI 32,zI 5,zI 195,zI 32,zI 5,zI 227,zI 31,zI 0,zI 258,zI 1] 248 true] R (ok _ _ wr (by(subst hT;rfl)))))) kr
theorem wL (T:List Sy)(hT:T=aC):S0 163 [] [] (.agg [iD 0,.ref 0 0 0 30 3]) [⟨T.flatMap gZ, 248,true⟩]:=by
 refine SpecH.run T_ok ah Tryz.func163 rfl rfl rfl ⟨gi (λ _=>rfl) _,trivial⟩ rfl 4000 64 (λ R ok=>(.s 1562 (.out [5768] [5768] (D.agg [zI 0,U6 0 0 0 30 3]) [U1 [zI 0,zI 1,zI 1,zI 0,zI 2,zI 1,zI 0,zI 3,zI 1,zI 0,zI 4,zI 1,zI 1,zI 5,zI 2,zI 1,zI 7,zI 2,zI 2,zI 9,zI 4,zI 2,zI 13,zI 4,zI 3,zI 17,zI 8,zI 3,zI 25,zI 8,zI 4,zI 33,zI 16,zI 4,zI 49,zI 16,zI 5,zI 65,zI 32,zI 5,zI 97,zI 32,zI 6,zI 129,zI 64,zI 6,zI 193,zI 64,zI 7,zI 257,zI 128,zI 7,zI 385,zI 128,zI 8,zI 513,zI 256,zI 8,zI 769,zI 256,zI 9,zI 1025,zI 512,zI 9,zI 1537,zI 512,zI 10,zI 2049,zI 1024,zI 10,zI 3073,zI 1024,zI 11,zI 4097,zI 2048,zI 11,zI 6145,zI 2048,zI 12,zI 8193,zI 4096,zI 12,zI 12289,zI 4096,zI 13,zI 16385,zI 8192,zI 13,zI 24577,zI 8192] 248 true] R (ok _ _ wr (by(subst hT;rfl)))))) kr
end Vp
end Go.Proofs.YtefjnofhgkjpmaaGreat
namespace Go.Proofs.YtefjnofhgkjpmaaGreat
open Go.RowKit Go.Bw Go.Vx
open List (length getD map take drop flatMap replicate)
namespace Vp
theorem ET {p:Prop}(h:p:=by(refine aR ?_;(omega))):p:=h
theorem KE {p:Prop}(h:p:=by(simp only[ba (k:=2) (λ(x:Rn)=>(rfl:(ce x).length=2)),Nat.beq_refl,Bool.true_and,Bool.and_true];refine Nat.ble_eq_true_of_le ?_;(omega))):p:=h
theorem KF {p:Prop}(h:p:=by(rw[List.length_append];rfl)):p:=h
theorem KG {p:Prop}(h:p:=by(rw[List.length_append];simp only[List.length_singleton];(omega))):p:=h
theorem Oh {p:Prop}(h:p:=by((refine aI ?_ ?_)<;>(repeat' (first|(refine aI ?_ ?_)|(with_reducible rfl)|(refine decide_eq_true ?_)|(refine Nat.ble_eq_true_of_le ?_)|(refine fw ?_)))<;>(omega))):p:=h
theorem RJ {p:Prop}(h:p:=by show n-(a+1)<n-a;clear ZA ZD;omega):p:=h
theorem Sw {p:Prop}(h:p:=by(simp;have h9:=nh (l:=l) (a:=a) om;omega)):p:=h
theorem Sx {p:Prop}(h:p:=by(have h9:=nh (l:=l) (a:=a) om;omega)):p:=h
theorem Sz {p:Prop}(h:p:=by(simp only[Nat.mul_one]at *;have h9:=nh (l:=l) (a:=a) om;exact Om hR om om om om)):p:=h
def uR (l:Z1)(a:Nat):Nat->Nat->Nat
 |0,n=>n
 |f+1,n=>if a+n<l.length∧l.getD (a+n) mq=l.getD a mq then uR l a f (n+1)else n
def cI (l:Z1)(a:Nat):Nat:=lk l (uR l a l.length 0)
theorem wM (l:Z1)(a:Nat):cI l a=uR l a l.length 0:=au _ _
theorem SA {l:Z1}{a f n T:Nat}(hR:uR l a f n=T)(hf:l.length<=a+n+f)(h:a+n<l.length)(h2:l.getD (a+n) mq=l.getD a mq):uR l a (f-1) (n+1)=T:=by
 obtain⟨g,rfl⟩:∃g,f=g+1:=⟨f-1,by omega⟩
 rw[<-hR];exact(ZF ⟨h,h2⟩).symm
theorem Oi {l:Z1}{a f n T:Nat}(hR:uR l a f n=T)(h:¬(a+n<l.length∧l.getD (a+n) mq=l.getD a mq)):n=T:=by
 rw[<-hR];cases f with
 |zero=>rfl
 |succ f=>exact(ZE h).symm
theorem Iy {x y:UInt8}(h:((x.toNat:Nat):Int)=((y.toNat:Nat):Int)):x=y:=UInt8.toNat_inj.1 om
theorem Oj {l:Z1}{a f n T u v:Nat}(hR:uR l a f n=T)(hf:l.length<=a+n+f)(h:a+n<l.length)(hu:u=a+n)(hv:v=a)(h2:(((l.getD u mq).toNat:Nat):Int)=(((l.getD v mq).toNat:Nat):Int)):uR l a (f-1) (n+1)=T:=by
 subst hu hv;exact SA hR hf h (Iy h2)
theorem Ok {l:Z1}{a f n T u v:Nat}(hR:uR l a f n=T)(hu:u=a+n)(hv:v=a)(h2:(((l.getD u mq).toNat:Nat):Int)≠(((l.getD v mq).toNat:Nat):Int)):n=T:=by
 subst hu hv;exact Oi hR (λ q=>h2 (by rw[q.2]))
theorem Iz {l:Z1}{a:Nat}:∀(f n:Nat),a+n<=l.length->n<=uR l a f n∧a+uR l a f n<=l.length
 |0,n,h=>⟨Vd _,h⟩
 |f+1,n,h=>by
  rw[uR];split
  ·next q=>have:=Iz (l:=l) (a:=a) f (n+1) om;omega
  ·exact⟨Vd _,h⟩
theorem nh {l:Z1}{a:Nat}(h:a<l.length):1<=cI l a∧a+cI l a<=l.length:=by
 rw[wM];obtain⟨f,hf⟩:∃f,l.length=f+1:=⟨l.length-1,by omega⟩
 rw[hf,uR,ZF ⟨by omega,by rw[Nat.add_zero]⟩];have:=Iz (l:=l) (a:=a) f (0+1) om;omega
def ku (l:Z1):Nat->Nat->List Rn
 |0,_=>[]
 |f+1,a=>if l.length<=a then[]
  else if(l.getD a mq).toNat=0∧11<=cI l a then⟨18,min (cI l a) 138-11⟩::ku l f (a+min (cI l a) 138)
  else if(l.getD a mq).toNat=0∧3<=cI l a then⟨17,cI l a-3⟩::ku l f (a+cI l a)
  else if 0<(l.getD a mq).toNat∧0<a∧(l.getD (a-1) mq).toNat=(l.getD a mq).toNat∧3<=cI l a then⟨16,min (cI l a) 6-3⟩::ku l f (a+min (cI l a) 6)
  else⟨(l.getD a mq).toNat,0⟩::ku l f (a+1)
def yE (l:Z1):List Rn:=lk l (ku l l.length 0)
theorem sw (l:Z1):yE l=ku l l.length 0:=au _ _
section
variable {l:Z1} {f a:Nat} {o T:List Rn}
theorem Ol (hR:o++ku l f a=T)(h:l.length<=a):o=T:=by
 rw[<-hR];cases f with
 |zero=>exact(VS _).symm
 |succ f=>rw[ku,ZF h];exact(VS _).symm
theorem SB (hR:o++ku l f a=T)(hf:l.length<=a+f)(h:a<l.length)(h0:(l.getD a mq).toNat=0)(h1:11<=cI l a):(o++[⟨18,min (cI l a) 138-11⟩])++ku l (f-1) (a+min (cI l a) 138)=T:=by
 obtain⟨g,rfl⟩:∃g,f=g+1:=⟨f-1,by omega⟩
 rw[<-hR,ku,ZE om,ZF ⟨h0,h1⟩,Ve];rfl
theorem SC (hR:o++ku l f a=T)(hf:l.length<=a+f)(h:a<l.length)(h0:(l.getD a mq).toNat=0)(h1:¬11<=cI l a)(h2:3<=cI l a):(o++[⟨17,cI l a-3⟩])++ku l (f-1) (a+cI l a)=T:=by
 obtain⟨g,rfl⟩:∃g,f=g+1:=⟨f-1,by omega⟩
 rw[<-hR,ku,ZE om,ZE (λ q=>h1 q.2),ZF ⟨h0,h2⟩,Ve];rfl
theorem SD (hR:o++ku l f a=T)(hf:l.length<=a+f)(h:a<l.length)(h0:0<(l.getD a mq).toNat)(ha:0<a)(h1:(l.getD (a-1) mq).toNat=(l.getD a mq).toNat)(h2:3<=cI l a):(o++[⟨16,min (cI l a) 6-3⟩])++ku l (f-1) (a+min (cI l a) 6)=T:=by
 obtain⟨g,rfl⟩:∃g,f=g+1:=⟨f-1,by omega⟩
 rw[<-hR,ku,ZE om,ZE (λ q=>by omega),ZE (λ q=>by omega),ZF ⟨h0,ha,h1,h2⟩,Ve];rfl
theorem Om (hR:o++ku l f a=T)(hf:l.length<=a+f)(h:a<l.length)(h0:¬((l.getD a mq).toNat=0∧3<=cI l a))(h1:¬(0<(l.getD a mq).toNat∧0<a∧(l.getD (a-1) mq).toNat=(l.getD a mq).toNat∧3<=cI l a)):(o++[⟨(l.getD a mq).toNat,0⟩])++ku l (f-1) (a+1)=T:=by
 obtain⟨g,rfl⟩:∃g,f=g+1:=⟨f-1,by omega⟩
 rw[<-hR,ku,ZE om,ZE (λ q=>h0 ⟨q.1,by omega⟩),ZE h0,ZE h1,Ve];rfl
end
theorem FE (l:Z1)(n:Nat)(hn:n=l.length)(hn2:n<=320)(a:Nat)(ha:a<n):S0 147 [nD a,.ep [.sl false n 1 (l.map dB)] 0] [] (nD (cI l a)) []:=by
 refine SpecH.run T_ok ah Tryz.func147 rfl rfl rfl trivial rfl 1000 64 (λ R ok=>(.s 1 (Hn.inl T_ok ah false 26 0 (aq Tryz.prog 147 0) (λ(x:(i:Nat)×'(f:Nat)×'(hi:a+i<=n)×'(hf:n<=a+i+f)×'(hR:uR l a f i=cI l a)×'Unit)=>match x with|⟨i,f,hi,hf,hR,_⟩=>CutS.mk [(0,zN a),(1,D.ep [Vl false n 1 (map dB l)] 0),(3,nD i)] [] 0) (λ(x:(i:Nat)×'(f:Nat)×'(hi:a+i<=n)×'(hf:n<=a+i+f)×'(hR:uR l a f i=cI l a)×'Unit)=>match x with|⟨i,f,hi,hf,hR,_⟩=>n-i) [⟨Unit,.exit 0,λ x=>match x with|()=>CutS.mk [(0,zN a),(1,D.ep [Vl false n 1 (map dB l)] 0),(3,nD (cI l a))] [] 0⟩] 1000 64 (fun|⟨i,f,hi,hf,hR,_⟩,Q,ZA,ZD=>(.s 5 (.ow (a+i) (.s 8 (.bd ((a:Int)+i<n) (λ p0 Z7=>(.s 9 (.ow (a+i) (.s 2 (.chk (true&&decide ((a:Int)+i<n)&&true) Oh (.s 3 (.opt ((map dB l)[AB ((a:Int)+i)*1]?) (dB (getD l (AB ((a:Int)+i)*1) mq)) (av _ _ om) (.s 8 (.chk (true&&decide ((a:Int)<n)&&true) Oh (.s 3 (.opt ((map dB l)[a*1]?) (dB (getD l (a*1) mq)) (av _ _ om) (.s 4 (.br ((↑(U3 (getD l (AB ((a:Int)+i)*1) mq)):Int)==(↑(U3 (getD l (a*1) mq)):Int)) (λ p1=>have Z6:=eq_of_beq p1;(.s 3 (.ow (i+1) (.s 1 (.val 3 (zI (i+1)) (zN (i+1)) ET (Hn.next ZA ⟨(i+1),(f-1),om,om,(by(exact Oj (u:=((a:Int)+i).toNat*1) (v:=a*1) hR om om om om om)),⟨⟩⟩ (by show n-(i+1)<n-i;clear ZA ZD;omega) [] ro)))))) (λ p1=>have Z6:=ap p1;(.val 3 (zN i) (zN (cI l a)) (by(rw[Ok (u:=((a:Int)+i).toNat*1) (v:=a*1) hR om om om])) (Hn.last ZD 0 (():Unit) rfl [] ro)))))))))))))))) (λ p0 Z7=>(.s 22 (.val 3 (zN i) (zN (cI l a)) (by(rw[Oi hR om])) (Hn.last ZD 0 (():Unit) rfl [] ro))))))))) (fun|⟨i,f,hi,hf,hR,_⟩=>by kernel_rfl) ⟨(0),(n),om,om,(by(rw[hn];exact(wM l a).symm)),⟨⟩⟩ [] ro (ck (fun|()=>(.s 2 (.out [] [] (zN (cI l a)) [] R (ok _ _ wr wr)))))))) kr
theorem On (n k:Nat):k6 .i64 false (n:Int) (k:Int)=some (nD (min n k)):=Fv om
theorem lu (l:Z1):∀(f a:Nat),(ku l f a).length<=f
 |0,_=>Vd _
 |f+1,a=>by
  rw[ku]
  split
  ·exact VI _
  ·split
   ·exact Xa (lu l f _)
   ·split
    ·exact Xa (lu l f _)
    ·split
     ·exact Xa (lu l f _)
     ·exact Xa (lu l f _)
theorem SE (l:Z1)(n:Nat)(hn:n=l.length)(hn2:n<=320)(ho:∀i,i<n->(l.getD i mq).toNat<=15)(T:List Rn)(hT:yE l=T):S0 110 [.sl false n 1 (l.map dB)] [] (.tup [.ref 0 0 0 T.length 2,iD 0]) [⟨T.flatMap ce, 187,true⟩]:=by
 refine SpecH.run T_ok ah Tryz.func110 rfl rfl rfl ⟨gi (λ _=>rfl) _,trivial⟩ rfl 1000 64 (λ R ok=>(.s 10 (.f (decide (320<(n:Int))) (by(refine decide_eq_false ?_;(omega))) (.s 5 (Hn.inl T_ok ah false 101 0 (aq Tryz.prog 110 0) (λ(x:(i:Nat)×'(hi:i<=n)×'Unit)=>match x with|⟨i,hi,_⟩=>CutS.mk [(1,Vh 0 0 0),(2,dw),(13,Vl false n 1 (map dB l)),(14,zN n),(15,nD i)] [⟨0,0,0,0,.b ⟨[Vl false n 1 (map dB l)],24,false⟩⟩] 8) (λ(x:(i:Nat)×'(hi:i<=n)×'Unit)=>match x with|⟨i,hi,_⟩=>n-i) [⟨Unit,.exit 0,λ x=>match x with|()=>CutS.mk [(1,Vh 0 0 0),(2,dw),(13,Vl false n 1 (map dB l)),(14,zN n),(15,nD n)] [⟨0,0,0,0,.b ⟨[Vl false n 1 (map dB l)],24,false⟩⟩] 8⟩] 1000 64 (fun|⟨i,hi,_⟩,Q,ZA,ZD=>(.s 2 (.bd ((i:Int)<n) (λ p0 Z7=>(.s 1 (.chk (true&&decide ((i:Int)<n)&&true) Oh (.s 2 (.opt ((map dB l)[i*1]?) (dB (getD l (i*1) mq)) (av _ _ om) (.s 4 (.f (decide (15<(↑(U3 (getD l (i*1) mq)):Int))) (by(refine decide_eq_false ?_;have h9:=ho (i*1) om;omega)) (.s 2 (.ow (i+1) (.s 1 (.val 15 (zI (i+1)) (zN (i+1)) ET (Hn.next ZA ⟨(i+1),om,⟨⟩⟩ (by show n-(i+1)<n-i;clear ZA ZD;omega) [(0,0)] ro)))))))))))) (λ p0 Z7=>(.val 15 (zN i) (zN n) ET (Hn.last ZD 0 (():Unit) rfl [(0,0)] ro)))))) (fun|⟨i,hi,_⟩=>by kernel_rfl) ⟨(0),om,⟨⟩⟩ [(0,0)] ro (ck (fun|()=>(.s 3 (.nils 2 32 2 187 (Hn.inl T_ok ah false 101 0 (aq Tryz.prog 110 1) (λ(x:(a:Nat)×'(f:Nat)×'(o:List Rn)×'(ha:a<=n)×'(hf:n<=a+f)×'(hq:o.length<=a)×'(hR:o++ku l f a=T)×'Unit)=>match x with|⟨a,f,o,ha,hf,hq,hR,_⟩=>CutS.mk [(1,Vh 0 0 0),(2,(U6 8 8 (0) (o.length) 2)),(6,D.fn (Fn.func 147) [] [Vh 0 0 0]),(7,nD a)] [⟨0,0,0,0,.b ⟨[Vl false n 1 (map dB l)],24,false⟩⟩,⟨8,8,32,32,.b ⟨o.flatMap ce,187,true⟩⟩] 16) (λ(x:(a:Nat)×'(f:Nat)×'(o:List Rn)×'(ha:a<=n)×'(hf:n<=a+f)×'(hq:o.length<=a)×'(hR:o++ku l f a=T)×'Unit)=>match x with|⟨a,f,o,ha,hf,hq,hR,_⟩=>n-a) [⟨Unit,.exit 2,λ x=>match x with|()=>CutS.mk [(1,Vh 0 0 0),(2,(U6 8 8 (0) (T.length) 2)),(6,D.fn (Fn.func 147) [] [Vh 0 0 0])] [⟨0,0,0,0,.b ⟨[Vl false n 1 (map dB l)],24,false⟩⟩,⟨8,8,32,32,.b ⟨T.flatMap ce,187,true⟩⟩] 16⟩] 1000 64 (fun|⟨a,f,o,ha,hf,hq,hR,_⟩,Q,ZA,ZD=>(.s 7 (.bd ((a:Int)<n) (λ p1 Z6=>(.s 4 (.cl 147 false [] (.fn Sn (@FE (l) (n) om om (a) om)) (.s 5 (.chk (true&&decide ((a:Int)<n)&&true) Oh (.s 2 (.opt ((map dB l)[a*1]?) (dB (getD l (a*1) mq)) (av _ _ om) (.s 1 (.op (↑(U3 (getD l (a*1) mq)):Int) (by(exact iP _ (by decide) (by decide))) (.s 7 (.br ((↑(U3 (getD l (a*1) mq)):Int)==0) (λ p2=>have Z5:=eq_of_beq p2;(.s 5 (.bd (11<=(↑(cI l a):Int)) (λ p3 Z4=>(.s 2 (.opt (k6 VN false (↑(cI l a):Int) (↑138:Int)) (nD (min (cI l a) 138)) (@On (cI l a) 138) (.s 5 (.ow ((↑(min (cI l a) 138):Int)-11) (.s 5 (.chk (true&&U5 (length o*2) (length (flatMap ce o))&&true&&true&&true&&true&&U7 ((length o+1)*16) 140737488355328) KE (.s 5 (.ow (a+(↑(min (cI l a) 138):Int)) (.s 1 (.val 2 (U6 248 248 0 (length o+1) 2) (U6 248 248 0 (length (o++[Rn.mk 18 (min (cI l a) 138-11)])) 2) KF (.val 7 (zI (a+(↑(min (cI l a) 138):Int))) (zN (a+min (cI l a) 138)) ET (.blk 248 248 (U1 (flatMap ce o++[zI 18,zI ((↑(min (cI l a) 138):Int)-11)]) 187 true) (U1 (flatMap ce (o++[Rn.mk 18 (min (cI l a) 138-11)])) 187 true) Sw (Hn.next ZA ⟨(a+min (cI l a) 138),(f-1),(o++[⟨18,min (cI l a) 138-11⟩]),Sx,om,KG,(by(simp only[VG]at *;have h9:=nh (l:=l) (a:=a) om;exact SB hR om om om om)),⟨⟩⟩ (by show n-(a+min (cI l a) 138)<n-a;clear ZA ZD;omega) [(0,0),(248,248)] ro)))))))))))))) (λ p3 Z4=>(.s 5 (.t ((↑(U3 (getD l (a*1) mq)):Int)==0) p2 (.s 5 (.bd (3<=(↑(cI l a):Int)) (λ p4 Z3=>(.s 4 (.ow ((↑(cI l a):Int)-3) (.s 5 (.chk (true&&U5 (length o*2) (length (flatMap ce o))&&true&&true&&true&&true&&U7 ((length o+1)*16) 140737488355328) KE (.s 5 (.ow (a+(↑(cI l a):Int)) (.s 1 (.val 2 (U6 280 280 0 (length o+1) 2) (U6 280 280 0 (length (o++[Rn.mk 17 (cI l a-3)])) 2) KF (.val 7 (zI (a+(↑(cI l a):Int))) (zN (a+cI l a)) ET (.blk 280 280 (U1 (flatMap ce o++[zI 17,zI ((↑(cI l a):Int)-3)]) 187 true) (U1 (flatMap ce (o++[Rn.mk 17 (cI l a-3)])) 187 true) Sw (Hn.next ZA ⟨(a+cI l a),(f-1),(o++[⟨17,cI l a-3⟩]),Sx,om,KG,(by(simp only[VG]at *;have h9:=nh (l:=l) (a:=a) om;exact SC hR om om om om om)),⟨⟩⟩ (by show n-(a+cI l a)<n-a;clear ZA ZD;omega) [(0,0),(280,280)] ro)))))))))))) (λ p4 Z3=>(.s 5 (.f (decide (0<(↑(U3 (getD l (a*1) mq)):Int))) (by(refine decide_eq_false ?_;(omega))) (.s 37 (.chk (true&&U5 (length o*2) (length (flatMap ce o))&&true&&true&&true&&true&&U7 ((length o+1)*16) 140737488355328) KE (.s 5 (.ow (a+1) (.s 1 (.val 2 (U6 448 448 0 (length o+1) 2) (U6 448 448 0 (length (o++[Rn.mk (U3 (getD l a mq)) 0])) 2) KF (.val 7 (zI (a+1)) (zN (a+1)) ET (.blk 448 448 (U1 (flatMap ce o++[zN (U3 (getD l (a*1) mq)),zI 0]) 187 true) (U1 (flatMap ce (o++[Rn.mk (U3 (getD l a mq)) 0])) 187 true) (by(simp;done)) (Hn.next ZA ⟨(a+1),(f-1),(o++[⟨(l.getD a mq).toNat,0⟩]),om,om,KG,Sz,⟨⟩⟩ RJ [(0,0),(448,448)] ro)))))))))))))))))))) (λ p2=>have Z5:=ap p2;(.s 10 (.f ((↑(U3 (getD l (a*1) mq)):Int)==0) p2 (.s 10 (.t (decide (0<(↑(U3 (getD l (a*1) mq)):Int))) (by(refine decide_eq_true ?_;(omega))) (.s 6 (.bd (0<(a:Int)) (λ p5 p5f=>(.s 7 (.ow (a-1) (.s 2 (.chk (decide (0<=(a:Int)-1)&&decide ((a:Int)-1<n)&&true) Oh (.s 3 (.opt ((map dB l)[AB ((a:Int)-1)*1]?) (dB (getD l (AB ((a:Int)-1)*1) mq)) (av _ _ om) (.s 2 (.op (↑(U3 (getD l (AB ((a:Int)-1)*1) mq)):Int) (by(exact iP _ (by decide) (by decide))) (.s 8 (.br ((↑(U3 (getD l (AB ((a:Int)-1)*1) mq)):Int)==(↑(U3 (getD l (a*1) mq)):Int)) (λ p6=>have p6f:=eq_of_beq p6;(.s 5 (.bd (3<=(↑(cI l a):Int)) (λ p7 p7f=>(.s 2 (.opt (k6 VN false (↑(cI l a):Int) (↑6:Int)) (nD (min (cI l a) 6)) (@On (cI l a) 6) (.s 5 (.ow ((↑(min (cI l a) 6):Int)-3) (.s 5 (.chk (true&&U5 (length o*2) (length (flatMap ce o))&&true&&true&&true&&true&&U7 ((length o+1)*16) 140737488355328) KE (.s 5 (.ow (a+(↑(min (cI l a) 6):Int)) (.s 1 (.val 2 (U6 472 472 0 (length o+1) 2) (U6 472 472 0 (length (o++[Rn.mk 16 (min (cI l a) 6-3)])) 2) KF (.val 7 (zI (a+(↑(min (cI l a) 6):Int))) (zN (a+min (cI l a) 6)) ET (.blk 472 472 (U1 (flatMap ce o++[zI 16,zI ((↑(min (cI l a) 6):Int)-3)]) 187 true) (U1 (flatMap ce (o++[Rn.mk 16 (min (cI l a) 6-3)])) 187 true) Sw (Hn.next ZA ⟨(a+min (cI l a) 6),(f-1),(o++[⟨16,min (cI l a) 6-3⟩]),Sx,om,KG,(by(simp only[VG]at *;have h9:=nh (l:=l) (a:=a) om;exact SD hR om om om om (by rw[show((a:Int)-1).toNat=a-1 from by omega]at *;omega) om)),⟨⟩⟩ (by show n-(a+min (cI l a) 6)<n-a;clear ZA ZD;omega) [(0,0),(472,472)] ro)))))))))))))) (λ p7 p7f=>(.s 8 (.chk (true&&U5 (length o*2) (length (flatMap ce o))&&true&&true&&true&&true&&U7 ((length o+1)*16) 140737488355328) KE (.s 5 (.ow (a+1) (.s 1 (.val 2 (U6 448 448 0 (length o+1) 2) (U6 448 448 0 (length (o++[Rn.mk (U3 (getD l a mq)) 0])) 2) KF (.val 7 (zI (a+1)) (zN (a+1)) ET (.blk 448 448 (U1 (flatMap ce o++[zN (U3 (getD l (a*1) mq)),zI 0]) 187 true) (U1 (flatMap ce (o++[Rn.mk (U3 (getD l a mq)) 0])) 187 true) (by(simp;done)) (Hn.next ZA ⟨(a+1),(f-1),(o++[⟨(l.getD a mq).toNat,0⟩]),om,om,KG,Sz,⟨⟩⟩ RJ [(0,0),(448,448)] ro))))))))))))) (λ p6=>have p6f:=ap p6;(.s 13 (.chk (true&&U5 (length o*2) (length (flatMap ce o))&&true&&true&&true&&true&&U7 ((length o+1)*16) 140737488355328) KE (.s 5 (.ow (a+1) (.s 1 (.val 2 (U6 448 448 0 (length o+1) 2) (U6 448 448 0 (length (o++[Rn.mk (U3 (getD l a mq)) 0])) 2) KF (.val 7 (zI (a+1)) (zN (a+1)) ET (.blk 448 448 (U1 (flatMap ce o++[zN (U3 (getD l (a*1) mq)),zI 0]) 187 true) (U1 (flatMap ce (o++[Rn.mk (U3 (getD l a mq)) 0])) 187 true) (by(simp;done)) (Hn.next ZA ⟨(a+1),(f-1),(o++[⟨(l.getD a mq).toNat,0⟩]),om,om,KG,(by(simp only[VG]at *;have h9:=nh (l:=l) (a:=a) om;rw[show((a:Int)-1).toNat=a-1 from by omega]at *;exact Om hR om om om om)),⟨⟩⟩ RJ [(0,0),(448,448)] ro))))))))))))))))))))) (λ p5 p5f=>(.s 31 (.chk (true&&U5 (length o*2) (length (flatMap ce o))&&true&&true&&true&&true&&U7 ((length o+1)*16) 140737488355328) KE (.s 5 (.ow (a+1) (.s 1 (.val 2 (U6 448 448 0 (length o+1) 2) (U6 448 448 0 (length (o++[Rn.mk (U3 (getD l a mq)) 0])) 2) KF (.val 7 (zI (a+1)) (zN (a+1)) ET (.blk 448 448 (U1 (flatMap ce o++[zN (U3 (getD l (a*1) mq)),zI 0]) 187 true) (U1 (flatMap ce (o++[Rn.mk (U3 (getD l a mq)) 0])) 187 true) (by(simp;done)) (Hn.next ZA ⟨(a+1),(f-1),(o++[⟨(l.getD a mq).toNat,0⟩]),om,om,KG,Sz,⟨⟩⟩ RJ [(0,0),(448,448)] ro)))))))))))))))))))))))))))) (λ p1 Z6=>(.val 2 (U6 8 8 0 (length o) 2) (U6 8 8 0 (length T) 2) (by(rw[Ol hR om])) (.blk 8 8 (U1 (flatMap ce o) 187 true) (U1 (flatMap ce T) 187 true) (by(rw[Ol hR om])) (Hn.last ZD 0 (():Unit) rfl [(0,0),(8,8)] ro))))))) (fun|⟨a,f,o,ha,hf,hq,hR,_⟩=>by kernel_rfl) ⟨(0),(n),([]),om,om,(by(simp;done)),(by(rw[hn];exact(sw l).symm.trans hT)),⟨⟩⟩ [(0,0),(32,32)] ro (ck (fun|()=>(.s 3 (.out [8] [8] (V2 [U6 0 0 0 (length T) 2,zI 0]) [U1 (flatMap ce T) 187 true] R (ok _ _ wr wr))))))))))))))) kr
end Vp
end Go.Proofs.YtefjnofhgkjpmaaGreat
namespace Go.Proofs.YtefjnofhgkjpmaaGreat
open Go.RowKit Go.Bw Go.Vx
open List (length getD map take drop flatMap replicate)
namespace Vp
theorem FF {p:Prop}(h:p:=by(rw[ba (k:=3) (λ _=>rfl)];refine Nat.ble_eq_true_of_le ?_;(omega))):p:=h
theorem Oo {p:Prop}(h:p:=by(rw[(sx (T:=T) (f:=257) (s:=s) om).1,(sx (T:=T) (f:=257) (s:=s) om).2];rfl)):p:=h
theorem Oq {p:Prop}(h:p:=by((refine aI ?_ ?_)<;>(repeat' (first|(refine aI ?_ ?_)|(with_reducible rfl)|(refine decide_eq_true ?_)|(refine Nat.ble_eq_true_of_le ?_)|(refine fw ?_)))<;>(omega))):p:=h
theorem Ot {p:Prop}(h:p:=by(exact AM (KI (T:=T) (f:=257) (s:=s) (x:=x) om) (by decide))):p:=h
def yF (y:Sy):Nat:=2^y.bits
def Bm (T:List Sy)(f:Int)(s:Nat):Nat:=if f<=s∧s<f+T.length then(T.getD ((s:Int)-f).toNat mq).bits else 0
def tQ (T:List Sy)(f:Int)(s:Nat):Nat:=if f<=s∧s<f+T.length then 0 else 90
def v5 (T:List Sy)(f:Int)(s x:Nat):Nat:=if¬(f<=s∧s<f+T.length)then 90 else if yF (T.getD ((s:Int)-f).toNat mq)<=x then 2 else if(T.getD ((s:Int)-f).toNat mq).many<=x then 90 else 0
def Bn (T:List Sy)(f:Int)(s x:Nat):Nat:=if v5 T f s x=0 then(T.getD ((s:Int)-f).toNat mq).least+x else 0
def b6 (T:List Sy):Prop:=∀i,(T.getD i mq).bits<=13∧(T.getD i mq).least<=100000∧(T.getD i mq).many<=100000
theorem uS {T:List Sy}(h:T.all (λ y=>decide (y.bits<=13)&&decide (y.least<=100000)&&decide (y.many<=100000))=true):b6 T:=λ i=>by
 rw[UZ]
 cases hq:T[i]? with
 |none=>exact⟨VI _,VI _,VI _⟩
 |some y=>
  have:=List.all_eq_true.1 h y (We hq);simp only[U9,decide_eq_true_eq]at this;exact⟨this.1.1,this.1.2,this.2⟩
theorem Ou {x:Int}(h:-9223372036854775808<=x∧x<=9223372036854775807):IntKind.i64.wrap x=x:=by
 have h2:=ff (x:=x) h;rw[aL]at h2;injection h2 with h3;injection h3 with h4;injection h4
theorem cm:b6 aw:=uS (by decide)
theorem cG:b6 aC:=uS (by decide)
theorem yG {T:List Sy}{f:Int}{s:Nat}(h:f<=s∧s<f+T.length):Bm T f s=(T.getD ((s:Int)-f).toNat mq).bits∧tQ T f s=0:=⟨ZF h,ZF h⟩
theorem sx {T:List Sy}{f:Int}{s:Nat}(h:¬(f<=s∧s<f+T.length)):Bm T f s=0∧tQ T f s=90:=⟨ZE h,ZE h⟩
theorem IA (y:Sy)(h:y.bits<=13):ax .i64 (2^min y.bits 64*1)=some (nD (yF y)):=by
 rw[show min y.bits 64=y.bits from by omega,Int.mul_one];have h2:2^y.bits<=2^13:=VD (by decide) h;have e:(2:Int)^y.bits=((yF y:Nat):Int):=by unfold yF;push_cast;rfl
 rw[e];have h3:yF y<=2^13:=h2;generalize yF y=Z at *;exact ff om
theorem AM {T:List Sy}{f:Int}{s x e:Nat}(h:v5 T f s x=e)(h0:e≠0):V2 [D.v (.int .i64 0),nD e]=V2 [nD (Bn T f s x),nD (v5 T f s x)]:=by
 unfold Bn;rw[h,ZE h0];rfl
theorem KH {T:List Sy}{f:Int}{s x:Nat}(h:v5 T f s x=0):Bn T f s x=(T.getD ((s:Int)-f).toNat mq).least+x:=ZF h
theorem KI {T:List Sy}{f:Int}{s x:Nat}(h:¬(f<=s∧s<f+T.length)):v5 T f s x=90:=ZF h
theorem Ov {T:List Sy}{f:Int}{s x:Nat}(h:f<=s∧s<f+T.length)(h2:yF (T.getD ((s:Int)-f).toNat mq)<=x):v5 T f s x=2:=(ZE om).trans (ZF h2)
theorem Ow {T:List Sy}{f:Int}{s x:Nat}(h:f<=s∧s<f+T.length)(h2:¬yF (T.getD ((s:Int)-f).toNat mq)<=x)(h3:(T.getD ((s:Int)-f).toNat mq).many<=x):v5 T f s x=90:=(ZE om).trans ((ZE h2).trans (ZF h3))
theorem Ox {T:List Sy}{f:Int}{s x:Nat}(h:f<=s∧s<f+T.length)(h2:¬yF (T.getD ((s:Int)-f).toNat mq)<=x)(h3:¬(T.getD ((s:Int)-f).toNat mq).many<=x):v5 T f s x=0:=(ZE om).trans ((ZE h2).trans (ZE h3))
theorem wN (T:List Sy)(hT:T=aw)(hl:T.length=29)(hz:b6 T)(s:Nat)(hs:s<=1000000):S0 124 [nD s] [] (.tup [nD (Bm T 257 s),nD (tQ T 257 s)]) []:=by
 refine SpecH.run T_ok ah Tryz.func124 rfl rfl rfl trivial rfl 1000 64 (λ R ok=>(.s 3 (.cl 160 false [] (.fn Kw (@sv (T) aF)) (.s 19 (.bd ((s:Int)<257) (λ p0 Z7=>(.s 45 (.out [] [] (V2 [zI 0,zI 90]) [] R (ok _ _ Oo wr)))) (λ p0 Z7=>(.s 26 (.bd (257+(↑29:Int)<=(s:Int)) (λ p1 Z6=>(.s 29 (.out [] [] (V2 [zI 0,zI 90]) [] R (ok _ _ Oo wr)))) (λ p1 Z6=>(.s 15 (.ow (s-257) (.s 1 (.chk (decide (0<=(s:Int)-257)&&decide ((s:Int)-257<(↑29:Int))) Oq (.s 2 (.chk (U7 (0+AB ((s:Int)-257)*3+3) (length (flatMap gZ T))) FF (.lst (take 3 (drop (0+AB ((s:Int)-257)*3) (flatMap gZ T))) ([zN (Sy.bits (getD T (AB ((s:Int)-257)) mq)),zN (Sy.least (getD T (AB ((s:Int)-257)) mq)),zN (Sy.many (getD T (AB ((s:Int)-257)) mq))]) (aD (k:=3) (i:=AB ((s:Int)-257)) (λ _=>rfl) om om) (.s 27 (.out [] [] (V2 [zN (Sy.bits (getD T (AB ((s:Int)-257)) mq)),zI 0]) [] R (ok _ _ (by(rw[(yG (T:=T) (f:=257) (s:=s) om).1,(yG (T:=T) (f:=257) (s:=s) om).2];rfl)) wr))))))))))))))))))) kr
theorem Ck (T:List Sy)(hT:T=aw)(hl:T.length=29)(hz:b6 T)(s:Nat)(hs:s<=1000000)(x:Nat)(hx:x<=1000000):S0 125 [nD s,nD x] [] (.tup [nD (Bn T 257 s x),nD (v5 T 257 s x)]) []:=by
 refine SpecH.run T_ok ah Tryz.func125 rfl rfl rfl trivial rfl 1000 64 (λ R ok=>(.s 3 (.cl 160 false [] (.fn Kw (@sv (T) aF)) (.s 31 (.bd ((s:Int)<257) (λ p0 Z7=>(.s 50 (.out [] [] (V2 [zI 0,zI 90]) [] R (ok _ _ Ot wr)))) (λ p0 Z7=>(.s 26 (.bd (257+(↑29:Int)<=(s:Int)) (λ p1 Z6=>(.s 34 (.out [] [] (V2 [zI 0,zI 90]) [] R (ok _ _ Ot wr)))) (λ p1 Z6=>(.s 15 (.ow (s-257) (.s 1 (.chk (decide (0<=(s:Int)-257)&&decide ((s:Int)-257<(↑29:Int))) Oq (.s 2 (.chk (U7 (0+AB ((s:Int)-257)*3+3) (length (flatMap gZ T))) FF (.lst (take 3 (drop (0+AB ((s:Int)-257)*3) (flatMap gZ T))) ([zN (Sy.bits (getD T (AB ((s:Int)-257)) mq)),zN (Sy.least (getD T (AB ((s:Int)-257)) mq)),zN (Sy.many (getD T (AB ((s:Int)-257)) mq))]) (aD (k:=3) (i:=AB ((s:Int)-257)) (λ _=>rfl) om om) (.s 40 (.opt (ax .i64 (2^min (Sy.bits (getD T (AB ((s:Int)-257)) mq)) 64*1)) (nD (yF (getD T (AB ((s:Int)-257)) mq))) (@IA (T.getD ((s:Int)-257).toNat mq) (by(have h9:=hz ((s:Int)-257).toNat;omega))) (.s 5 (.bd ((↑(yF (getD T (AB ((s:Int)-257)) mq)):Int)<=(x:Int)) (λ p2 Z5=>(.s 8 (.out [] [] (V2 [zI 0,zI 2]) [] R (ok _ _ (by(exact AM (Ov (T:=T) (f:=257) (s:=s) (x:=x) om om) (by decide))) wr)))) (λ p2 Z5=>(.s 10 (.bd ((↑(Sy.many (getD T (AB ((s:Int)-257)) mq)):Int)<=(x:Int)) (λ p3 Z4=>(.s 8 (.out [] [] (V2 [zI 0,zI 90]) [] R (ok _ _ (by(exact AM (Ow (T:=T) (f:=257) (s:=s) (x:=x) om om om) (by decide))) wr)))) (λ p3 Z4=>(.s 9 (.op ((↑(Sy.least (getD T (AB ((s:Int)-257)) mq)):Int)+(x:Int)) (by(have h9:=hz ((s:Int)-257).toNat;omega)) (.s 8 (.out [] [] (V2 [zI ((↑(Sy.least (getD T (AB ((s:Int)-257)) mq)):Int)+(x:Int)),zI 0]) [] R (ok _ _ (by(have h9:=hz ((s:Int)-257).toNat;have q:=Ox (T:=T) (f:=257) (s:=s) (x:=x) om om om;rw[KH q,q];rfl)) wr))))))))))))))))))))))))))))) kr
theorem AN (T:List Sy)(hT:T=aC)(hl:T.length=30)(hz:b6 T)(s:Nat)(hs:s<=1000000):S0 126 [nD s] [] (.tup [nD (Bm T 0 s),nD (tQ T 0 s)]) []:=by
 refine SpecH.run T_ok ah Tryz.func126 rfl rfl rfl trivial rfl 1000 64 (λ R ok=>(.s 3 (.cl 163 false [] (.fn Kx (@wL (T) aF)) (.s 46 (.bd (0+(↑30:Int)<=(s:Int)) (λ p0 Z7=>(.s 29 (.out [] [] (V2 [zI 0,zI 90]) [] R (ok _ _ (by(rw[(sx (T:=T) (f:=0) (s:=s) om).1,(sx (T:=T) (f:=0) (s:=s) om).2];rfl)) wr)))) (λ p0 Z7=>(.s 15 (.ow (s-0) (.s 1 (.chk (true&&decide ((s:Int)-0<(↑30:Int))) (by(refine decide_eq_true ?_;(omega))) (.s 2 (.chk (U7 (0+AB ((s:Int)-0)*3+3) (length (flatMap gZ T))) FF (.lst (take 3 (drop (0+AB ((s:Int)-0)*3) (flatMap gZ T))) ([zN (Sy.bits (getD T (AB ((s:Int)-0)) mq)),zN (Sy.least (getD T (AB ((s:Int)-0)) mq)),zN (Sy.many (getD T (AB ((s:Int)-0)) mq))]) (aD (k:=3) (i:=AB ((s:Int)-0)) (λ _=>rfl) om om) (.s 27 (.out [] [] (V2 [zN (Sy.bits (getD T (AB ((s:Int)-0)) mq)),zI 0]) [] R (ok _ _ (by(rw[(yG (T:=T) (f:=0) (s:=s) om).1,(yG (T:=T) (f:=0) (s:=s) om).2];rfl)) wr)))))))))))))))) kr
theorem FG (T:List Sy)(hT:T=aC)(hl:T.length=30)(hz:b6 T)(s:Nat)(hs:s<=1000000)(x:Nat)(hx:x<=1000000):S0 127 [nD s,nD x] [] (.tup [nD (Bn T 0 s x),nD (v5 T 0 s x)]) []:=by
 refine SpecH.run T_ok ah Tryz.func127 rfl rfl rfl trivial rfl 1000 64 (λ R ok=>(.s 3 (.cl 163 false [] (.fn Kx (@wL (T) aF)) (.s 58 (.bd (0+(↑30:Int)<=(s:Int)) (λ p0 Z7=>(.s 34 (.out [] [] (V2 [zI 0,zI 90]) [] R (ok _ _ (by(exact AM (KI (T:=T) (f:=0) (s:=s) (x:=x) om) (by decide))) wr)))) (λ p0 Z7=>(.s 15 (.ow (s-0) (.s 1 (.chk (true&&decide ((s:Int)-0<(↑30:Int))) (by(refine decide_eq_true ?_;(omega))) (.s 2 (.chk (U7 (0+AB ((s:Int)-0)*3+3) (length (flatMap gZ T))) FF (.lst (take 3 (drop (0+AB ((s:Int)-0)*3) (flatMap gZ T))) ([zN (Sy.bits (getD T (AB ((s:Int)-0)) mq)),zN (Sy.least (getD T (AB ((s:Int)-0)) mq)),zN (Sy.many (getD T (AB ((s:Int)-0)) mq))]) (aD (k:=3) (i:=AB ((s:Int)-0)) (λ _=>rfl) om om) (.s 40 (.opt (ax .i64 (2^min (Sy.bits (getD T (AB ((s:Int)-0)) mq)) 64*1)) (nD (yF (getD T (AB ((s:Int)-0)) mq))) (@IA (T.getD ((s:Int)-0).toNat mq) (by(have h9:=hz ((s:Int)-0).toNat;omega))) (.s 5 (.bd ((↑(yF (getD T (AB ((s:Int)-0)) mq)):Int)<=(x:Int)) (λ p1 Z6=>(.s 8 (.out [] [] (V2 [zI 0,zI 2]) [] R (ok _ _ (by(exact AM (Ov (T:=T) (f:=0) (s:=s) (x:=x) om om) (by decide))) wr)))) (λ p1 Z6=>(.s 10 (.bd ((↑(Sy.many (getD T (AB ((s:Int)-0)) mq)):Int)<=(x:Int)) (λ p2 Z5=>(.s 8 (.out [] [] (V2 [zI 0,zI 90]) [] R (ok _ _ (by(exact AM (Ow (T:=T) (f:=0) (s:=s) (x:=x) om om om) (by decide))) wr)))) (λ p2 Z5=>(.s 9 (.op ((↑(Sy.least (getD T (AB ((s:Int)-0)) mq)):Int)+(x:Int)) (by(have h9:=hz ((s:Int)-0).toNat;omega)) (.s 8 (.out [] [] (V2 [zI ((↑(Sy.least (getD T (AB ((s:Int)-0)) mq)):Int)+(x:Int)),zI 0]) [] R (ok _ _ (by(have h9:=hz ((s:Int)-0).toNat;have q:=Ox (T:=T) (f:=0) (s:=s) (x:=x) om om om;rw[KH q,q];rfl)) wr)))))))))))))))))))))))))) kr
end Vp
end Go.Proofs.YtefjnofhgkjpmaaGreat

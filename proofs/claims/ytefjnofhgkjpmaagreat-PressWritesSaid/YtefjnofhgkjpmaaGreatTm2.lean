/- Part 2. -/
import Derived.Test.YtefjnofhgkjpmaaGreatTm1
import Derived.IntWalk
import Derived.Test.YtefjnofhgkjpmaaGreatRows
set_option linter.all false
set_option maxRecDepth 100000
set_option maxHeartbeats 4000000
open Array renaming getD_eq_getD_getElem? → YH, getElem?_eq_getElem → XZ, replicate → aag, toArray_toList → XP
open BitVec renaming ofInt → Wq, toNat → Xc, toNat_ofNat → Zu
open Bool renaming and_eq_true → Wh, and_true → WV, not_eq_false' → abe, not_eq_true' → XX, or_eq_false_iff → Ze, or_eq_true → YR, toNat_le → aaa, true → Ga, false → Gd
open ByteArray renaming mk → WZ
open Go.IntKind renaming i64 → Wv, u32 → WU, u64 → Yo, u8 → aal, wrap → Wo
open Go.Region renaming wanted → YL
open Go.Vx.Blk renaming mk → V8
open Go.Vx.D renaming agg → W6, ptr → WA, ref → Wb, sl → Wu, tup → Xm
open Go.Vx.Tr renaming get_set → Zf, ofL → abB, of_ofL → abC, of_set → XH, okK → aaT
open Inhabited renaming default → lb
open Int renaming eq_ofNat_of_zero_le → Xd, fdiv → Xl, fdiv_eq_ediv_of_nonneg → Yf, natCast_ediv → YV, natCast_emod → aaz, natCast_nonneg → YQ, tdiv → XD, tmod → XG, toNat → zL, toNat_natCast → Ya, toNat_of_nonneg → Yk
open List renaming all_cons → ZZ, all_eq_true → ZQ, any_eq_true → aay, append_assoc → WI, append_nil → Xn, cons_append → YO, drop → WT, drop_append → ZT, drop_append_of_le_length → YY, drop_eq_nil_of_le → Xv, drop_zero → XR, eq_nil_of_length_eq_zero → WY, ext_getElem? → Xe, filterMap_cons → aa2, flatMap_append → Xj, flatMap_cons → XE, getD_eq_getElem?_getD → Wd, getElem?_append_left → WO, getElem?_append_right → WJ, getElem?_drop → Xr, getElem?_eq_getElem → Wa, getElem?_eq_none → WL, getElem?_map → WB, getElem?_of_mem → Xo, getElem?_range → Xx, getElem?_set → XA, getElem?_take → Xa, getElem_mem → Xf, length_append → Wc, length_cons → WQ, length_drop → Wy, length_map → Wj, length_nil → Yi, length_range → XY, length_singleton → W7, length_take → Wi, map → Yg, map_append → W4, map_cons → XB, mem_append_left → Yu, mem_cons_of_mem → WG, mem_cons_self → WH, mem_filter → Zr, mem_of_getElem? → Xy, mem_reverse → abA, mem_singleton → Zt, nil_append → YG, pairwise_append → aad, range → Xp, range_succ → Y0, set_append_right → Y6, take → WS, take_append → aaA, take_append_drop → Yp, take_append_of_le_length → Yn, take_length → XF, take_of_length_le → WN, length → v0, flatMap → v8, getD → wm, map → wo, take → wx
open Nat renaming add_mul → Xt, add_zero → X4, and_two_pow_sub_one_eq_mod → ZS, beq → V9, beq_refl → Xk, ble → Wf, ble_eq_true_of_le → We, blt → Yq, div_eq_of_lt → ZU, div_le_self → X7, eq_of_beq_eq_true → Wk, le_of_ble_eq_true → Wm, le_refl → Wl, le_trans → Ww, lt_of_lt_of_le → WX, lt_or_ge → WR, lt_trichotomy → Ym, mod_eq_of_lt → XJ, mul_add → YM, mul_assoc → XS, mul_comm → Yb, mul_le_mul_left → Zk, mul_one → Wx, not_succ_le_zero → aae, or_lt_two_pow → abk, pow_le_pow_right → Xh, pow_succ → XO, sub_self → Xz, succ_le_succ → YN, toNat_testBit → abn, two_pow_add_eq_or_of_lt → Y9, two_pow_pos → Yr, zero_add → WE, zero_le → W5, zero_lt_one → YS, zero_mul → XQ
open UInt8 renaming ofNat → Xg, toNat → V7, toNat_ofNat' → X6
open Option renaming some → Ge, none → z9
open Decidable renaming decide → Ao
open Go.Proofs.Tryz renaming prog → CK
variable{p:Prop}
namespace Go.Vx
open Go.RowKit Go.Bw
section
variable {P:Program} {cx:Cx} {E:Env} {s:AS} {a:Act} {w:World} {i:Nat} {o:Oper} {T:TT} {F:Fence} {n:Nat}

structure Sub (s S:AS):Prop where
 tm:∀t d,s.tm.get t=Ge d->S.tm.get t=Ge d
 hp:∀k g o,s.gat k=Ge (g,o)->S.gat k=Ge (g,o)
 nx:s.nx=S.nx

def SR.part {S:AS}(h:SR cx E S a w)(hs:Sub s S):SR cx E {s with us:=S.us} a w:=
 {
  fr:=λ t d hd=>h.fr t d (hs.tm t d hd),sz:=h.sz,df:=h.df,hp:=λ k g b hk=>h.hp k g b (AS.at_iff.2 (hs.hp k g _ (AS.at_iff.1 hk))),lp:=λ k g b hk=>h.lp k g b (AS.lat_iff.2 (hs.hp k g _ (AS.lat_iff.1 hk)))
  inj:=λ k k' g g' b b' hkk h1 h2=>h.inj k k' g g' b b' hkk (hs.hp _ _ _ h1) (hs.hp _ _ _ h2)
  lt:=h.lt,low:=λ x ⟨k,g,b,hk,hx⟩=>h.low x ⟨k,g,b,hs.hp k g b hk,hx⟩,base:=h.base,bel:=h.bel,szB:=h.szB,nm:=λ g hg=>by
   have:=h.nm g hg;rw[<-hs.nx]at this;exact this}

def lk:Up->Nat->Option (Option (Nat×Ob))
 |[],_=>z9
 |p::r,k=>if p.1=k then Ge p.2 else lk r k
def nM (up:Up):Bool:=up.all λ p=>aaT p.1
def g8:∀{up:Up} (hp:Tr (Nat×Ob)) (k:Nat),nM up=Ga->(fU up hp).get k=(lk up k).getD (hp.get k)
 |[],hp,k,_=>rfl
 |p::r,hp,k,h=>by
  simp only[nM,ZZ,Wh]at h;show((fU r hp).set p.1 p.2).get k=_;rw[Zf _ _ _ h.1];simp only[lk]
  by_cases e:p.1=k
  ·rw[ZF e.symm,ZF e];rfl
  ·rw[ZE (λ h=>e h.symm),ZE e];exact g8 hp k h.2

def SR.extend {S:AS}(h:SR cx E S a w)(hs:Sub s S){E':Env}{w':World}{up:Up}(hok:nM up=Ga){i:Nat}(st:Stp E E' w w')(h':SR cx E' {s with hp:=fU up s.hp,us:=i::S.us} a w')
  (mu:Mut {s with us:=S.us} {s with hp:=fU up s.hp,us:=i::S.us} E E' w w'):SR cx E' {S with hp:=fU up S.hp,us:=i::S.us} a w':=by
 have cases2:∀{k g b},AS.gat {S with hp:=fU up S.hp,us:=i::S.us} k=Ge (g,b)->AS.gat {s with hp:=fU up s.hp,us:=i::S.us} k=Ge (g,b)\/(S.gat k=Ge (g,b)/\s.gat k=z9):=fun{k g b} hk=>by
  have hk:(fU up S.hp).get k=Ge (g,b):=hk;show(fU up s.hp).get k=Ge (g,b)\/_;rw[g8 _ _ hok]at hk ⊢
  cases hu:lk up k with
  |some v=>rw[hu]at hk;exact .inl hk
  |none=>
   rw[hu]at hk;simp only[Option.getD_none]at hk ⊢
   cases hsk:s.hp.get k with
   |none=>exact .inr ⟨hk,hsk⟩
   |some p=>
    obtain⟨g',b'⟩:=p;have hSk:S.gat k=Ge (g',b'):=hs.hp k g' b' hsk;have hSk':S.hp.get k=Ge (g',b'):=hSk;rw[hSk']at hk;exact .inl hk
 have own_s:∀{x},bu {s with us:=S.us} E.φ x->∃k g b,s.gat k=Ge (g,b)/\E.φ g=Ge x:=λ h=>h
 have notown:∀{k g b x},S.gat k=Ge (g,b)->s.gat k=z9->E.φ g=Ge x->¬bu {s with us:=S.us} E.φ x:=fun{k g b x} hk hsk hx ho=>by
  obtain⟨k',g',b',h1,h2⟩:=own_s ho;refine h.inj k k' g g' b b' (λ e=>?_) hk (hs.hp _ _ _ h1) x hx h2;subst e;rw[hsk]at h1;cases h1
 have ltS:∀{k g b x},S.gat k=Ge (g,b)->E.φ g=Ge x->x<w.heap.size:=λ hk hx=>(h.ob hk).lt hx
 have hob:∀{k g b},AS.gat {S with hp:=fU up S.hp,us:=i::S.us} k=Ge (g,b)->OB E' w' g b:=fun{k g b} hk=>by
  rcases cases2 hk with h1|⟨h1,h2⟩
  ·exact h'.ob h1
  ·exact(h.ob h1).step st λ x hx=>⟨mu.own x (ltS h1 hx) (h.own_of ⟨k,g,b,h1,hx⟩) (notown h1 h2 hx),mu.heap x (ltS h1 hx) (notown h1 h2 hx)⟩
 refine{h' with
  fr:=λ t d hd=>by obtain⟨u,hu,hr⟩:=h.fr t d hd;exact⟨u,hu,hr.step st⟩
  df:=h.df.step (λ b hb hd=>mu.own b (h.lt b hb) hb fun⟨k,g,o,hk,hx⟩=>h.unmarked hd ⟨k,g,o,hs.hp _ _ _ hk,hx⟩) λ b hb hd=>mu.heap b (h.lt b hb) fun⟨k,g,o,hk,hx⟩=>h.unmarked hd ⟨k,g,o,hs.hp _ _ _ hk,hx⟩
  hp:=λ k g b hk=>hob (AS.at_iff.1 hk)
  lp:=λ k g b hk=>hob (AS.lat_iff.1 hk)
  inj:=λ k1 k2 g1 g2 b1 b2 hkk h1 h2 x hx1 hx2=>?_
  nm:=λ g hg=>?_
  low:=λ x ⟨k,g,b,hk,hx⟩=>?_}
 ·have mix:∀{k1 k2 g1 g2 b1 b2 x},AS.gat {s with hp:=fU up s.hp,us:=i::S.us} k1=Ge (g1,b1)->S.gat k2=Ge (g2,b2)->s.gat k2=z9->E'.φ g1=Ge x->E'.φ g2=Ge x->False:=fun{k1 k2 g1 g2 b1 b2 x} h1 h2 h3 hx1 hx2=>by
   have e2:=st.φ g2 (h.ob h2).nm;rw[e2]at hx2;exact notown h2 h3 hx2 (mu.old x (ltS h2 hx2) ⟨k1,g1,b1,h1,hx1⟩)
  rcases cases2 h1 with a1|⟨a1,a2⟩<;>rcases cases2 h2 with c1|⟨c1,c2⟩
  ·exact h'.inj k1 k2 g1 g2 b1 b2 hkk a1 c1 x hx1 hx2
  ·exact mix a1 c1 c2 hx1 hx2
  ·exact mix c1 a1 a2 hx2 hx1
  ·have e1:=st.φ g1 (h.ob a1).nm
   have e2:=st.φ g2 (h.ob c1).nm;rw[e1]at hx1;rw[e2]at hx2;exact h.inj k1 k2 g1 g2 b1 b2 hkk a1 c1 x hx1 hx2
 ·rcases cases2 hk with h1|⟨h1,h2⟩
  ·exact h'.low x ⟨k,g,b,h1,hx⟩
  ·have e2:=st.φ g (h.ob h1).nm
   rw[e2]at hx;exact h.low x ⟨k,g,b,h1,hx⟩
 ·have:=h'.nm g hg
  dsimp only at this ⊢;rw[hs.nx]at this;exact this

def zG {S:AS}(hF:FOK F)(hT:T.ok P)(h:SR cx E S a w)(hs:Sub s S)(hi:i∉S.us){ky:Nat}(hdst:iN cx.nt o=Ga){K:Option D->Up->Prop}(hv:dI P T {s with us:=S.us} (s.nx+8*i) ky o K)(hok:∀v up,K v up->nM up=Ga){next:Act->World->Prop}{Q:Exit->Act->World->Prop}
  (hn:∀v up E' a' w',K v up->SR cx E' {S with tm:=dZ S.tm o.dst v,hp:=fU up S.hp,us:=i::S.us} a' w'->Stp E E' w w'->Mut S {S with tm:=dZ S.tm o.dst v,hp:=fU up S.hp,us:=i::S.us} E E' w w'->next a' w'):o.wpIn F n P a w next Q:=
 qU hF hT (h.part hs) hi hv λ v up E' w' u hK s1 s2 s3 hr=>hn v up E' _ w' hK (cJ (s:={S with hp:=fU up S.hp,us:=i::S.us}) (h.extend hs (hok v up hK) s1 s2 s3) hdst hr) s1
  ⟨λ b hz hb hno=>s3.own b hz hb fun⟨k,g,ob,hk,hx⟩=>hno ⟨k,g,ob,hs.hp _ _ _ hk,hx⟩,λ b hb hno=>s3.heap b hb fun⟨k,g,ob,hk,hx⟩=>hno ⟨k,g,ob,hs.hp _ _ _ hk,hx⟩,λ x hx ⟨k,g,ob,hk,hx'⟩=>by
   have hk:(fU up S.hp).get k=Ge (g,ob):=hk;rw[g8 _ _ (hok v up hK)]at hk
   cases hu:lk up k with
   |some vv=>
    have hk2:AS.gat {s with hp:=fU up s.hp,us:=i::S.us} k=Ge (g,ob):=by
     show(fU up s.hp).get k=_;rw[g8 _ _ (hok v up hK)];rw[hu]at hk ⊢;exact hk
    obtain⟨k',g',o',h1,h2⟩:=s3.old x hx ⟨k,g,ob,hk2,hx'⟩;exact⟨k',g',o',hs.hp _ _ _ h1,h2⟩
   |none=>
    rw[hu]at hk;have hk:S.gat k=Ge (g,ob):=hk;refine⟨k,g,ob,hk,?_⟩;rw[<-s1.φ g (h.ob hk).nm];exact hx'⟩

def gd:List Operand->Gw
 |[]=>[]
 | .tmp t::r=>t::gd r
 |_::r=>gd r
def tq (tm:Tr D):Gw->Tr D
 |[]=>.e
 |t::r=>match tm.get t with
  |some d=>(tq tm r).set t (Ge d)
  |none=>tq tm r
def w9 (tm:Tr D):Gw->Gw
 |[]=>[]
 |t::r=>match tm.get t with
  |some d=>AO d++w9 tm r
  |none=>w9 tm r
def tu (hp:Tr (Nat×Ob)):Gw->Tr (Nat×Ob)
 |[]=>.e
 |k::r=>match hp.get k with
  |some v=>(tu hp r).set k (Ge v)
  |none=>tu hp r
def jm (tm:Tr D):∀(ts:Gw) (t:Nat) (d:D),(tq tm ts).get t=Ge d->t∈ts/\tm.get t=Ge d
 |[],t,d,h=>by cases h
 |x::r,t,d,h=>by
  simp only[tq]at h
  cases hx:tm.get x with
  |none=>rw[hx]at h;obtain⟨h1,h2⟩:=jm tm r t d h;exact⟨WG _ h1,h2⟩
  |some v=>
   rw[hx]at h;rcases XH h with⟨rfl,hv⟩|⟨_,h⟩
   ·cases hv;exact⟨WH,hx⟩
   ·obtain⟨h1,h2⟩:=jm tm r t d h;exact⟨WG _ h1,h2⟩
def jn (hp:Tr (Nat×Ob)):∀(ks:Gw) (k:Nat) v,(tu hp ks).get k=Ge v->k∈ks/\hp.get k=Ge v
 |[],t,d,h=>by cases h
 |x::r,t,d,h=>by
  simp only[tu]at h
  cases hx:hp.get x with
  |none=>rw[hx]at h;obtain⟨h1,h2⟩:=jn hp r t d h;exact⟨WG _ h1,h2⟩
  |some v=>
   rw[hx]at h;rcases XH h with⟨rfl,hv⟩|⟨_,h⟩
   ·cases hv;exact⟨WH,hx⟩
   ·obtain⟨h1,h2⟩:=jn hp r t d h;exact⟨WG _ h1,h2⟩
def xa (s:AS):Nat->Gw->Gw
 |0,ks=>ks
 |f+1,ks=>ks++xa s f (ks.flatMap λ k=>match s.at k with
  |some p=>bif p.2.row then[]else pK p.2.cells
  |none=>[])
def JE (o:Oper):Bool:=match o.op with
 | .call c=>match c.callee with
  | .builtin _=>Gd
  |_=>Ga
 |_=>Gd
def JF (o:Oper):Bool:=match o.op with
 | .move _=>Ga
 | .assign _=>Ga
 | .nilCheck _=>Ga
 | .fieldAddr _ _ _=>Ga
 |_=>Gd
def G6:Option D->Bool
 |some (.ref _ _ _ _ _)=>Ga
 |some (.sl _ _ _ _)=>Ga
 |_=>Gd
def M3 (s:AS)(o:Oper):Bool:=match o.op with
 | .slice _ (.tmp t) _ _ _=>G6 (s.tm.get t)
 | .call c=>match c.callee,c.args.toList with
  | .builtin .len,[.tmp t]=>G6 (s.tm.get t)
  |_,_=>Gd
 |_=>Gd
def zH (s:AS)(o:Oper):Gw:=bif JF o||M3 s o then[]else bif JE o then xa s 5 (w9 s.tm (gd o.op.operands.toList))else w9 s.tm (gd o.op.operands.toList)

structure Rec where
 rt:Gw
 rk:Gw
 dst:Option Nat
 v:Option D
 up:Up
 ld:Option (Nat×Nat×Nat×Option D)
abbrev lU:=List Rec
def EP (T:TT)(s:AS)(o:Oper):Option (Nat×Nat×Nat×Option D):=
 match o.op with
 | .load ty (.tmp t)=>match T.get ty,s.tm.get t with
  |some ti,Ge (.ptr k _ off)=>match s.at k with
   |some p=>bif ti.desc.isRow|| !((zH s o).any λ x=>V9 x k)|| !((gd o.op.operands.toList).any λ x=>V9 x t)then z9 else Ge (k,off,p.1,p.2.cells[off]?)
   |none=>z9
  |_,_=>z9
 |_=>z9
def AS.eff (s:AS)(i:Nat)(r:Rec):AS:={s with tm:=dZ s.tm r.dst r.v,hp:=fU r.up s.hp,us:=i::s.us}
def AT (s:AS)(ts ks:Gw):AS:={tm:=tq s.tm ts,hp:=tu s.hp ks,nx:=s.nx,us:=[]}


def d8 (o:Oper):Gw:=(o.after.toList.filter (Region.binds .any)).map (·.on)
def AU (pr:List (Gw)):Nat->List Oper->Bool
 |_,[]=>Ga
 |i,o::r=>(d8 o).all (λ e=>Yq e i)&&(pr.getD i []).all (λ j=>(d8 o).any λ e=>V9 e j||(pr.getD e []).any λ x=>V9 x j)&&AU pr (i+1) r
def pQ {pr:List (Gw)}:∀(l:List Oper) (i:Nat),AU pr i l=Ga->∀(j:Nat) o,l[j]? =Ge o->(∀e∈d8 o,e<i+j)/\∀x∈pr.getD (i+j) [],∃e∈d8 o,e=x\/x∈pr.getD e []
 |[],i,_,j,o,h=>by simp at h
 |o'::r,i,h,j,o,hj=>by
  simp only[AU,Wh,ZQ,aay,YR]at h;obtain⟨⟨h1,h2⟩,h3⟩:=h
  cases j with
  |zero=>
   simp at hj;subst hj;refine⟨λ e he=>Wm (h1 e he),λ x hx=>?_⟩;obtain⟨e,he,h4⟩:=h2 x hx;refine⟨e,he,?_⟩;rcases h4 with h4|⟨y,hy,h4⟩
   ·exact .inl (Wk h4)
   ·have:=Wk h4;subst this;exact .inr hy
  |succ j=>
   have:=pQ r (i+1) h3 j o (by simpa using hj);rw[show i+1+j=i+(j+1) by omega]at this;exact this

def dc (r:Rec):Bool:=(match r.dst with|some t=>aaT t|none=>Ga)&&nM r.up
def pR:Up->Gw
 |[]=>[]
 |p::r=>p.1::pR r
def tv (a b:Gw):Bool:=a.all λ x=>b.all λ y=>!V9 x y
def dp {a b:Gw}(h:tv a b=Ga){x:Nat}(h1:x∈a)(h2:x∈b):False:=by
 simp only[tv,ZQ]at h;have:=h x h1 x h2;simp at this
def eX (a b:Rec):Bool:=
 tv a.dst.toList b.rt&&tv b.dst.toList a.rt&&tv a.dst.toList b.dst.toList&&tv (pR a.up) b.rk&&tv (pR a.up) (pR b.up)
def de (a b:Rec):Bool:=eX a b&&tv (pR b.up) a.rk
def iP {a b:Rec}(h:de a b=Ga):eX a b=true:=by rw[de,Wh]at h;exact h.1
def pS (a b:Rec):Prop:=∃k off g c b2,a.ld=Ge (k,off,g,c)/\lk b.up k=Ge (Ge (g,.b b2))/\b2.cells[off]? =c
def JG (a b:Rec):Bool:=match a.ld with
 |some p=>match lk b.up p.1 with
  |some (Ge (g,.b _))=>V9 g p.2.2.1
  |_=>Gd
 |none=>Gd
def vB (a b:Rec):Option D:=match a.ld with
 |some p=>match lk b.up p.1 with
  |some (Ge (_,.b b2))=>b2.cells[p.2.1]?
  |_=>z9
 |none=>z9
def vC (a:Rec):Option D:=match a.ld with
 |some p=>p.2.2.2
 |none=>z9
def AV {a b:Rec}(h:JG a b=Ga)(e:vB a b=vC a):pS a b:=by
 unfold JG at h;unfold vB vC at e
 split at h
 case h_2=>cases h
 case h_1 p hp=>
 rw[hp]at e;dsimp only at e
 split at h
 case h_2=>cases h
 case h_1 g b2 hb=>
 rw[hb]at e;have:=Wk h;subst this;exact⟨p.1,p.2.1,p.2.2.1,p.2.2.2,b2,hp,hb,e⟩
def xb (pr:List (Gw))(i:Nat)(a:Rec):Nat->lU->Bool
 |_,[]=>Ga
 |j,b::r=>((pr.getD j []).any (λ x=>V9 x i)||de a b)&&xb pr i a (j+1) r
def vD (pr:List (Gw)):Nat->lU->Bool
 |_,[]=>Ga
 |i,a::r=>xb pr i a (i+1) r&&vD pr (i+1) r
def nN {pr:List (Gw)}{i:Nat}{a:Rec}:∀(l:lU) (j:Nat),xb pr i a j l=Ga->∀(k:Nat) b,l[k]? =Ge b->i∈pr.getD (j+k) []\/de a b=Ga
 |[],j,_,k,b,h=>by simp at h
 |b'::r,j,h,k,b,hk=>by
  simp only[xb,Wh,YR,aay]at h
  cases k with
  |zero=>
   simp at hk;subst hk;rcases h.1 with⟨x,hx,h4⟩|h4
   ·have:=Wk h4;subst this;exact .inl hx
   ·exact .inr h4
  |succ k=>
   have:=nN r (j+1) h.2 k b (by simpa using hk);rw[show j+1+k=j+(k+1) by omega]at this;exact this
def pU {pr:List (Gw)}:∀(l:lU) (i:Nat),vD pr i l=Ga->∀(j k:Nat) a b,j<k->l[j]? =Ge a->l[k]? =Ge b->(i+j)∈pr.getD (i+k) []\/de a b=Ga
 |[],i,_,j,k,a,b,_,h,_=>by simp at h
 |a'::r,i,h,j,k,a,b,hjk,hj,hk=>by
  simp only[vD,Wh]at h
  cases k with
  |zero=>omega
  |succ k=>
   cases j with
   |zero=>
    simp at hj;subst hj;have:=nN r (i+1) h.1 k b (by simpa using hk);rw[show i+1+k=i+(k+1) by omega]at this;exact this
   |succ j=>
    have:=pU r (i+1) h.2 j k a b (by omega) (by simpa using hj) (by simpa using hk);rw[show i+1+k=i+(k+1) by omega,show i+1+j=i+(j+1) by omega]at this;exact this

def CF (pr:List (Gw))(l:lU):Prop:=∀(i j:Nat) a b,i<j->l[i]? =Ge a->l[j]? =Ge b->i∈pr.getD j []\/de a b=Ga\/(eX a b=Ga/\pS a b)
def CF.of_ok {pr:List (Gw)}{l:lU}(h:vD pr 0 l=Ga):CF pr l:=λ i j a b hij ha hb=>by
 have:=pU l 0 h i j a b hij ha hb;rw[WE,WE]at this;exact this.imp id .inl
def xc (pr:List (Gw))(i:Nat)(a:Rec):Nat->lU->Bool
 |_,[]=>Ga
 |j,b::r=>((pr.getD j []).any (λ x=>V9 x i)||de a b||(eX a b&&JG a b))&&xc pr i a (j+1) r
def vE (pr:List (Gw)):Nat->lU->Bool
 |_,[]=>Ga
 |i,a::r=>xc pr i a (i+1) r&&vE pr (i+1) r
def zJ (pr:List (Gw))(i:Nat)(a:Rec):Nat->lU->List (Option D×Option D)
 |_,[]=>[]
 |j,b::r=>bif (pr.getD j []).any (λ x=>V9 x i)||de a b then zJ pr i a (j+1) r else(vB a b,vC a)::zJ pr i a (j+1) r
def G7 (pr:List (Gw)):Nat->lU->List (Option D×Option D)
 |_,[]=>[]
 |i,a::r=>zJ pr i a (i+1) r++G7 pr (i+1) r
def nO {pr:List (Gw)}{i:Nat}{a:Rec}:∀(l:lU) (j:Nat),xc pr i a j l=Ga->(∀p∈zJ pr i a j l,p.1=p.2)->∀(k:Nat) b,l[k]? =Ge b->i∈pr.getD (j+k) []\/de a b=Ga\/(eX a b=Ga/\pS a b)
 |[],j,_,_,k,b,h=>by simp at h
 |b'::r,j,h,hs,k,b,hk=>by
  rw[xc,Wh]at h;rw[zJ]at hs
  cases k with
  |zero=>
   simp at hk;subst hk
   cases hc:((pr.getD j []).any (λ x=>V9 x i)||de a b')with
   |true=>
    rw[YR]at hc;rcases hc with hc|hc
    ·obtain⟨x,hx,h4⟩:=List.any_eq_true.1 hc
     have:=Wk h4;subst this;exact .inl hx
    ·exact .inr (.inl hc)
   |false=>
    rw[hc,Bool.false_or,Wh]at h;rw[hc,cond_false]at hs;exact .inr (.inr ⟨h.1.1,AV h.1.2 (hs _ WH)⟩)
  |succ k=>
   have hs':∀p∈zJ pr i a (j+1) r,p.1=p.2:=λ p hp=>hs p (by cases((pr.getD j []).any (λ x=>V9 x i)||de a b')<;>simp[hp])
   have:=nO r (j+1) h.2 hs' k b (by simpa using hk);rw[show j+1+k=j+(k+1) by omega]at this;exact this
def pV {pr:List (Gw)}:∀(l:lU) (i:Nat),vE pr i l=Ga->(∀p∈G7 pr i l,p.1=p.2)->∀(j k:Nat) a b,j<k->l[j]? =Ge a->l[k]? =Ge b->(i+j)∈pr.getD (i+k) []\/de a b=Ga\/(eX a b=Ga/\pS a b)
 |[],i,_,_,j,k,a,b,_,h,_=>by simp at h
 |a'::r,i,h,hs,j,k,a,b,hjk,hj,hk=>by
  rw[vE,Wh]at h;rw[G7]at hs
  cases k with
  |zero=>omega
  |succ k=>
   cases j with
   |zero=>
    simp at hj;subst hj;have:=nO r (i+1) h.1 (λ p hp=>hs p (Yu _ hp)) k b (by simpa using hk);rw[show i+1+k=i+(k+1) by omega]at this;exact this
   |succ j=>
    have:=pV r (i+1) h.2 (λ p hp=>hs p (List.mem_append_right _ hp)) j k a b (by omega) (by simpa using hj) (by simpa using hk);rw[show i+1+k=i+(k+1) by omega,show i+1+j=i+(j+1) by omega]at this;exact this
def CF.of_rx {pr:List (Gw)}{l:lU}(h:vE pr 0 l=Ga)(hs:∀p∈G7 pr 0 l,p.1=p.2):CF pr l:=λ i j a b hij ha hb=>by
 have:=pV l 0 h hs i j a b hij ha hb
 rwa [WE,WE]at this

def bc:Rec:=⟨[],[],z9,z9,[],z9⟩
def g9 (recs:lU)(s:AS)(π:Gw):AS:=π.foldl (λ S i=>S.eff i (recs.getD i bc)) s
def nP (recs:lU)(s:AS)(π:Gw)(i:Nat):g9 recs s (π++[i])=(g9 recs s π).eff i (recs.getD i bc):=by simp[g9]

def eu {β:Type}(f:AS->β)(wr:Nat->Option β)(recs:lU)(hf:∀S i,f (S.eff i (recs.getD i bc))=(wr i).getD (f S)):∀(π:Gw) (S:AS),f (g9 recs S π)=((π.filterMap wr).getLast?).getD (f S)
 |[],S=>rfl
 |i::π,S=>by
  have ih:=eu f wr recs hf π (S.eff i (recs.getD i bc));show f (g9 recs (S.eff i (recs.getD i bc)) π)=_;rw[ih,hf]
  cases hw:wr i with
  |none=>simp[hw]
  |some v=>
   simp only[aa2,hw];rw[List.getLast?_cons]
   cases(π.filterMap wr).getLast?<;>rfl

def co (recs:lU)(t i:Nat):Option (Option D):=if(recs.getD i bc).dst=Ge t then Ge (recs.getD i bc).v else z9
def qY (recs:lU)(k i:Nat):Option (Option (Nat×Ob)):=lk (recs.getD i bc).up k
def vF {recs:lU}(h:recs.all dc=Ga)(i:Nat):dc (recs.getD i bc)=true:=by
 rcases WR i recs.length with hi|hi
 ·have e:recs.getD i bc=recs[i]:=by simp[hi]
  rw[e];exact List.all_eq_true.1 h _ (Xf hi)
 ·have e:recs.getD i bc=bc:=by simp[hi]
  rw[e];rfl
def JH (recs:lU)(hok:recs.all dc=Ga)(t:Nat)(S:AS)(i:Nat):(S.eff i (recs.getD i bc)).tm.get t=(co recs t i).getD (S.tm.get t):=by
 have h:=vF hok i;show(dZ S.tm (recs.getD i bc).dst (recs.getD i bc).v).get t=_;unfold co
 cases hd:(recs.getD i bc).dst with
 |none=>rfl
 |some x=>
  rw[dc,hd,Wh]at h;simp only[dZ,Option.some.injEq];rw[Zf _ _ _ h.1]
  by_cases e:x=t
  ·rw[ZF e.symm,ZF e];rfl
  ·rw[ZE (λ h=>e h.symm),ZE e];rfl
def qZ (recs:lU)(hok:recs.all dc=Ga)(k:Nat)(S:AS)(i:Nat):(S.eff i (recs.getD i bc)).hp.get k=(qY recs k i).getD (S.hp.get k):=by
 have h:=vF hok i;rw[dc,Wh]at h;exact g8 _ _ h.2

def nQ:∀(l m:Gw),l.Pairwise (· < ·)->m.Pairwise (· < ·)->(∀x,x∈l↔x∈m)->l=m
 |[],[],_,_,_=>rfl
 |[],y::m,_,_,h=>by have:=(h y).2 WH;cases this
 |x::l,[],_,_,h=>by have:=(h x).1 WH;cases this
 |x::l,y::m,h1,h2,h=>by
  rw[List.pairwise_cons]at h1 h2;have e:x=y:=by
   rcases List.mem_cons.1 ((h x).1 WH)with e|hx
   ·exact e
   ·rcases List.mem_cons.1 ((h y).2 WH)with e|hy
    ·exact e.symm
    ·have:=h1.1 y hy;have:=h2.1 x hx;omega
  subst e;rw[nQ l m h1.2 h2.2 λ z=>?_];have:=h z;constructor
  ·intro hz
   rcases List.mem_cons.1 (this.1 (WG _ hz))with e|hz'
   ·have:=h1.1 z hz;omega
   ·exact hz'
  ·intro hz
   rcases List.mem_cons.1 (this.2 (WG _ hz))with e|hz'
   ·have:=h2.1 z hz;omega
   ·exact hz'

def cy {β:Type}(wr:Nat->Option β)(l:Gw):l.filterMap wr=(l.filter λ i=>(wr i).isSome).filterMap wr:=by
 induction l with
 |nil=>rfl
 |cons x l ih=>
  cases h:wr x with
  |none=>simp[h,ih]
  |some v=>simp[h,ih]

structure Ord (pr:List (Gw))(recs:lU)(π:Gw):Prop where
 lin:π.Pairwise λ x y=>y∉pr.getD x []/\x≠y
 cl:∀x∈π,∀y∈pr.getD x [],y∈π
 lt:∀x∈π,x<recs.length

section
variable {pr:List (List Nat)} {recs:List Rec} {π:List Nat}

def nR (hcf:CF pr recs)(ho:Ord pr recs π){m:Nat}(W:Nat->Bool)(hW:∀x y,x<recs.length->y<recs.length->x<y->W x=Ga->W y=Ga->eX (recs.getD x bc) (recs.getD y bc)=Gd)
  (hmem:∀x,W x=Ga->(x∈π↔x<m)):π.filter W=(Xp m).filter W:=by
 refine nQ _ _ ?_ (List.Pairwise.filter _ (List.pairwise_lt_range)) λ x=>?_
 ·have h1:=ho.lin.filter W
  refine h1.imp_of_mem fun{x y} hx hy ⟨h2,h3⟩=>?_
  rw[Zr]at hx hy;rcases Ym x y with h|h|h
  ·exact h
  ·exact absurd h h3
  ·have hxl:=ho.lt x hx.1
   have hyl:=ho.lt y hy.1;have:=hcf y x (recs.getD y bc) (recs.getD x bc) h (by simp[hyl]) (by simp[hxl]);rcases this with h4|h4|h4
   ·exact absurd h4 h2
   ·have h4:=iP h4;rw[hW y x hyl hxl h hy.2 hx.2]at h4;cases h4
   ·have h4:=h4.1;rw[hW y x hyl hxl h hy.2 hx.2]at h4;cases h4
 ·rw[Zr,Zr,List.mem_range]
  constructor
  ·rintro⟨h1,h2⟩;exact⟨(hmem x h2).1 h1,h2⟩
  ·rintro⟨h1,h2⟩;exact⟨(hmem x h2).2 h1,h2⟩

def JI {a b:Rec}{t:Nat}(ha:a.dst=Ge t)(hb:b.dst=Ge t):eX a b=false:=by
 cases h:eX a b with
 |false=>rfl
 |true=>
  simp only[eX,Wh]at h;exact(dp h.1.1.2 (x:=t) (by simp[ha]) (by simp[hb])).elim
def dq {up:Up}{k:Nat}(h:(lk up k).isSome=Ga):k∈pR up:=by
 induction up with
 |nil=>simp[lk]at h
 |cons p r ih=>
  simp only[lk]at h
  by_cases e:p.1=k
  ·subst e;exact WH
  ·rw[ZE e]at h;exact WG _ (ih h)
def AW {a b:Rec}{k:Nat}(ha:(lk a.up k).isSome=Ga)(hb:(lk b.up k).isSome=Ga):eX a b=false:=by
 cases h:eX a b with
 |false=>rfl
 |true=>
  simp only[eX,Wh]at h;exact(dp h.2 (dq ha) (dq hb)).elim

def xd (hcf:CF pr recs)(ho:Ord pr recs π){m:Nat}(hm:m<=recs.length){β:Type}(f:AS->β)(wr:Nat->Option β)(hf:∀S i,f (S.eff i (recs.getD i bc))=(wr i).getD (f S))
  (hww:∀x y,x<recs.length->y<recs.length->(wr x).isSome=Ga->(wr y).isSome=Ga->eX (recs.getD x bc) (recs.getD y bc)=Gd)
  (hout:∀x,recs.length<=x->wr x=z9)
  (hread:m=recs.length/\(∀x,x<m->x∈π)\/(m∉π/\(∀y∈pr.getD m [],y∈π)/\m<recs.length/\∀x,x<recs.length->(wr x).isSome=Ga->eX (recs.getD x bc) (recs.getD m bc)=Gd/\de (recs.getD m bc) (recs.getD x bc)=Gd/\(eX (recs.getD m bc) (recs.getD x bc)=Ga->¬pS (recs.getD m bc) (recs.getD x bc)))) (s:AS):
  f (g9 recs s π)=f (g9 recs s (Xp m)):=by
 rw[eu f wr recs hf,eu f wr recs hf,cy wr π,cy wr (Xp m),
  nR hcf ho (m:=m) (λ i=>(wr i).isSome) (λ x y hx hy _ h1 h2=>hww x y hx hy h1 h2) λ x hx=>?_]
 have hxl:x<recs.length:=by
  rcases WR x recs.length with h|h
  ·exact h
  ·rw[hout x h]at hx;cases hx
 rcases hread with⟨rfl,hall⟩|⟨hmn,hpr,hml,hr⟩
 ·exact⟨λ _=>hxl,λ _=>hall x hxl⟩
 ·obtain⟨r1,r2,r3⟩:=hr x hxl hx
  constructor
  ·intro hxp
   rcases Ym x m with h|h|h
   ·exact h
   ·subst h;exact absurd hxp hmn
   ·have:=hcf m x (recs.getD m bc) (recs.getD x bc) h (by simp[hml]) (by simp[hxl])
    rcases this with h4|h4|h4
    ·exact absurd (ho.cl x hxp m h4) hmn
    ·rw[r2]at h4;cases h4
    ·exact absurd h4.2 (r3 h4.1)
  ·intro h
   have:=hcf x m (recs.getD x bc) (recs.getD m bc) h (by simp[hxl]) (by simp[hml]);rcases this with h4|h4|h4
   ·exact hpr x h4
   ·have h4:=iP h4;rw[r1]at h4;cases h4
   ·have h4:=h4.1;rw[r1]at h4;cases h4

def pW (hok:recs.all dc=Ga)(hcf:CF pr recs)(ho:Ord pr recs π){m t:Nat}(hm:m<=recs.length)
  (hread:m=recs.length/\(∀x,x<m->x∈π)\/(m∉π/\(∀y∈pr.getD m [],y∈π)/\m<recs.length/\t∈(recs.getD m bc).rt)) (s:AS):(g9 recs s π).tm.get t=(g9 recs s (Xp m)).tm.get t:=by
 have dst:∀{x},(co recs t x).isSome=Ga->(recs.getD x bc).dst=Ge t:=fun{x} h=>by
  unfold co at h;split at h
  ·assumption
  ·cases h
 refine xd hcf ho hm (λ S=>S.tm.get t) (co recs t) (λ S i=>JH recs hok t S i) (λ x y _ _ h1 h2=>JI (dst h1) (dst h2)) (λ x hx=>by simp[co,bc,hx]) (hread.imp id fun⟨h1,h2,h3,h4⟩=>⟨h1,h2,h3,λ x _ hx=>⟨?_,?_,λ q=>absurd q ?_⟩⟩) s
 ·cases h:eX (recs.getD x bc) (recs.getD m bc)with
  |false=>rfl
  |true=>
   simp only[eX,Wh]at h;exact(dp h.1.1.1.1 (x:=t) (by rw[dst hx];exact WH) h4).elim
 ·cases h:de (recs.getD m bc) (recs.getD x bc)with
  |false=>rfl
  |true=>
   have h:=iP h;simp only[eX,Wh]at h;exact(dp h.1.1.1.2 (x:=t) (by rw[dst hx];exact WH) h4).elim
 ·intro h
  simp only[eX,Wh]at h;exact(dp h.1.1.1.2 (x:=t) (by rw[dst hx];exact WH) h4).elim
def pX (hok:recs.all dc=Ga)(hcf:CF pr recs)(ho:Ord pr recs π){m k:Nat}(hm:m<=recs.length)
  (hread:m=recs.length/\(∀x,x<m->x∈π)\/(m∉π/\(∀y∈pr.getD m [],y∈π)/\m<recs.length/\k∈(recs.getD m bc).rk/\(recs.getD m bc).ld=z9)) (s:AS):(g9 recs s π).hp.get k=(g9 recs s (Xp m)).hp.get k:=by
 refine xd hcf ho hm (λ S=>S.hp.get k) (qY recs k) (λ S i=>qZ recs hok k S i) (λ x y _ _ h1 h2=>AW h1 h2) (λ x hx=>by simp[qY,bc,hx,lk]) (hread.imp id fun⟨h1,h2,h3,h4,h5⟩=>⟨h1,h2,h3,λ x _ hx=>⟨?_,?_,λ _ ⟨k',off,g,c,b2,h6,_⟩=>by rw[h5]at h6;cases h6⟩⟩) s
 ·cases h:eX (recs.getD x bc) (recs.getD m bc)with
  |false=>rfl
  |true=>
   simp only[eX,Wh]at h;exact(dp h.1.2 (dq hx) h4).elim
 ·cases h:de (recs.getD m bc) (recs.getD x bc)with
  |false=>rfl
  |true=>
   rw[de,Wh]at h;exact(dp h.2 (dq hx) h4).elim
def pY {α:Type}(Q:α->Prop)[DecidablePred Q]:∀l:List α,(∃x∈l,Q x)->∃l1 z l2,l=l1++z::l2/\Q z/\∀x∈l2,¬Q x
 |[],⟨x,h,_⟩=>by cases h
 |y::l,⟨x,h,hq⟩=>by
  by_cases hl:∃x∈l,Q x
  ·obtain⟨l1,z,l2,rfl,h1,h2⟩:=pY Q l hl
   exact⟨y::l1,z,l2,rfl,h1,h2⟩
  ·rcases List.mem_cons.1 h with rfl|h
   ·exact⟨[],x,l,rfl,hq,λ z hz q=>hl ⟨z,hz,q⟩⟩
   ·exact absurd ⟨x,h,hq⟩ hl
def EQ (hok:recs.all dc=Ga)(hcf:CF pr recs)(ho:Ord pr recs π){m k off g:Nat}{c:Option D}(hml:m<recs.length)(hmn:m∉π)(hpr:∀y∈pr.getD m [],y∈π)(hld:(recs.getD m bc).ld=Ge (k,off,g,c))(hrk:k∈(recs.getD m bc).rk)(s:AS){b:Blk}
  (hb:(g9 recs s (Xp m)).hp.get k=Ge (g,.b b)) (hc:b.cells[off]? =c):∃b2,(g9 recs s π).hp.get k=Ge (g,.b b2)/\b2.cells[off]? =c:=by
 have hww:∀x y,(qY recs k x).isSome=Ga->(qY recs k y).isSome=Ga->eX (recs.getD x bc) (recs.getD y bc)=false:=λ x y h1 h2=>AW h1 h2
 have early:∀x,x<m->(qY recs k x).isSome=Ga->x∈π:=λ x hx hw=>by
  have hno:eX (recs.getD x bc) (recs.getD m bc)≠true:=λ h=>by
   simp only[eX,Wh]at h;exact(dp h.1.2 (dq hw) hrk).elim
  rcases hcf x m (recs.getD x bc) (recs.getD m bc) hx (by simp[show x<recs.length by omega]) (by simp[hml])with h4|h4|h4
  ·exact hpr x h4
  ·exact absurd (iP h4) hno
  ·exact absurd h4.1 hno
 have out:∀x,(qY recs k x).isSome=Ga->x<recs.length:=λ x hw=>by
  rcases WR x recs.length with h|h
  ·exact h
  ·simp[qY,bc,h,lk]at hw
 by_cases hE:∃y∈π,m<y/\(qY recs k y).isSome=Ga
 ·obtain⟨y,hy,hmy,hwy⟩:=hE
  obtain⟨l1,z,l2,hπ,hz,hl2⟩:=pY (λ x=>(qY recs k x).isSome=Ga) π ⟨y,hy,hwy⟩;have hzl:=out z hz;have hzπ:z∈π:=by rw[hπ];simp
  have hmz:m<z:=by
   rcases Ym m z with h|h|h
   ·exact h
   ·exact absurd (h▸hzπ) hmn
   ·have hyz:z<y:=by omega
    have hord:z∈pr.getD y []:=by
     rcases hcf z y (recs.getD z bc) (recs.getD y bc) hyz (by simp[hzl]) (by simp[out y hwy])with h4|h4|h4
     ·exact h4
     ·have h4:=iP h4;rw[hww z y hz hwy]at h4;cases h4
     ·have h4:=h4.1;rw[hww z y hz hwy]at h4;cases h4
    have hy1:y∈l1:=by
     rw[hπ]at hy;rcases List.mem_append.1 hy with h5|h5
     ·exact h5
     ·rcases List.mem_cons.1 h5 with h5|h5
      ·omega
      ·exact absurd hwy (hl2 y h5)
    have hlin:=ho.lin;rw[hπ,aad]at hlin;exact absurd hord (hlin.2.2 y hy1 z WH).1
  have hst:pS (recs.getD m bc) (recs.getD z bc):=by
   rcases hcf m z (recs.getD m bc) (recs.getD z bc) hmz (by simp[hml]) (by simp[hzl])with h4|h4|h4
   ·exact absurd (ho.cl z hzπ m h4) hmn
   ·rw[de,Wh]at h4
    exact(dp h4.2 (dq hz) hrk).elim
   ·exact h4.2
  obtain⟨k',off',g',c',b2,e1,e2,e3⟩:=hst;rw[hld]at e1;simp only[Option.some.injEq,Prod.mk.injEq]at e1;obtain⟨rfl,rfl,rfl,rfl⟩:=e1;refine⟨b2,?_,e3⟩;rw[eu (λ S=>S.hp.get k) (qY recs k) recs (λ S i=>qZ recs hok k S i),hπ,List.filterMap_append,aa2];have hn:l2.filterMap (qY recs k)=[]:=List.filterMap_eq_nil_iff.2 λ x hx=>by
   cases hq:qY recs k x with
   |none=>rfl
   |some v=>exact absurd (by rw[hq];rfl) (hl2 x hx)
  have hwz:qY recs k z=Ge (Ge (g,.b b2)):=e2;rw[hwz];dsimp only;rw[hn,List.getLast?_append];rfl
 ·refine⟨b,?_,hc⟩
  rw[<-hb,eu (λ S=>S.hp.get k) (qY recs k) recs (λ S i=>qZ recs hok k S i),eu (λ S=>S.hp.get k) (qY recs k) recs (λ S i=>qZ recs hok k S i),cy (qY recs k) π,cy (qY recs k) (Xp m),
   nR hcf ho (m:=m) (λ i=>(qY recs k i).isSome) (λ x y _ _ _ h1 h2=>hww x y h1 h2) λ x hx=>⟨λ hxp=>?_,λ h=>early x h hx⟩]
  rcases Ym x m with h|h|h
  ·exact h
  ·exact absurd (h▸hxp) hmn
  ·exact absurd ⟨x,hxp,h,hx⟩ hE
end

def pZ (T:TT)(s:AS)(o:Oper)(v:Option D)(up:Up):Rec:=⟨gd o.op.operands.toList,zH s o,o.dst,v,up,EP T s o⟩
def dA (T:TT)(s:AS)(t:Nat)(o:Oper)(v:Option D)(up:Up):Rec:=⟨t::gd o.op.operands.toList,zH s o,o.dst,v,up,EP T s o⟩
def d9 (s:AS)(o:Oper):AS:=AT s (gd o.op.operands.toList) (zH s o)
structure okcP (pr:List (Gw))(log:lU):Prop where
 cf:CF pr log.reverse
 ok:log.all dc=Ga
def okcP.of {pr:List (Gw)}{log:lU}(h:(vD pr 0 log.reverse&&log.all dc)=Ga):okcP pr log:=by
 rw[Wh]at h;exact⟨CF.of_ok h.1,h.2⟩
def okcP.rx {pr:List (Gw)}{log:lU}(h:(vE pr 0 log.reverse&&log.all dc)=Ga)(hs:∀p∈G7 pr 0 log.reverse,p.1=p.2):okcP pr log:=by
 rw[Wh]at h;exact⟨CF.of_rx h.1 hs,h.2⟩
def mw (P:Program)(T:TT)(nt kb:Nat)(all:List Oper)(pr:List (Gw)):Nat->List Oper->AS->lU->(AS->Prop)->Prop
 |_,[],s,log,K=>okcP pr log/\K s
 |i,o::r,s,log,K=>vz (iN nt o) (match o.guard with
  |none=>dI P T (d9 s o) (s.nx+8*i) (s.nx+8*i) o λ v up=>mw P T nt kb all pr (i+1) r (s.eff i (pZ T s o v up)) (pZ T s o v up::log) K
  |some jw=>match(all[jw.1]?).bind (·.dst)with
   |some t=>match s.tm.get t with
    |some (.v (.bool b))=>M0 b
     (bif jw.2 then dI P T (d9 s o) (s.nx+8*i) (s.nx+8*i) o λ v up=>mw P T nt kb all pr (i+1) r (AS.eff {s with tm:=s.tm.set t (Ge (.v (.bool Ga)))} i (dA T s t o v up)) (dA T s t o v up::log) K
      else mw P T nt kb all pr (i+1) r (AS.eff {s with tm:=s.tm.set t (Ge (.v (.bool Ga)))} i ⟨[t],[],o.dst,Ge (.tup []),[],z9⟩) (⟨[t],[],o.dst,Ge (.tup []),[],z9⟩::log) K)
     (bif jw.2 then mw P T nt kb all pr (i+1) r (AS.eff {s with tm:=s.tm.set t (Ge (.v (.bool Gd)))} i ⟨[t],[],o.dst,Ge (.tup []),[],z9⟩) (⟨[t],[],o.dst,Ge (.tup []),[],z9⟩::log) K
      else dI P T (d9 s o) (s.nx+8*i) (s.nx+8*i) o λ v up=>mw P T nt kb all pr (i+1) r (AS.eff {s with tm:=s.tm.set t (Ge (.v (.bool Gd)))} i (dA T s t o v up)) (dA T s t o v up::log) K)
    |some (.tup [])=>mw P T nt kb all pr (i+1) r (s.eff i ⟨[t],[],o.dst,Ge (.tup []),[],z9⟩) (⟨[t],[],o.dst,Ge (.tup []),[],z9⟩::log) K
    |_=>False
   |none=>False)

def fZ {nm ky:Nat}{K:Option D->Up->Prop}(h:dI P T s nm ky o K):∃v up,dI P T s nm ky o (λ v' up'=>v'=v/\up'=up)/\K v up:=by
 unfold dI at h ⊢
 split at h
 case h_1 p hp=>
  obtain⟨al,fp,q,hin,r,bs,h1,h2,h4,h5,h6⟩:=h.h;exact⟨_,_,⟨al,fp,q,hin,r,bs,h1,h2,h4,h5,rfl,rfl⟩,h6⟩
 case h_2 hp=>
  have key:∀(e:Ev) (K:Option D->Up->Prop),e.vc K->∃v up,e.vc (λ v' up'=>v'=v/\up'=up)/\K v up:=by
   intro e
   induction e with
   |ok v up=>intro K h;exact⟨v,up,⟨rfl,rfl⟩,h⟩
   |cond b k ih=>intro K h;obtain⟨h0,h⟩:=bz.1 h;obtain⟨v,up,h1,h2⟩:=ih K h;exact⟨v,up,bz.2 ⟨h0,h1⟩,h2⟩
   |opt o k ih=>intro K h;obtain⟨d,hd,h⟩:=aQ.1 h;obtain⟨v,up,h1,h2⟩:=ih d K h;exact⟨v,up,aQ.2 ⟨d,hd,h1⟩,h2⟩
   |bytes cs k ih=>intro K h;obtain⟨bs,hb,h⟩:=h.h;obtain⟨v,up,h1,h2⟩:=ih bs K h;exact⟨v,up,⟨bs,hb,h1⟩,h2⟩
   |list cs k ih=>intro K h;exact ih cs K h
   |stuck=>intro K h;exact h.elim
  exact key _ K h

structure AEq (s s':AS):Prop where
 tm:∀t,s.tm.get t=s'.tm.get t
 hp:∀k,s.hp.get k=s'.hp.get k
 nx:s.nx=s'.nx
def AEq.refl (s:AS):AEq s s:=⟨λ _=>rfl,λ _=>rfl,rfl⟩
def AEq.eff {s s':AS}(h:AEq s s')(i j:Nat)(r:Rec)(hr:dc r=Ga):AEq (s.eff i r) (s'.eff j r):=by
 rw[dc,Wh]at hr;refine⟨λ t=>?_,λ k=>?_,h.nx⟩
 ·show(dZ s.tm r.dst r.v).get t=(dZ s'.tm r.dst r.v).get t
  cases hd:r.dst with
  |none=>exact h.tm t
  |some x=>
   rw[hd]at hr;simp only[dZ];rw[Zf _ _ _ hr.1,Zf _ _ _ hr.1,h.tm]
 ·show(fU r.up s.hp).get k=(fU r.up s'.hp).get k
  rw[g8 _ _ hr.2,g8 _ _ hr.2,h.hp]
def AEq.know {s s':AS}(h:AEq s s'){t:Nat}{d:D}(ht:s.tm.get t=Ge d)(hok:aaT t=Ga):AEq {s with tm:=s.tm.set t (Ge d)} s':=
 ⟨λ x=>by
  rw[Zf _ _ _ hok]
  by_cases e:x=t
  ·subst e;rw[ZF rfl,<-h.tm,ht]
  ·rw[ZE e];exact h.tm x,h.hp,h.nx⟩

def Va (T:TT)(S:AS)(ts:Gw)(o:Oper)(r:Rec):Prop:=∀k off g c,r.ld=Ge (k,off,g,c)->∃ty t ti gp b,o.op= .load ty (.tmp t)/\T.get ty=Ge ti/\ti.desc.isRow=Gd/\t∈ts/\S.tm.get t=Ge (.ptr k gp off)/\S.hp.get k=Ge (g,.b b)/\b.cells[off]? =c/\k∈r.rk
def AY {T:TT}{s S:AS}{o:Oper}{r:Rec}(he:AEq s S)(h:r.ld=EP T s o)(hk:r.rk=zH s o):Va T S (gd o.op.operands.toList) o r:=λ k off g c q=>by
 rw[h]at q;unfold EP at q
 split at q
 case h_2=>cases q
 case h_1 ty t ho=>
 split at q
 case h_2=>cases q
 case h_1 ti k' gp off' h1 h2=>
 split at q
 case h_2=>cases q
 case h_1 p hp=>
 cases hb:(ti.desc.isRow|| !((zH s o).any λ x=>V9 x k')|| !((gd o.op.operands.toList).any λ x=>V9 x t))with
 |true=>rw[hb]at q;cases q
 |false=>
  rw[hb]at q;simp only[cond_false,Option.some.injEq,Prod.mk.injEq]at q;obtain⟨rfl,rfl,rfl,rfl⟩:=q;rw[Ze,Ze,abe,abe]at hb;obtain⟨⟨b1,b2⟩,b3⟩:=hb;obtain⟨x,hx,e⟩:=List.any_eq_true.1 b2;have e:=Wk e;subst e;obtain⟨y,hy,e⟩:=List.any_eq_true.1 b3;have e:=Wk e;subst e;have hp2:s.at x=Ge (p.1,p.2):=hp;rw[AS.at_iff]at hp2;exact⟨ty,y,ti,gp,p.2,ho,h1,b1,hy,by rw[<-he.tm];exact h2,by rw[<-he.hp];exact hp2,rfl,by rw[hk];exact hx⟩
def AZ (P:Program)(T:TT)(nt kb:Nat)(all:List Oper)(S:AS)(i:Nat)(o:Oper)(r:Rec):Prop:=
 iN nt o=Ga/\r.dst=o.dst/\
 (((o.guard=z9\/∃j want t,o.guard=Ge (j,want)/\(all[j]?).bind (·.dst)=Ge t/\S.tm.get t=Ge (.v (.bool want))/\t∈r.rt)/\
   ∃s1 ts,AEq s1 S/\(∀t∈ts,t∈r.rt)/\(dI P T (AT s1 ts r.rk) (S.nx+8*i) (S.nx+8*i) o λ v up=>v=r.v/\up=r.up)/\Va T S ts o r)\/
  (∃j want t,o.guard=Ge (j,want)/\(all[j]?).bind (·.dst)=Ge t/\(S.tm.get t=Ge (.v (.bool (!want)))\/S.tm.get t=Ge (.tup []))/\t∈r.rt/\r.v=Ge (.tup [])/\r.up=[]))

def AZ.congr {nt kb:Nat}{all:List Oper}{S S':AS}(h:AEq S S'){r:Rec}(hf:AZ P T nt kb all S i o r):AZ P T nt kb all S' i o r:=by
 obtain⟨h1,h2,h3⟩:=hf;refine⟨h1,h2,?_⟩;rcases h3 with⟨h3,s1,ts,h4,h5,h6,h7⟩|⟨j,want,t,h3,h4,h5,h6⟩
 ·refine .inl ⟨h3.imp id fun⟨j,want,t,a1,a2,a3,a4⟩=>⟨j,want,t,a1,a2,by rw[<-h.tm];exact a3,a4⟩,s1,ts,⟨λ t=>(h4.tm t).trans (h.tm t),λ k=>(h4.hp k).trans (h.hp k),h4.nx.trans h.nx⟩,h5,by rw[<-h.nx];exact h6,λ k off g c q=>?_⟩
  obtain⟨ty,t,ti,gp,b,a1,a2,a3,a4,a5,a6,a7⟩:=h7 k off g c q;exact⟨ty,t,ti,gp,b,a1,a2,a3,a4,by rw[<-h.tm];exact a5,by rw[<-h.hp];exact a6,a7⟩
 ·exact .inr ⟨j,want,t,h3,h4,by rw[<-h.tm];exact h5,h6⟩

def xe {nt kb:Nat}{all:List Oper}{pr:List (Gw)}{K:AS->Prop}:∀(l:List Oper) (i:Nat) (s:AS) (log:lU),mw P T nt kb all pr i l s log K->log.all dc=Ga
 |[],i,s,log,h=>by
  exact h.1.ok
 |o::l,i,s,log,h=>by
  have step:∀(s1:AS) (r:Rec),mw P T nt kb all pr (i+1) l s1 (r::log) K->log.all dc=true:=λ s1 r h=>by
   have:=xe l (i+1) s1 (r::log) h;rw[ZZ,Wh]at this;exact this.2
  obtain⟨_,h⟩:=bz.1 h
  cases hg:o.guard with
  |none=>
   rw[hg]at h;obtain⟨v,up,h1,h2⟩:=fZ h;exact step _ _ h2
  |some jw=>
   rw[hg]at h;dsimp only at h
   split at h
   case h_2=>exact h.elim
   case h_1 t ht=>
   split at h
   case h_3=>exact h.elim
   case h_2 hb=>exact step _ _ h
   case h_1 b hb=>
   obtain⟨h1,h2⟩:=g6.1 h;obtain⟨j,want⟩:=jw
   cases b<;>cases want
   ·obtain⟨v,up,_,h4⟩:=fZ (h2 rfl);exact step _ _ h4
   ·exact step _ _ (h2 rfl)
   ·exact step _ _ (h1 rfl)
   ·obtain⟨v,up,_,h4⟩:=fZ (h1 rfl);exact step _ _ h4

def ra (P:Program)(T:TT)(nt kb:Nat)(all:List Oper)(pr:List (Gw))(K:AS->Prop)(l:List Oper)(i:Nat)(S:AS)(log:lU):Prop:=
 ∃recs:lU,recs.length=l.length/\CF pr (log.reverse++recs)/\recs.all dc=Ga/\(∃s',K s'/\AEq s' (recs.foldl (λ S r=>S.eff 0 r) S))/\∀(j:Nat) o r,l[j]? =Ge o->recs[j]? =Ge r->AZ P T nt kb all ((recs.take j).foldl (λ S r=>S.eff 0 r) S) (i+j) o r
def A0 {nt kb:Nat}{all:List Oper}(hall:∀o∈all,iN nt o=Ga){pr:List (Gw)}{K:AS->Prop}:∀(l:List Oper) (i:Nat) (s S:AS) (log:lU),AEq s S->mw P T nt kb all pr i l s log K->
  ra P T nt kb all pr K l i S log
 |[],i,s,S,log,he,h=>⟨[],rfl,by have:=h.1.cf;simpa using this,rfl,⟨s,h.2,he⟩,λ j o r hj=>by simp at hj⟩
 |o::l,i,s,S,log,he,h=>by
  obtain⟨hd,h⟩:=bz.1 h;have cont:∀(s1:AS) (r:Rec),AEq s1 S->AZ P T nt kb all S i o r->mw P T nt kb all pr (i+1) l (s1.eff i r) (r::log) K->
    ra P T nt kb all pr K (o::l) i S log:=by
   intro s1 r he1 hf hv;have hrok:dc r=true:=by
    have:=xe l (i+1) _ (r::log) hv;rw[ZZ,Wh]at this;exact this.1
   obtain⟨recs,h1,h2,h2',h3,h4⟩:=A0 hall l (i+1) _ (S.eff 0 r) (r::log) (he1.eff i 0 r hrok) hv;refine⟨r::recs,by simp[h1],by simpa using h2,by rw[ZZ,hrok,h2'];rfl,h3,λ j o' r' ho hr=>?_⟩
   cases j with
   |zero=>simp at ho hr;subst ho hr;exact hf
   |succ j=>
    have:=h4 j o' r' (by simpa using ho) (by simpa using hr);rw[show i+1+j=i+(j+1) by omega]at this;exact this
  cases hg:o.guard with
  |none=>
   rw[hg]at h;obtain⟨v,up,h1,h2⟩:=fZ h;exact cont s _ he ⟨hd,rfl,.inl ⟨.inl hg,s,_,he,λ t ht=>ht,by rw[<-he.nx];exact h1,AY he rfl rfl⟩⟩ h2
  |some jw=>
   obtain⟨j,want⟩:=jw;rw[hg]at h;dsimp only at h
   split at h
   case h_2=>exact h.elim
   case h_1 t ht=>
   split at h
   case h_3=>exact h.elim
   case h_2 hb=>exact cont s _ he ⟨hd,rfl,.inr ⟨j,want,t,hg,ht,.inr (by rw[<-he.tm];exact hb),WH,rfl,rfl⟩⟩ h
   case h_1 b hb=>
   have hokt:aaT t=true:=by
    obtain⟨o',h1,h2⟩:=Option.bind_eq_some_iff.1 ht;have:=hall o' (Xy h1);unfold iN at this;rw[h2,Wh]at this;exact this.2
   obtain⟨h1,h2⟩:=g6.1 h;have run:∀c,b=c->c=want->dI P T (d9 s o) (s.nx+8*i) (s.nx+8*i) o (λ v up=>mw P T nt kb all pr (i+1) l (AS.eff {s with tm:=s.tm.set t (Ge (.v (.bool c)))} i (dA T s t o v up)) (dA T s t o v up::log) K)->ra P T nt kb all pr K (o::l) i S log:=λ c hbc hcw hv=>by
    obtain⟨v,up,h1,h2⟩:=fZ hv;have he1:=he.know (t:=t) (d:=.v (.bool c)) (by rw[hb,hbc]) hokt;exact cont _ _ he1 ⟨hd,rfl,.inl ⟨.inr ⟨j,want,t,hg,ht,by rw[<-he.tm,hb,hbc,hcw],WH⟩,s,_,he,λ t ht=>WG _ ht,by rw[<-he.nx];exact h1,AY he rfl rfl⟩⟩ h2
   have skip:∀c,b=c->c= !want->mw P T nt kb all pr (i+1) l (AS.eff {s with tm:=s.tm.set t (Ge (.v (.bool c)))} i ⟨[t],[],o.dst,Ge (.tup []),[],z9⟩) (⟨[t],[],o.dst,Ge (.tup []),[],z9⟩::log) K->ra P T nt kb all pr K (o::l) i S log:=λ c hbc hcw hv=>by
    have he1:=he.know (t:=t) (d:=.v (.bool c)) (by rw[hb,hbc]) hokt;exact cont _ _ he1 ⟨hd,rfl,.inr ⟨j,want,t,hg,ht,.inl (by rw[<-he.tm,hb,hbc,hcw]),WH,rfl,rfl⟩⟩ hv
   cases b<;>cases want
   ·exact run Gd rfl rfl (h2 rfl)
   ·exact skip Gd rfl rfl (h2 rfl)
   ·exact skip Ga rfl rfl (h1 rfl)
   ·exact run Ga rfl rfl (h1 rfl)
end
section
variable {P:Program} {cx:Cx} {E:Env} {s:AS} {a:Act} {w:World} {i:Nat} {o:Oper} {T:TT} {F:Fence} {n:Nat}

def nS (tm:Tr D)(hp:Tr (Nat×Ob))(nx:Nat)(u u':Gw)(x:Operand):eG ⟨tm,hp,nx,u⟩ x=eG ⟨tm,hp,nx,u'⟩ x:=by cases x<;>rfl
def la (tm:Tr D)(hp:Tr (Nat×Ob))(nx:Nat)(u u':Gw):∀l,gb ⟨tm,hp,nx,u⟩ l=gb ⟨tm,hp,nx,u'⟩ l
 |[]=>rfl
 |x::r=>by simp only[gb,nS tm hp nx u u',la tm hp nx u u' r]
def nT (tm:Tr D)(hp:Tr (Nat×Ob))(nx:Nat)(u u':Gw):∀l,fY ⟨tm,hp,nx,u⟩ l=fY ⟨tm,hp,nx,u'⟩ l
 |[]=>rfl
 |(m,x)::r=>by simp only[fY,nS tm hp nx u u',nT tm hp nx u u' r]
def qa (tm:Tr D)(hp:Tr (Nat×Ob))(nx:Nat)(u u':Gw)(k:Nat):AS.at ⟨tm,hp,nx,u⟩ k=AS.at ⟨tm,hp,nx,u'⟩ k:=rfl
def zK (tm:Tr D)(hp:Tr (Nat×Ob))(nx:Nat)(u u':Gw)(d:D):kZ ⟨tm,hp,nx,u⟩ d=kZ ⟨tm,hp,nx,u'⟩ d:=by cases d<;>rfl
def ER (tm:Tr D)(hp:Tr (Nat×Ob))(nx:Nat)(u u':Gw)(es:Nat)(dd:TypeDesc)(d:D):gX ⟨tm,hp,nx,u⟩ es dd d=gX ⟨tm,hp,nx,u'⟩ es dd d:=by
 unfold gX;split<;>first|rfl|(simp only[qa tm hp nx u u'])
def ES (tm:Tr D)(hp:Tr (Nat×Ob))(nx:Nat)(u u':Gw)(e:TypeId)(es:Nat)(d:D):vn ⟨tm,hp,nx,u⟩ e es d=vn ⟨tm,hp,nx,u'⟩ e es d:=by
 unfold vn;split<;>first|rfl|(simp only[qa tm hp nx u u'])
def JJ (tm:Tr D)(hp:Tr (Nat×Ob))(nx:Nat)(u u':Gw)(x:Option Operand):AL ⟨tm,hp,nx,u⟩ x=AL ⟨tm,hp,nx,u'⟩ x:=by
 cases x with
 |none=>rfl
 |some x=>simp only[AL,nS tm hp nx u u']
def xf (tm:Tr D)(hp:Tr (Nat×Ob))(nx:Nat)(u u' fp:Gw)(d:D):zA ⟨tm,hp,nx,u⟩ fp d=zA ⟨tm,hp,nx,u'⟩ fp d:=by cases d<;>rfl
def tw (tm:Tr D)(hp:Tr (Nat×Ob))(nx:Nat)(u u' fp:Gw):∀l,l8 ⟨tm,hp,nx,u⟩ fp l=l8 ⟨tm,hp,nx,u'⟩ fp l
 |[]=>rfl
 |d::r=>by simp only[l8,xf tm hp nx u u' fp d,tw tm hp nx u u' fp r]
def ET (tm:Tr D)(hp:Tr (Nat×Ob))(nx:Nat)(u u' fp:Gw)(b:Blk)(off m:Nat):zB ⟨tm,hp,nx,u⟩ fp b off m=zB ⟨tm,hp,nx,u'⟩ fp b off m:=by
 unfold zB;rw[tw tm hp nx u u']
def tz (tm:Tr D)(hp:Tr (Nat×Ob))(nx:Nat)(u u' fp:Gw):∀l,iC ⟨tm,hp,nx,u⟩ fp l=iC ⟨tm,hp,nx,u'⟩ fp l
 |[]=>rfl
 |d::r=>by simp only[iC,xf tm hp nx u u' fp d,tz tm hp nx u u' fp r]
def EU (tm:Tr D)(hp:Tr (Nat×Ob))(nx:Nat)(u u' fp:Gw)(b:Blk):pp ⟨tm,hp,nx,u⟩ fp b=pp ⟨tm,hp,nx,u'⟩ fp b:=by
 unfold pp;rw[tz tm hp nx u u']
mutual
def A1 (tm:Tr D)(hp:Tr (Nat×Ob))(nx:Nat)(u u':Gw)(al:Bool)(fp:Gw):∀d,nI ⟨tm,hp,nx,u⟩ al fp d=nI ⟨tm,hp,nx,u'⟩ al fp d
 | .v _=>rfl
 | .sl ..=>rfl
 | .ref ..=>by simp only[nI,qa tm hp nx u u',ET tm hp nx u u']
 | .ptr ..=>by simp only[nI,qa tm hp nx u u',EU tm hp nx u u']
 | .ep ..=>rfl
 | .yl ..=>rfl
 | .fn _ fi ca=>by simp only[nI,hD tm hp nx u u' al fp fi,hD tm hp nx u u' al fp ca]
 | .agg cs=>by simp only[nI,hD tm hp nx u u' al fp cs]
 | .tup cs=>by simp only[nI,hD tm hp nx u u' al fp cs]
 | .ifc t x=>by simp only[nI,A1 tm hp nx u u' al fp x]
def hD (tm:Tr D)(hp:Tr (Nat×Ob))(nx:Nat)(u u':Gw)(al:Bool)(fp:Gw):∀l,jv ⟨tm,hp,nx,u⟩ al fp l=jv ⟨tm,hp,nx,u'⟩ al fp l
 |[]=>rfl
 |d::r=>by simp only[jv,A1 tm hp nx u u' al fp d,hD tm hp nx u u' al fp r]
end
def tA (tm:Tr D)(hp:Tr (Nat×Ob))(nx:Nat)(u u' fp:Gw):∀l,jE ⟨tm,hp,nx,u⟩ fp l=jE ⟨tm,hp,nx,u'⟩ fp l
 |[]=>rfl
 |k::r=>by simp only[jE,qa tm hp nx u u',tA tm hp nx u u' fp r,hD tm hp nx u u']
def M4 (tm:Tr D)(hp:Tr (Nat×Ob))(nx:Nat)(u u':Gw)(nm ky:Nat):ev T ⟨tm,hp,nx,u⟩ nm ky o=ev T ⟨tm,hp,nx,u'⟩ nm ky o:=by
 unfold ev
 split<;>(try unfold vx)<;>(try unfold vy)<;>(try split)<;>
  simp only[gV,qH,mL,wT,mV,fl,gT,mM,wU,EI,wY,wZ,w5,mT,mO,qP,qO,mU,fV,mP,fW,mR,jg,wW,AQ,qS,w6,qT,j9,tc,EK,qG,
   nS tm hp nx u u',la tm hp nx u u',nT tm hp nx u u',qa tm hp nx u u',zK tm hp nx u u',ER tm hp nx u u',ES tm hp nx u u',JJ tm hp nx u u']
def EV (u':Gw){nm ky:Nat}{K:Option D->Up->Prop}(h:dI P T s nm ky o K):dI P T {s with us:=u'} nm ky o K:=by
 obtain⟨tm,hp,nx,u⟩:=s;have e1:dY ⟨tm,hp,nx,u'⟩ o=dY ⟨tm,hp,nx,u⟩ o:=by
  unfold dY
  split<;>(try rfl)
  split<;>(try rfl)
  simp only[nS tm hp nx u' u,la tm hp nx u' u]
 unfold dI at h ⊢;dsimp only;rw[e1,M4 tm hp nx u' u]
 split at h
 case h_1 p hp'=>
  obtain⟨al,fp,q,hin,r,bs,h1,h2,h3⟩:=h.h;exact⟨al,fp,q,hin,r,bs,by rw[hD tm hp nx u' u];exact h1,by rw[tA tm hp nx u' u];exact h2,h3⟩
 case h_2 hp'=>exact h

def EW {s s2:AS}{nm ky:Nat}{o:Oper}{K:Option D->Up->Prop}{ty:TypeId}{t:Nat}{ti:TI}{k gp off g:Nat}{c:Option D}{b2:Blk}(ho:o.op= .load ty (.tmp t))(hti:T.get ty=Ge ti)(hrow:ti.desc.isRow=Gd)
  (h1:∀d,s.tm.get t=Ge d->d= .ptr k gp off) (h2:∀p:Nat×Blk,s.at k=Ge (p.1,p.2)->p.1=g/\p.2.cells[off]? =c) (ht2:s2.tm.get t=Ge (.ptr k gp off)) (hk2:s2.at k=Ge (g,b2)) (hc2:b2.cells[off]? =c) (h:dI P T s nm ky o K):dI P T s2 nm ky o K:=by
 have hn:∀S:AS,dY S o=none:=λ S=>by unfold dY;rw[ho]
 have he:∀S:AS,ev T S nm ky o=gT T S ty (.tmp t):=λ S=>by unfold ev;rw[ho]
 unfold dI at h ⊢;rw[hn]at h ⊢;dsimp only at h ⊢;rw[he]at h ⊢;unfold gT at h ⊢;rw[hti]at h ⊢;have e2:eG s2 (.tmp t)=Ge (.ptr k gp off):=ht2;rw[e2]
 cases hd:eG s (.tmp t)with
 |none=>rw[hd]at h;exact h.elim
 |some d=>
  rw[hd]at h;have:=h1 d hd;subst this;dsimp only[kZ]at h ⊢;rw[hk2]
  cases hp:s.at k with
  |none=>rw[hp]at h;exact h.elim
  |some p=>
   rw[hp]at h;obtain⟨e3,e4⟩:=h2 p hp;dsimp only at h ⊢;rw[e3]at h;unfold mK at h ⊢;rw[hrow]at h ⊢;rw[cond_false,e4]at h;rw[cond_false,hc2];exact h

def nU {E:Env}{w:World}:RD E w (.tup []) undef:=RD.tup [] [] rfl (by simp)
def nV {cx:Cx}{E:Env}{s:AS}{a:Act}{w:World}(h:SR cx E s a w){all:List Oper}{j t:Nat}(hj:(all[j]?).bind (·.dst)=Ge t)(ht:s.tm.get t=Ge (.tup [])):yielded all.toArray a.tmps j=none:=by
 obtain⟨u,hu,hr⟩:=h.fr t _ ht
 cases hr
 unfold yielded;have e1:((all.toArray[j]?).bind (·.dst))=Ge t:=by simpa using hj
 rw[e1];simp only[Option.bind_some,hu]
def ia {nt kb:Nat}{all:List Oper}{pr:List (Gw)}{K:AS->Prop}:∀(l:List Oper) (i:Nat) (s:AS) (log:lU),mw P T nt kb all pr i l s log K->∀o∈l,iN nt o=Ga
 |[],i,s,log,h,o,ho=>by cases ho
 |o::l,i,s,log,h,o',ho=>by
  obtain⟨hd,h⟩:=bz.1 h;rcases List.mem_cons.1 ho with rfl|ho
  ·exact hd
  cases hg:o.guard with
  |none=>
   rw[hg]at h;obtain⟨v,up,h1,h2⟩:=fZ h;exact ia l _ _ _ h2 o' ho
  |some jw=>
   rw[hg]at h;dsimp only at h
   split at h
   case h_2=>exact h.elim
   case h_1 t ht=>
   split at h
   case h_3=>exact h.elim
   case h_2 hb=>exact ia l _ _ _ h o' ho
   case h_1 b hb=>
   obtain⟨h1,h2⟩:=g6.1 h;obtain⟨j,want⟩:=jw
   cases b<;>cases want
   ·obtain⟨v,up,_,h4⟩:=fZ (h2 rfl);exact ia l _ _ _ h4 o' ho
   ·exact ia l _ _ _ (h2 rfl) o' ho
   ·exact ia l _ _ _ (h1 rfl) o' ho
   ·obtain⟨v,up,_,h4⟩:=fZ (h1 rfl);exact ia l _ _ _ h4 o' ho

def iQ (recs:lU)(s:AS):∀π:Gw,(g9 recs s π).us=π.reverse++s.us/\(g9 recs s π).nx=s.nx:=by
 intro π
 induction π generalizing s with
 |nil=>exact⟨rfl,rfl⟩
 |cons i π ih=>
  obtain⟨h1,h2⟩:=ih (s.eff i (recs.getD i bc));refine⟨?_,h2⟩;show(g9 recs (s.eff i (recs.getD i bc)) π).us=_;rw[h1];simp[AS.eff]

def nW (recs:lU)(hok:recs.all dc=Ga)(s:AS):∀k,k<=recs.length->AEq ((recs.take k).foldl (λ S r=>S.eff 0 r) s) (g9 recs s (Xp k))
 |0,_=>.refl s
 |k+1,hk=>by
  have ih:=nW recs hok s k (by omega);have hlt:k<recs.length:=by omega
  rw[Y0,nP,List.take_succ_eq_append_getElem hlt,List.foldl_append];have e:recs.getD k bc=recs[k]:=by simp[hlt]
  rw[e];exact ih.eff 0 k _ (List.all_eq_true.1 hok _ (Xf hlt))

def qb:∀(N:Nat) (l:Gw),l.Nodup->(∀x∈l,x<N)->l.length<=N
 |0,l,_,h=>by
  cases l with
  |nil=>exact Wl _
  |cons x l=>have:=h x WH;omega
 |N+1,l,hn,h=>by
  have ih:=qb N (l.erase N) (hn.erase N) λ x hx=>by
   rw[hn.mem_erase_iff]at hx;have:=h x hx.2;omega
  by_cases hm:N∈l
  ·rw[List.length_erase_of_mem hm]at ih;omega
  ·rw[List.erase_of_not_mem hm]at ih;omega

def SR.alike {S S':AS}(h:SR cx E S a w)(he:AEq S' S){N:Nat}(hus:∀k∈S.us,k<N):SR cx E (S'.fin N) a w:=by
 have hat:∀k,(S'.fin N).gat k=S.gat k:=he.hp;have hob:∀{k g o},(S'.fin N).gat k=Ge (g,o)->OB E w g o:=fun{k g o} hk=>h.ob (by rw[<-hat];exact hk)
 exact{
     fr:=λ t d hd=>h.fr t d (by rw[<-he.tm];exact hd),sz:=h.sz,df:=h.df,hp:=λ k g b hk=>hob (AS.at_iff.1 hk),lp:=λ k g b hk=>hob (AS.lat_iff.1 hk)
     inj:=λ k k' g g' b b' hkk h1 h2=>h.inj k k' g g' b b' hkk (by rw[<-hat];exact h1) (by rw[<-hat];exact h2),lt:=h.lt,low:=λ x ⟨k,g,b,hk,hx⟩=>h.low x ⟨k,g,b,by rw[<-hat];exact hk,hx⟩,base:=h.base,bel:=h.bel,szB:=h.szB
     nm:=λ g hg=>.inl (by
      show g<S'.nx+8*N;rw[he.nx];rcases h.nm g hg with h1|⟨j,hj,h1⟩
      ·omega
      ·have:=hus j hj;omega)}
def AEq.own {S S':AS}(he:AEq S' S){φ:Nat->Option Nat}{x N:Nat}(h:bu (S'.fin N) φ x):bu S φ x:=by
 obtain⟨k,g,o,hk,hx⟩:=h;refine⟨k,g,o,?_,hx⟩;show S.hp.get k=_;rw[<-he.hp];exact hk

def AWP.draw {rd:Bool}{nt kb xn id:Nat}{ops:Array Oper}{K:AX->AS->Prop}(hT:T.ok P)(hfol:P.follows .mixedOrders=Ga)(pr:List (Gw))(hpr:AU pr 0 ops.toList=Ga)
  (h:mw P T nt kb ops.toList pr 0 ops.toList s [] λ s'=>K .normal (s'.fin ops.size)):AWP P rd nt xn (.region id ops Ga) s K:=by
 refine⟨λ F n cx E0 a0 w0 Q hF hro hn hu hs hQ=>?_⟩;subst hn;obtain⟨recs,hlen,hcf,hrok,⟨s',hK,hAE⟩,hfacts⟩:=A0 (ia ops.toList 0 s [] h) ops.toList 0 s s [] (.refl s) h;rw[List.reverse_nil,YG]at hcf;have hlen:recs.length=ops.size:=by simpa using hlen
 have hspec:=pQ ops.toList 0 hpr;have main:∀fuel listed (π:Gw) a w E,fuel+π.length=ops.size->listed.size=ops.size->(∀x,x<ops.size->(listed.getD x Ga=Ga↔x∈π))->Ord pr recs π->(∀x∈π,∀o,ops.toList[x]? =Ge o->∀e∈d8 o,e∈π)->
   SR cx E (g9 recs s π) a w->Stp E0 E w0 w->Mut s (g9 recs s π) E0 E w0 w->wpAnyIn F n P .any ops Q fuel listed a w:=by
  intro fuel;have fin:∀(π:Gw) a w E,Ord pr recs π->(∀x,x<ops.size->x∈π)->SR cx E (g9 recs s π) a w->Stp E0 E w0 w->Mut s (g9 recs s π) E0 E w0 w->Q .normal a w:=by
   intro π a w E ho hall hsr hst hmut;have e1:AEq s' (g9 recs s π):=by
    have e2:=nW recs hrok s recs.length (Wl _);rw[XF]at e2;refine⟨λ t=>?_,λ k=>?_,?_⟩
    ·rw[hAE.tm,e2.tm,pW hrok hcf ho (m:=recs.length) (Wl _) (.inl ⟨rfl,λ x hx=>hall x (by omega)⟩)]
    ·rw[hAE.hp,e2.hp,pX hrok hcf ho (m:=recs.length) (Wl _) (.inl ⟨rfl,λ x hx=>hall x (by omega)⟩)]
    ·rw[hAE.nx,e2.nx,(iQ recs s _).2,(iQ recs s π).2]
   refine hQ .normal _ E a w hK rfl (hsr.alike e1 λ k hk=>?_) (hst.x _) ⟨hmut.own,hmut.heap,λ x hx ho'=>hmut.old x hx (e1.own ho')⟩;rw[(iQ recs s π).1,hu,Xn,abA]at hk;have:=ho.lt k hk;omega
  induction fuel with
  |zero=>
   intro listed π a w E hf hsz hli ho hed hsr hst hmut;have hnd:π.Nodup:=ho.lin.imp λ h=>h.2
   have hall:∀x,x<ops.size->x∈π:=λ x hx=>by
    apply Classical.byContradiction;intro hn;have:=qb ops.size (x::π) (List.nodup_cons.2 ⟨hn,hnd⟩) λ y hy=>by
     rcases List.mem_cons.1 hy with rfl|hy
     ·exact hx
     ·have:=ho.lt y hy;omega
    simp only[WQ]at this;omega
   refine⟨?_,fin π a w E ho hall hsr hst hmut⟩;apply List.eq_nil_iff_forall_not_mem.2;intro x hx;rw[mem_ready]at hx;obtain⟨h1,o,h2,_⟩:=hx;have hlt:x<ops.size:=(Array.getElem?_eq_some_iff.1 h2).1;rw[(hli x hlt).2 (hall x hlt)]at h1;cases h1
  |succ fuel ih=>
   intro listed π a w E hf hsz hli ho hed hsr hst hmut;have hready:∀x o,ops[x]? =Ge o->x∉π->(∀e∈d8 o,e∈π)->x∈Region.ready .any ops listed:=λ x o hxo hxp he=>by
    have hlt:x<ops.size:=(Array.getElem?_eq_some_iff.1 hxo).1;rw[mem_ready];refine⟨?_,o,hxo,λ e hea hb=>?_⟩
    ·cases hl:listed.getD x Ga with
     |false=>rfl
     |true=>exact absurd ((hli x hlt).1 hl) hxp
    ·have hm:e.on∈d8 o:=by
      unfold d8;exact List.mem_map.2 ⟨e,List.mem_filter.2 ⟨by simpa using hea,hb⟩,rfl⟩
     have hep:=he _ hm;have hlt2:e.on<ops.size:=by have:=ho.lt _ hep;omega
     have:=(hli _ hlt2).2 hep;simp only[YH]at this ⊢;rw[XZ (by omega)]at this ⊢;exact this
   refine⟨λ hr=>?_,λ i hi=>?_⟩
   ·refine fin π a w E ho (λ x=>?_) hsr hst hmut
    induction x using Nat.strongRecOn with
    |_ x ihx=>
     intro hx;apply Classical.byContradiction;intro hxp;have hxo:ops[x]? =Ge ops[x]:=XZ hx;have:=hready x ops[x] hxo hxp λ e he=>by
      have h1:=(hspec x ops[x] (by simp[hx])).1 e he;rw[WE]at h1;exact ihx e h1 (by omega)
     rw[hr]at this;cases this
   ·rw[mem_ready]at hi
    obtain⟨hl,o,hio,hedges⟩:=hi;have hlt:i<ops.size:=(Array.getElem?_eq_some_iff.1 hio).1;have hip:i∉π:=λ h=>by rw[(hli i hlt).2 h]at hl;cases hl
    have hedg:∀e∈d8 o,e∈π:=λ e he=>by
     unfold d8 at he;obtain⟨e',he',rfl⟩:=List.mem_map.1 he;obtain⟨h1,h2⟩:=List.mem_filter.1 he';have h3:=hedges e' (by simpa using h1) h2;have hlt2:e'.on<ops.size:=by
      rcases WR e'.on ops.size with h|h
      ·exact h
      ·simp only[YH]at h3
       rw[Array.getElem?_eq_none (by omega)]at h3;cases h3
     refine(hli _ hlt2).1 ?_;simp only[YH]at h3 ⊢;rw[XZ (by omega)]at h3 ⊢;exact h3
    have hol:ops.toList[i]? =Ge o:=by simpa using hio
    have hprs:∀y∈pr.getD i [],y∈π:=λ y hy=>by
     have:=(hspec i o hol).2 y (by rw[WE];exact hy);obtain⟨e,he,h1⟩:=this;rcases h1 with rfl|h1
     ·exact hedg _ he
     ·exact ho.cl e (hedg e he) y h1
    have hilen:i<recs.length:=by omega
    have hri:recs[i]? =Ge (recs.getD i bc):=by simp[hilen]
    have hfact:=hfacts i o (recs.getD i bc) hol hri;rw[WE]at hfact;have hfa:=(nW recs hrok s i (by omega))
    have hfact:=hfact.congr hfa;obtain⟨hdst,hrd,hcase⟩:=hfact;have lookT:∀t,t∈(recs.getD i bc).rt->(g9 recs s π).tm.get t=(g9 recs s (Xp i)).tm.get t:=λ t ht=>pW hrok hcf ho (by omega) (.inr ⟨hip,hprs,hilen,ht⟩) s
    have lookH:(recs.getD i bc).ld=z9->∀k,k∈(recs.getD i bc).rk->(g9 recs s π).hp.get k=(g9 recs s (Xp i)).hp.get k:=λ hn k hk=>pX hrok hcf ho (by omega) (.inr ⟨hip,hprs,hilen,hk,hn⟩) s
    have hius:i∉(g9 recs s π).us:=by rw[(iQ recs s π).1,hu,Xn,abA];exact hip
    have next:∀E' a' w',SR cx E' ((g9 recs s π).eff i (recs.getD i bc)) a' w'->Stp E E' w w'->Mut (g9 recs s π) ((g9 recs s π).eff i (recs.getD i bc)) E E' w w'->wpAnyIn F n P .any ops Q fuel (listed.setIfInBounds i Ga) a' w':=by
     intro E' a' w' hs' hst' hmut';refine ih (listed.setIfInBounds i Ga) (π++[i]) a' w' E' (by simp;omega) (by simpa using hsz) (λ x hx=>?_) ⟨?_,?_,?_⟩ ?_ (by rw[nP];exact hs') (hst.trans hst') (by rw[nP];exact hmut.trans hmut' hst.size)
     ·by_cases e:i=x
      ·subst e
       simp[hsz,hlt]
      ·have h1:=hli x hx
       simp only[YH,Array.getElem?_setIfInBounds_ne e]at h1 ⊢;rw[h1];simp[Ne.symm e]
     ·rw[aad]
      refine⟨ho.lin,List.pairwise_singleton _ _,λ x hx y hy=>?_⟩;rw[Zt]at hy;subst hy;exact⟨λ h=>hip (ho.cl x hx _ h),λ h=>by subst h;exact hip hx⟩
     ·intro x hx y hy
      rcases List.mem_append.1 hx with hx|hx
      ·exact Yu _ (ho.cl x hx y hy)
      ·rw[Zt]at hx;subst hx
       exact Yu _ (hprs y hy)
     ·intro x hx
      rcases List.mem_append.1 hx with hx|hx
      ·exact ho.lt x hx
      ·rw[Zt]at hx;subst hx;exact hilen
     ·intro x hx o' ho' e he
      rcases List.mem_append.1 hx with hx|hx
      ·exact Yu _ (hed x hx o' ho' e he)
      ·rw[Zt]at hx;subst hx
       rw[hol]at ho';cases ho';exact Yu _ (hedg e he)
    unfold wpOpIn;rw[hio];dsimp only;rcases hcase with⟨hg,s1,ts,bB,hts,hv,hldG⟩|⟨j,want,t,hg,hjt,hgt,htr,hv0,hup0⟩
    ·have hwant:YL o (yielded ops a.tmps)=true:=by
      rcases hg with hg|⟨j,want,t,hg,hjt,hgt,htr⟩
      ·simp[YL,hg]
      ·have hy:=jO (all:=ops.toList) hsr hjt (b:=want) (by rw[lookT t htr];exact hgt)
       simp only[XP]at hy;simp[YL,hg,hy]
     rw[ZF hwant];have hgo:∃s2,Sub s2 (g9 recs s π)/\s2.nx=(g9 recs s (Xp i)).nx/\dI P T s2 ((g9 recs s (Xp i)).nx+8*i) ((g9 recs s (Xp i)).nx+8*i) o λ v up=>v=(recs.getD i bc).v/\up=(recs.getD i bc).up:=by
      cases hld:(recs.getD i bc).ld with
      |none=>
       refine⟨AT s1 ts (recs.getD i bc).rk,⟨λ t d hd=>?_,λ k g b hk=>?_,?_⟩,bB.nx,hv⟩
       ·obtain⟨h1,h2⟩:=jm _ _ _ _ hd
        rw[lookT t (hts t h1),<-bB.tm];exact h2
       ·obtain⟨h1,h2⟩:=jn _ _ _ _ hk
        show(g9 recs s π).hp.get k=_;rw[lookH hld k h1,<-bB.hp];exact h2
       ·show s1.nx=_
        rw[bB.nx,(iQ recs s _).2,(iQ recs s π).2]
      |some q=>
       obtain⟨k,off,g,c⟩:=q;obtain⟨ty,t,ti,gp,b,a1,a2,a3,a4,a5,a6,a7,a8⟩:=hldG k off g c hld;obtain⟨b2,e1,e2⟩:=EQ hrok hcf ho hilen hip hprs hld a8 s a6 a7;refine⟨{g9 recs s π with us:=[]},⟨λ t d hd=>hd,λ k g b hk=>hk,rfl⟩,?_,?_⟩
       ·exact(iQ recs s π).2.trans (iQ recs s _).2.symm
       ·have ht2:(g9 recs s π).tm.get t=Ge (.ptr k gp off):=by rw[lookT t (hts t a4)];exact a5
        exact EW a1 a2 a3 (λ d hd=>by
         obtain⟨_,h2⟩:=jm _ _ _ _ hd;rw[bB.tm,a5]at h2;exact(Option.some.inj h2).symm) (λ p hp=>by
         obtain⟨h1,h2⟩:=jn _ _ _ _ (AS.at_iff.1 hp);rw[bB.hp,a6]at h2;have h3:=Option.some.inj h2;simp only[Prod.mk.injEq,Ob.b.injEq]at h3;exact⟨h3.1.symm,by rw[<-h3.2,a7]⟩) ht2 (AS.at_iff.2 e1) e2 hv
     obtain⟨s2,hsub,hnx,hv⟩:=hgo;have hrk:=vF hrok i;rw[dc,Wh]at hrk;refine zG (s:=s2) (K:=λ v up=>v=(recs.getD i bc).v/\up=(recs.getD i bc).up) hF hT hsr hsub hius hdst (EV _ (by rw[hnx];exact hv)) (λ v up hvu=>by rw[hvu.2];exact hrk.2) λ v up E' a' w' hvu hs' hst' hmut'=>?_
     obtain⟨rfl,rfl⟩:=hvu;refine next E' a' w' ?_ hst' ?_
     ·unfold AS.eff
      rw[hrd];exact hs'
     ·unfold AS.eff
      rw[hrd];exact hmut'
    ·have hwant:YL o (yielded ops a.tmps)=false:=by
      rcases hgt with hgt|hgt
      ·have hy:=jO (all:=ops.toList) hsr hjt (b:=!want) (by rw[lookT t htr];exact hgt)
       simp only[XP]at hy;simp only[YL,hg,hy];cases want<;>rfl
      ·have hy:=nV (all:=ops.toList) hsr hjt (by rw[lookT t htr];exact hgt)
       simp only[XP]at hy;simp only[YL,hg,hy];rfl
     rw[ZE (by rw[hwant];simp)];refine⟨λ f _=>hF.fn f,next E _ w ?_ (Stp.refl E w) ?_⟩
     ·unfold AS.eff
      rw[hrd,hv0,hup0];exact cJ (s:={g9 recs s π with us:=i::(g9 recs s π).us}) (hsr.us i) hdst (v:=Ge (.tup [])) nU
     ·unfold AS.eff
      rw[hup0];exact⟨λ _ _ h _=>h,λ _ _ _=>rfl,λ _ _ h=>h⟩
 refine wpIn_region_any hfol (main ops.size _ [] a0 _ E0 (by simp) (by simp) (λ x hx=>?_) ⟨List.Pairwise.nil,(λ x hx=>by cases hx),(λ x hx=>by cases hx)⟩ (λ x hx=>by cases hx) (hs.drew) (Stp.drew E0 w0) ⟨λ _ _ h _=>h,λ _ _ _=>rfl,λ _ _ h=>h⟩);simp[hx]
end

def Sz (x:Nat)(l:Gw):Gw:=bif l.any (λ y=>V9 x y)then l else x::l
def A3:Gw->Gw->Gw
 |[],m=>m
 |x::l,m=>A3 l (Sz x m)
def JK:List Oper->List (Gw)->List (Gw)
 |[],acc=>acc
 |o::r,acc=>JK r (acc++[(d8 o).foldl (λ m e=>A3 (e::acc.getD e []) m) []])

def gD (s:AS)(c:Operand)(b:Bool):AS:=
 match c with
 | .tmp t=>{s with tm:=s.tm.set t (Ge (.v (.bool b)))}
 |_=>s
section
variable {P:Program} {T:TT} {rd:Bool} {nt xn kb:Nat}

def SR.know' {cx:Cx}{E:Env}{s:AS}{a:Act}{w:World}(h:SR cx E s a w){c:Operand}{b:Bool}(hc:eG s c=Ge (.v (.bool b))):SR cx E (gD s c b) a w:=by
 cases c with
 |tmp t=>exact h.know hc rfl
 |_=>exact h
def rc (s:AS)(c:Operand)(b:Bool):(gD s c b).us=s.us/\(gD s c b).hp=s.hp:=by cases c<;>exact⟨rfl,rfl⟩
def Mut.know {s s':AS}{E E':Env}{w w':World}{c:Operand}{b:Bool}(h:Mut (gD s c b) s' E E' w w'):Mut s s' E E' w w':=by
 have e:∀φ x,bu (gD s c b) φ x↔bu s φ x:=λ φ x=>by
  unfold bu AS.gat;rw[(rc s c b).2]
 exact⟨λ b hz hb hn=>h.own b hz hb λ ho=>hn ((e _ _).1 ho),λ x hx hn=>h.heap x hx λ ho=>hn ((e _ _).1 ho),λ x hx ho=>(e _ _).1 (h.old x hx ho)⟩

def D.sim (d d':D):Prop:=∀E w u,RD E w d u->RD E w d' u
def D.sim.refl (d:D):d.sim d:=λ _ _ _ h=>h
def dr:GA->GA->Prop
 |[],[]=>True
 |d::r,d'::r'=>d.sim d'/\dr r r'
 |_,_=>False
def dr.refl:∀l:GA,dr l l
 |[]=>trivial
 |d::r=>⟨.refl d,dr.refl r⟩
def dr.get:∀{l l':GA},dr l l'->l.length=l'.length/\∀(j:Nat) d',l'[j]? =Ge d'->∃d,l[j]? =Ge d/\d.sim d'
 |[],[],_=>⟨rfl,λ j d h=>by simp at h⟩
 |d::r,d'::r',⟨h1,h2⟩=>by
  obtain⟨e,g⟩:=dr.get h2;refine⟨by simp[e],λ j x hx=>?_⟩
  cases j with
  |zero=>simp at hx;subst hx;exact⟨d,rfl,h1⟩
  |succ j=>simpa using g j x (by simpa using hx)
 |[],_::_,h=>h.elim
 |_::_,[],h=>h.elim
def D.sim.agg {l l':GA}(h:dr l l'):(W6 l).sim (.agg l'):=λ E w u hr=>by
 obtain⟨e,g⟩:=h.get
 cases hr with
 |agg _ us hlen hd h1=>
  refine .agg _ us (by rw[hlen,e]) (λ i d' u hd' hu=>?_) h1;obtain⟨d,hd1,hs⟩:=g i d' hd';exact hs _ _ _ (hd i d u hd1 hu)

def G8 (s:AS):List (Nat×D)->Prop
 |[]=>True
 |p::r=>(∃d,s.tm.get p.1=Ge d/\d.sim p.2)/\G8 s r
def G9 (s:AS):List (Nat×(Nat×Blk))->Gw->Prop
 |[],[]=>True
 |(_,(g,b))::r,k::ks=>(∃b0,s.at k=Ge (g,b0)/\b0.elem=b.elem/\(b.row=Gd->b0.row=Gd)/\(b0.row=Ga->b.row=Ga)/\dr b0.cells b.cells)/\G9 s r ks
 |_,_=>False
def VW (tm:List (Nat×D))(hp:List (Nat×(Nat×Blk)))(lp:List (Nat×(Nat×LRec)))(nx:Nat):AS:=⟨abB tm,abB (hp.map (λ p=>(p.1,(p.2.1,Ob.b p.2.2)))++lp.map (λ p=>(p.1,(p.2.1,Ob.l p.2.2)))),nx,[]⟩
def Ha (s:AS):List (Nat×(Nat×LRec))->Gw->Prop
 |[],[]=>True
 |(_,(g,r))::l,k::ks=>(∃r0,s.lat k=Ge (g,r0)/\r0.st=r.st/\r0.pend=r.pend/\r0.params=r.params/\r0.assign=r.assign/\r0.body=r.body/\r0.nt=r.nt/\∃tm,r.tm=abB tm/\∀p∈tm,∃d,r0.tm.get p.1=Ge d/\d.sim p.2)/\Ha s l ks
 |_,_=>False

structure Le (s s':AS):Prop where
 h:∃tm hp lp nx,s'=VW tm hp lp nx/\G8 s tm/\(∃ks ls,G9 s hp ks/\Ha s lp ls/\fC (ks++ls)=Ga)/\s.nx<=nx/\s.us=[]

end

def A4:Nat->lM->Tr (Nat×Ob)
 |_,[]=>.e
 |i,b::r=>(A4 (i+1) r).set i (Ge (i,.b b))
def qc:∀(bs:lM) (i k:Nat) {g:Nat} {o:Ob},(A4 i bs).get k=Ge (g,o)->i<=k/\g=k/\∃b,o= .b b/\bs[k-i]? =Ge b
 |[],i,k,g,o,h=>by cases h
 |x::r,i,k,g,o,h=>by
  rcases XH h with⟨rfl,hv⟩|⟨e,h⟩
  ·cases hv;exact⟨Wl _,rfl,x,rfl,by simp⟩
  ·obtain⟨h1,h2,b,h3,h4⟩:=qc r (i+1) k h
   exact⟨by omega,h2,b,h3,by rw[show k-i=(k-(i+1))+1 by omega,List.getElem?_cons_succ];exact h4⟩
def s0 (ds:GA)(hin:lM):AS:={tm:=mc 0 ds,hp:=A4 0 hin,nx:=hin.length}

mutual
def D.pl:D->Bool
 | .v _=>Ga
 | .agg cs=>xg cs
 | .ifc _ x=>x.pl
 |_=>Gd
def xg:GA->Bool
 |[]=>Ga
 |d::r=>d.pl&&xg r
end
def jo {l:GA}:xg l=Ga↔∀d∈l,d.pl=true:=by
 induction l with
 |nil=>simp[xg]
 |cons x l ih=>simp[xg,ih]
def aH (bs:Z4):xg (bs.map dB)=true:=jo.2 λ d hd=>by simp only[List.mem_map]at hd;obtain⟨b,_,rfl⟩:=hd;rfl
def RD.plain {E:Env}{w:World}{d:D}{u:Value}(h:RD E w d u):d.pl=Ga->∀(E':Env) (w':World),RD E' w' d u:=by
 induction h with
 |v c h=>exact λ _ _ _=>.v c h
 |agg cs us hlen _ h1 ih=>exact λ hc E' w'=> .agg cs us hlen (λ i d u a1 a2=>ih i d u a1 a2 (jo.1 hc d (Xy a1)) E' w') h1
 |ifc t x u _ ih=>exact λ hc E' w'=> .ifc t x u (ih hc E' w')
 |_=>intro hc;cases hc
mutual
def D.pl_closed:∀(d:D),d.pl=Ga->d.closed=Ga
 | .v _,_=>rfl
 | .agg cs,h=>ib cs h
 | .ifc _ x,h=>D.pl_closed x h
 | .sl ..,h=>nomatch h
 | .ref ..,h=>nomatch h
 | .ptr ..,h=>nomatch h
 | .ep ..,h=>nomatch h
 | .tup _,h=>nomatch h
 | .fn ..,h=>nomatch h
 | .yl ..,h=>nomatch h
def ib:∀(l:GA),xg l=Ga->ab l=Ga
 |[],_=>rfl
 |d::r,h=>by
  have h':(d.pl&&xg r)=true:=h;rw[Wh]at h';show(d.closed&&ab r)=Ga;rw[D.pl_closed d h'.1,ib r h'.2];rfl
end


mutual
def my (al:Bool)(n:Nat):D->Bool
 | .v _=>Ga
 | .sl _ _ _ _=>al
 | .ref _ g _ _ _=>Yq g n
 | .ptr _ g _=>Yq g n
 | .ep _ _=>al
 | .agg cs=>ej al n cs
 | .tup cs=>ej al n cs
 | .ifc _ x=>my al n x
 | .fn _ fi ca=>ej al n fi&&ej al n ca
 | .yl _ g=>Yq g n
def ej (al:Bool)(n:Nat):GA->Bool
 |[]=>Ga
 |d::r=>my al n d&&ej al n r
end
def fD {al:Bool}{n:Nat}:∀{l:GA},ej al n l=Ga->∀(j:Nat) d,l[j]? =Ge d->my al n d=Ga
 |[],_,j,d,h=>by simp at h
 |x::r,h,j,d,hj=>by
  simp only[ej,Wh]at h
  cases j with
  |zero=>simp at hj;subst hj;exact h.1
  |succ j=>exact fD h.2 j d (by simpa using hj)

def xh (al:Bool)(n:Nat)(b:Blk):Bool:=bif b.row then(bif al then ab b.cells else xg b.cells)else ej al n b.cells
def EX (al:Bool)(n:Nat)(κ γ:Nat->Nat)(s:AS):Gw->Gw->lM->Prop
 |[],[],[]=>True
 |k::ks,g::gs,b::bs=>s.at k=Ge (g,cb κ γ b)/\xh al n b=Ga/\EX al n κ γ s ks gs bs
 |_,_,_=>False
def tB {al:Bool}{n:Nat}{κ γ:Nat->Nat}{s:AS}:∀{ks gs:Gw} {bs:lM},EX al n κ γ s ks gs bs->ks.length=bs.length/\gs.length=bs.length/\∀(j:Nat) b,bs[j]? =Ge b->s.at (ks.getD j 0)=Ge (gs.getD j 0,cb κ γ b)/\xh al n b=Ga
 |[],[],[],_=>⟨rfl,rfl,λ j b h=>by simp at h⟩
 |k::ks,g::gs,b::bs,⟨h1,h2,h3⟩=>by
  obtain⟨e1,e2,e3⟩:=tB h3;refine⟨by simp[e1],by simp[e2],λ j b' hb=>?_⟩
  cases j with
  |zero=>simp at hb;subst hb;exact⟨h1,h2⟩
  |succ j=>simpa using e3 j b' (by simpa using hb)
 |[],[],_::_,h=>h.elim
 |[],_::_,_,h=>h.elim
 |_::_,[],_,h=>h.elim
 |_::_,_::_,[],h=>h.elim
def jp:Nat->Nat->Gw->Bool
 |_,0,_=>Ga
 |i,m+1,g::r=>V9 g i&&jp (i+1) m r
 |_,_+1,[]=>Gd
def iR:∀{m i:Nat} {gs:Gw},jp i m gs=Ga->∀j,j<m->gs.getD j 0=i+j
 |0,_,_,_,j,hj=>by omega
 |m+1,i,[],h,j,hj=>by simp[jp]at h
 |m+1,i,g::r,h,j,hj=>by
  simp only[jp,Wh]at h
  cases j with
  |zero=>simpa using Wk h.1
  |succ j=>
   have:=iR h.2 j (by omega);simp only[List.getD_cons_succ];omega

structure Out (al:Bool)(m:Nat)(s:AS)(l:GA)(r:D)(bs:lM):Prop where
 h:∃ks gs:Gw,EX al bs.length (λ j=>ks.getD j 0) (λ j=>gs.getD j 0) s ks gs bs/\fC ks=Ga/\jp 0 m gs=Ga/\db (λ j=>ks.getD j 0) (λ j=>gs.getD j 0) r=tl l/\my al bs.length r=Ga

section
variable {P:Program} {T:TT} {nt kb:Nat}

def A5 {E Er:Env}{w:World}{κ γ:Nat->Nat}{n:Nat}{al:Bool}(hg:∀j,j<n->E.nm (γ j)->Er.nm j/\E.φ (γ j)=Er.φ j)(ho:al=Ga->∀b,Er.own b->E.own b):∀{d:D} {u:Value},RD E w d u->∀r,db κ γ r=d->my al n r=Ga->RD Er w r u:=by
 have lst:∀{rs cs:GA},fB κ γ rs=cs->cs.length=rs.length/\∀j:Nat,cs[j]? =(rs[j]?).map (db κ γ):=fun{rs cs} h=>by
  subst h;rw[eM];exact⟨by simp,λ j=>by simp⟩
 intro d u h
 induction h with
 |v c h=>
  intro r hr hok
  cases r<;>simp only[db,reduceCtorEq,D.v.injEq]at hr
  subst hr;exact .v _ h
 |@sl E1 w1 nn m sz cells ad c us hlen hd h1 hn hs hc h0 hr' ih=>
  intro r hr hok
  cases r<;>simp only[db,reduceCtorEq,D.sl.injEq]at hr
  obtain⟨rfl,rfl,rfl,rfl⟩:=hr;exact RD.ofCl (RD.step (E:=E1.cl) (E':=Er.cl) (w:=w1) (w':=w1) ⟨λ _ h=>h.elim,λ _ h=>h.elim,Wl _,λ b _ hb=>⟨λ h=>hb (ho hok b h),rfl⟩,λ _ _=>rfl⟩ ((RD.sl _ _ _ _ ad c us hlen hd h1 hn hs hc h0 hr').weak rfl))
 |ref k g off m sz c b off' t mm hg' hb hc ho' hsh hm=>
  intro r hr hok
  cases r<;>simp only[db,reduceCtorEq,D.ref.injEq]at hr
  obtain⟨rfl,rfl,rfl,rfl,rfl⟩:=hr
  rename_i k0 g0 _ _ _
  have hlt:g0<n:=Wm hok;exact .ref k0 g0 _ _ _ c b off' t mm (hg g0 hlt hg').1 ((hg g0 hlt hg').2.symm.trans hb) hc ho' hsh hm
 |refn k g sz hg' hb=>
  intro r hr hok
  cases r<;>simp only[db,reduceCtorEq,D.ref.injEq]at hr
  obtain⟨rfl,rfl,rfl,rfl,rfl⟩:=hr
  rename_i k0 g0 sz0
  have hlt:g0<n:=Wm hok;exact .refn k0 g0 _ (hg g0 hlt hg').1 ((hg g0 hlt hg').2.symm.trans hb)
 |ptr k g off b hg' hb=>
  intro r hr hok
  cases r<;>simp only[db,reduceCtorEq,D.ptr.injEq]at hr
  obtain⟨rfl,rfl,rfl⟩:=hr
  rename_i k0 g0 _
  have hlt:g0<n:=Wm hok;exact .ptr k0 g0 _ b (hg g0 hlt hg').1 ((hg g0 hlt hg').2.symm.trans hb)
 |@ep E1 w1 cells off b o us hlen hd h1 hb ho' hr' ih=>
  intro r hr hok
  cases r<;>simp only[db,reduceCtorEq,D.ep.injEq]at hr
  obtain⟨rfl,rfl⟩:=hr;exact .ep _ _ b o us hlen (λ i d u a1 a2=>(hd i d u a1 a2).step (E:=E1.cl) (E':=Er.cl) (w:=w1) (w':=w1) ⟨λ _ h=>h.elim,λ _ h=>h.elim,Wl _,λ b _ hb=>⟨λ h=>hb (ho hok b h),rfl⟩,λ _ _=>rfl⟩) h1 hb (λ hh=>ho' (ho hok b hh)) hr'
 |agg cs us hlen _ h1 ih=>
  intro r hr hok
  cases r<;>simp only[db,reduceCtorEq,D.agg.injEq]at hr
  rename_i rs
  obtain⟨e1,e2⟩:=lst hr;refine .agg rs us (by rw[hlen,e1]) (λ i d u a1 a2=>?_) h1;exact ih i _ u (by rw[e2,a1];rfl) a2 hg ho d rfl (fD hok i d a1)
 |tup cs us hlen _ ih=>
  intro r hr hok
  cases r<;>simp only[db,reduceCtorEq,D.tup.injEq]at hr
  rename_i rs
  obtain⟨e1,e2⟩:=lst hr;refine .tup rs us (by rw[hlen,e1]) (λ i d u a1 a2=>?_);exact ih i _ u (by rw[e2,a1];rfl) a2 hg ho d rfl (fD hok i d a1)
 |ifc t x u _ ih=>
  intro r hr hok
  cases r<;>simp only[db,reduceCtorEq,D.ifc.injEq]at hr
  obtain⟨rfl,rfl⟩:=hr;exact .ifc _ _ u (ih hg ho _ rfl hok)
 |fn f fi ca us vs hl1 hl2 _ _ ih1 ih2=>
  intro r hr hok
  cases r<;>simp only[db,reduceCtorEq,D.fn.injEq]at hr
  rename_i f' fi' ca'
  obtain⟨rfl,hr1,hr2⟩:=hr;rw[my,Wh]at hok;obtain⟨e1,e2⟩:=lst hr1;obtain⟨e3,e4⟩:=lst hr2;exact .fn _ fi' ca' us vs (by rw[hl1,e1]) (by rw[hl2,e3]) (λ i d u a1 a2=>ih1 i _ u (by rw[e2,a1];rfl) a2 hg ho d rfl (fD hok.1 i d a1)) (λ i d u a1 a2=>ih2 i _ u (by rw[e4,a1];rfl) a2 hg ho d rfl (fD hok.2 i d a1))
 |yl k g b hg' hb=>
  intro r hr hok
  cases r<;>simp only[db,reduceCtorEq,D.yl.injEq]at hr
  obtain⟨rfl,rfl⟩:=hr
  rename_i k0 g0
  have hlt:g0<n:=Wm hok;exact .yl k0 g0 b (hg g0 hlt hg').1 ((hg g0 hlt hg').2.symm.trans hb)

def SpecH.of {al:Bool}(hT:T.ok P){f:FuncId}{fn:Func}{c:Code}(hf:P.funcs[f]? =Ge fn)(hb:fn.body=Ge c){rs:List ResultVar}(hrs:fn.results=⟨rs⟩){ds:GA}{hin:lM}{r:D}{bs:lM}(hle:Wf hin.length bs.length=Ga)
  (h:AWP P Gd fn.ntmps hin.length c (s0 ds hin) λ e s'=>(e= .normal\/e= .ret)/\iO T s' rs λ l=>Out al hin.length s' l r bs):SpecH al P f ds hin r bs:=by
 refine⟨Wm hle,λ O φ w args hOlt hhin hinj hal hargs=>?_⟩;have hm:=Wm hle;have hnamed:∀{j x},j<hin.length->φ j=Ge x->x<w.heap.size:=fun{j x} hj hx=>by
  have:=(hhin j _ (Wa hj)).2;have hx':(fo O φ hin.length).φ j=Ge x:=hx;rw[hx']at this;exact this.2.1
 let cx:Cx:=⟨w.heap.size,w,fn.ntmps,O,λ k=>w.heap.size<=k\/∃j,j<hin.length/\φ j=Ge k,λ _ h=>.inl h,hin.length,λ h0 x hx hm=>hm.elim (λ h1=>absurd (hOlt x hx) (Nat.not_lt_of_le h1)) fun⟨j,hj,_⟩=>absurd hj (by omega)⟩
 have hin_:∀{k g o},(s0 ds hin).gat k=Ge (g,o)->k<hin.length/\g=k/\∃b,o= .b b/\hin[k]? =Ge b:=fun{k g o} hk=>by
  obtain⟨_,h2,b,h3,h4⟩:=qc hin 0 k hk;rw[Nat.sub_zero]at h4;exact⟨(List.getElem?_eq_some_iff.1 h4).1,h2,b,h3,h4⟩
 have hsr:SR cx (fo O φ hin.length) (s0 ds hin) {
                           tmps:=args.toArray++aag (fn.ntmps-args.toArray.size) undef,defers:=[]} w:={
  fr:=qX hal hargs
  sz:=by show fn.ntmps<=_;simp;omega
  df:=lY.nil _ _ _
  hp:=λ k g b hk=>by
   obtain⟨_,rfl,b',e,h4⟩:=hin_ (AS.at_iff.1 hk)
   cases e;exact hhin _ _ h4
  lp:=λ k g b hk=>by
   obtain⟨_,_,b',e,_⟩:=hin_ (AS.lat_iff.1 hk)
   cases e
  inj:=λ k k' g g' o o' hkk h1 h2=>by
   obtain⟨a1,rfl,_⟩:=hin_ h1;obtain⟨a2,rfl,_⟩:=hin_ h2;exact λ x=>hinj _ _ x a1 a2 hkk
  lt:=λ x hx=>by
   rcases hx with hx|⟨j,hj,hx⟩
   ·exact hOlt x hx
   ·exact hnamed hj hx
  low:=λ x ⟨k,g,o,hk,hx⟩=>by
   obtain⟨a1,rfl,_⟩:=hin_ hk;exact .inr ⟨_,a1,hx⟩
  base:=λ x hx=>.inl hx
  bel:=Fr.refl _ _
  nm:=λ g hg=>.inl hg
  szB:=Wl _}
 refine(qW (Φ:=λ l s'=>Out al hin.length s' l r bs) hT hf hb hrs h (cx:=cx) rfl (Wl _) rfl hsr).mono ?_;rintro e w' ⟨l,s',E',a',v,rfl,⟨ks,gs,hexp,hnd,hgs,hmap,hok⟩,hu,hs',_,hst,hown,hold,hr⟩;obtain⟨x1,x2,x3⟩:=tB hexp;refine⟨v,rfl,hs'.bel,λ j=>if j<bs.length then E'.φ (gs.getD j 0)else z9,λ j hj=>?_,?_,λ j b hb=>?_,λ i j x hi hj hij h1 h2=>?_,λ j x hmj hj hx=>?_⟩
 ·have hj':j<bs.length:=by omega
  show(if j<bs.length then E'.φ (gs.getD j 0)else z9)=φ j;rw[ZF hj',iR hgs j hj,WE];exact hst.φ j hj hj
 ·have hφ:∀j,j<bs.length->(λ j=>if j<bs.length then E'.φ (gs.getD j 0)else z9) j=E'.φ (gs.getD j 0):=λ j hj=>ZF hj
  refine A5 (λ j hj _=>⟨hj,(hφ j hj).symm⟩) (λ hal' b hb=>?_) hr r hmap hok;rcases hb with hb|⟨j,hj,hx⟩
  ·unfold k7 at hb;rw[ZF hal']at hb;exact hs'.base b hb
  ·rw[hφ j hj]at hx
   obtain⟨y1,_⟩:=x3 j _ (Wa hj);exact hs'.own_of ⟨_,_,_,AS.at_iff.1 y1,hx⟩
 ·have hj:j<bs.length:=(List.getElem?_eq_some_iff.1 hb).1
  have hφ:∀j,j<bs.length->(λ j=>if j<bs.length then E'.φ (gs.getD j 0)else z9) j=E'.φ (gs.getD j 0):=λ j hj=>ZF hj
  have hownr:al=Ga->∀b,(fo (k7 al O w) (λ j=>if j<bs.length then E'.φ (gs.getD j 0)else z9) bs.length).own b->E'.own b:=λ hal' b hb=>by
   rcases hb with hb|⟨j,hj,hx⟩
   ·unfold k7 at hb;rw[ZF hal']at hb;exact hs'.base b hb
   ·rw[hφ j hj]at hx
    obtain⟨y1,_⟩:=x3 j _ (Wa hj);exact hs'.own_of ⟨_,_,_,AS.at_iff.1 y1,hx⟩
  obtain⟨y1,y2⟩:=x3 j b hb;obtain⟨z1,z2⟩:=hs'.hp _ _ _ y1;obtain⟨m1,m2,m3⟩:=gY (λ j=>ks.getD j 0) (λ j=>gs.getD j 0) b;refine⟨⟨hj,?_⟩,λ hrow=>?_⟩
  rotate_left
  ·unfold xh at y2
   rw[hrow,cond_true]at y2
   cases al with
   |true=>exact y2
   |false=>exact ib _ y2
  show match(λ j=>if j<bs.length then E'.φ (gs.getD j 0)else z9) j with|none=>_|some b=>_
  rw[hφ j hj]
  cases hp:E'.φ (gs.getD j 0)with
  |none=>
   rw[hp]at z2;exact⟨WY (by rw[<-m3,z2.1];rfl),by rw[<-m2];exact z2.2⟩
  |some x=>
   rw[hp]at z2;obtain⟨_,c0,cur,fr,c1,c2,c3,c4,c5⟩:=z2;refine⟨.inr ⟨j,hj,(hφ j hj).trans hp⟩,c0,cur,fr,by rw[<-m1];exact c1,c2,by rw[<-m3];exact c3,λ hr=>by rw[<-m3];exact c4 (by rw[m2];exact hr),λ i d hd=>?_⟩;unfold xh at y2
   cases hrow:b.row with
   |true=>
    rw[hrow,cond_true]at y2;have e:(cb (λ j=>ks.getD j 0) (λ j=>gs.getD j 0) b).cells=b.cells:=by unfold cb;rw[hrow];rfl
    obtain⟨v,v1,v2,v3⟩:=c5 i d (by rw[e];exact hd);refine⟨v,v1,v2,?_⟩
    cases al with
    |true=>exact RD.ofCl ((v3.weak (bl y2 hd)).step (E:=E'.cl) (E':=Env.cl (fo (k7 Ga O w) _ bs.length)) (w:=w') (w':=w') ⟨λ _ h=>h.elim,λ _ h=>h.elim,Wl _,λ b _ hb=>⟨λ h=>hb (hownr rfl b h),rfl⟩,λ _ _=>rfl⟩)
    |false=>exact v3.plain (jo.1 y2 d (Xy hd)) _ _
   |false=>
    rw[hrow,cond_false]at y2;have e:(cb (λ j=>ks.getD j 0) (λ j=>gs.getD j 0) b).cells=fB (λ j=>ks.getD j 0) (λ j=>gs.getD j 0) b.cells:=by unfold cb;rw[hrow];rfl
    obtain⟨v,v1,v2,v3⟩:=c5 i (db (λ j=>ks.getD j 0) (λ j=>gs.getD j 0) d) (by rw[e,eM,WB,hd];rfl);exact⟨v,v1,v2,A5 (λ j hj _=>⟨hj,(hφ j hj).symm⟩) hownr v3 d rfl (fD y2 i d hd)⟩
 ·simp only[hi,hj,if_true]at h1 h2
  obtain⟨y1,_⟩:=x3 i _ (Wa hi);obtain⟨y2,_⟩:=x3 j _ (Wa hj);refine hs'.inj _ _ _ _ _ _ (λ e=>hij ?_) (AS.at_iff.1 y1) (AS.at_iff.1 y2) x h1 h2;have e1:ks[i]? =Ge (ks.getD i 0):=by simp[show i<ks.length by omega]
  have e2:ks[j]? =Ge (ks.getD j 0):=by simp[show j<ks.length by omega]
  exact jl (dM hnd) e1 (by rw[e];exact e2)
 ·simp only[hj,if_true]at hx
  obtain⟨y1,_⟩:=x3 j _ (Wa hj);rcases hs'.low x ⟨_,_,_,AS.at_iff.1 y1,hx⟩with h1|⟨j0,hj0,hx0⟩
  ·exact h1
  ·exfalso
   have hj0':j0<bs.length:=by omega
   obtain⟨y2,_⟩:=x3 j0 _ (Wa hj0');have e0:E'.φ (gs.getD j0 0)=Ge x:=by
    rw[iR hgs j0 hj0,WE];exact(hst.φ j0 hj0 hj0).trans hx0
   refine hs'.inj _ _ _ _ _ _ (λ e=>?_) (AS.at_iff.1 y1) (AS.at_iff.1 y2) x hx e0;have e1:ks[j]? =Ge (ks.getD j 0):=by simp[show j<ks.length by omega]
   have e2:ks[j0]? =Ge (ks.getD j0 0):=by simp[show j0<ks.length by omega]
   have:=jl (dM hnd) e1 (by rw[e];exact e2);omega
end
def EY (P:Program)(p:Nat×TI):Prop:=P.underlying p.1=Ge p.2.desc/\(P.info? p.1).map (λ i=>(i.zero,i.size,i.bytes))=Ge (Ge p.2.zero,p.2.size,p.2.bytes)/\p.2.zero.cells.size=p.2.size/\(p.2.plain=Ga->P.stoodInHeld p.1=Gd/\P.eqGuardType P.depth p.1=Gd/\∀fs,p.2.desc= .struct fs->fs.toList.all (λ f=>f.name != "_")=Ga)
def SA {P:Program}{t:Nat}{d:TypeDesc}{z:Value}{sz b:Nat}(h1:P.underlying t=Ge d)(h2:(P.info? t).map (λ i=>(i.zero,i.size,i.bytes))=Ge (Ge z,sz,b))(h3:z.cells.size=sz):EY P (t,⟨d,z,sz,b,Gd⟩):=⟨h1,h2,h3,λ h=>by cases h⟩
def M5 {P:Program}{t:Nat}{d:TypeDesc}{z:Value}{sz b:Nat}(h1:P.underlying t=Ge d)(h2:(P.info? t).map (λ i=>(i.zero,i.size,i.bytes))=Ge (Ge z,sz,b))(h3:z.cells.size=sz)(h4:P.stoodInHeld t=Gd)(h5:P.eqGuardType P.depth t=Gd)(h6:(match d with| .struct fs=>fs.toList.all (λ f=>f.name != "_")|_=>Ga)=Ga):EY P (t,⟨d,z,sz,b,Ga⟩):=⟨h1,h2,h3,λ _=>⟨h4,h5,λ fs e=>by subst e;exact h6⟩⟩
def A6 (P:Program):List (Nat×TI)->Prop
 |[]=>True
 |p::r=>EY P p/\A6 P r
def qd {P:Program}:∀{l:List (Nat×TI)},A6 P l->∀p∈l,EY P p
 |[],_,p,h=>by cases h
 |q::r,h,p,hp=>by
  rcases List.mem_cons.1 hp with rfl|hp
  ·exact h.1
  ·exact qd h.2 p hp
def TT.ok_ofL {P:Program}{l:List (Nat×TI)}{T:TT}(h:A6 P l)(e:T=abB l):TT.ok P T:=by
 intro t i hi;subst e;obtain⟨h1,h2,h3,h4⟩:=qd h _ (abC hi);obtain⟨j,j1,j2,j3,j4⟩:=info_parts h2;exact⟨h1,h3,⟨j,j1,j2,j3,j4⟩,h4⟩
def ap.of {P:Program}{f:FuncId}{fn:Func}(hf:P.funcs[f]? =Ge fn)(h1:fn.body.isNone=Gd)(h2:(fn.name== "runtime.NumGoroutine")=Gd):ap P f:=⟨fn,hf,h1,h2⟩
def D.sim.of_eq {d d':D}(h:d=d'):d.sim d':=h▸ .refl d
def D.sim.slw {nn:Bool}{n n' sz:Nat}{cells cells':GA}(h1:n=n')(h2:cells=cells'):(Wu nn n sz cells).sim (.sl Gd n' sz cells'):=by
 subst h1 h2;intro E w u h
 cases h with
 |sl _ _ _ _ a c us hlen hd h1 hn hs hc h0 hr=>exact .sl _ _ _ _ a c us hlen hd h1 hn hs hc (λ h=>⟨(h0 h).1,rfl⟩) hr
def kp (bs:Z4):dv (bs.map dB) 0 (bs.length*1)=bs.map dB:=by
 rw[gz,XR,Wx,<-(@Wj _ _ bs dB),XF]
def aR (bs:Z4):ab (bs.map dB)=true:=ib _ (aH bs)
def br {b:Bool}{X Y:Prop}(h1:b=Ga->X)(h2:b=Gd->Y):M0 b X Y:=g6.2 ⟨h1,h2⟩
def chk {b:Bool}{X:Prop}(h1:b=Ga)(h2:X):vz b X:=bz.2 ⟨h1,h2⟩
def SB {P:Program}{s:AS}{ds:GA}{f:FuncId}{nm ky:Nat}{K:Option D->Up->Prop}{al:Bool}(fp:Gw){q q0:GA}{hin:lM}{r:D}{bs:lM}(hcall:CallOk al P f q0 hin r bs)(h1:jv s al fp ds=Ge (Ga,q))(h2:jE s fp fp=Ge (Ga,hin))(hsim:dr q q0)
  (h3:(fC fp&&Wf bs.length (fp.length+8))=Ga) (h4:K (Ge (qR (gB fp ky) (gc s fp nm) bs r)) (gZ (gB fp ky) (gc s fp nm) 0 bs)):callP P s ds f nm ky K:=by
 refine⟨al,fp,q,hin,r,bs,h1,h2,?_,h3,h4⟩;obtain⟨e,g⟩:=hsim.get
 cases hcall with
 |fn hf hspec=>
  refine .fn hf ⟨hspec.1,λ O φ w args hO hh hi hl ha=>hspec.2 O φ w args hO hh hi (hl.trans e) λ j d u hd hu=>?_⟩;obtain⟨d0,a1,a2⟩:=g j d hd;exact a2 _ _ _ (ha j d0 u a1 hu)
 |ext hspec=>
  refine .ext ⟨hspec.1,λ O φ w args hO hh hi hl ha=>hspec.2 O φ w args hO hh hi (hl.trans e) λ j d u hd hu=>?_⟩;obtain⟨d0,a1,a2⟩:=g j d hd;exact a2 _ _ _ (ha j d0 u a1 hu)
def SC {P:Program}{T:TT}{nt kb i:Nat}{o:Oper}{s:AS}{ds:GA}{f:FuncId}{K:AS->Prop}{fn:Func}{c:Code}{rs:List ResultVar}(h1:P.funcs[f]? =Ge fn)(h2:fn.body=Ge c)(h3:fn.results=⟨rs⟩)(h4:(fn.name== "runtime.NumGoroutine")=Gd)
  (h:AWP P Gd fn.ntmps (s.nx+8*(i+1)) c {tm:=mc 0 ds,hp:=s.hp,nx:=s.nx+8*(i+1),us:=[]} λ e s'=>(e= .normal\/e= .ret)/\iO T s' rs λ l=>K {tm:=dZ s.tm o.dst (Ge (tl l)),hp:=s'.hp,nx:=s'.nx,us:=[]}):callX P T nt kb i o s ds f K:=
 ⟨.inr ⟨fn,c,rs,h1,h2,h3,h4,h⟩⟩

inductive CO where
 |b (x:Blk)
 |c (x:Blk)
 /-- an array,told as a row of closed cells -/
 |r (x:Blk)
 |l (st:LoopState) (pend:Option Code) (params:Array Tmp) (assign body:Code) (nt:Nat) (tm:List (Nat×D))
def CO.ob:CO->Ob
 | .b x=>.b x
 | .c x=>.b x
 | .r x=>.b x
 | .l st pend params assign body nt tm=>.l ⟨st,pend,params,assign,body,nt,abB tm⟩
structure Ent where
 k':Nat
 g':Nat
 k:Nat
 g:Nat
 o:CO
abbrev rz:=List Ent
structure CutS where
 tm:List (Nat×D)
 es:rz
 nx:Nat
def CutS.st (c:CutS):AS:=⟨abB c.tm,abB (c.es.map λ e=>(e.k',(e.g',e.o.ob))),c.nx,[]⟩
def γE:rz->Nat->Nat
 |[],g=>g
 |e::r,g=>bif V9 e.g' g then e.g else γE r g
def κE:rz->Nat->Nat
 |[],k=>k
 |e::r,k=>bif V9 e.k' k then e.k else κE r k

def RS (s:AS)(κ γ:Nat->Nat):List (Nat×D)->Prop
 |[]=>True
 |p::r=>s.tm.get p.1=Ge (db κ γ p.2)/\RS s κ γ r
def JL (tm0:Tr D)(κ γ:Nat->Nat):List (Nat×D)->Prop
 |[]=>True
 |p::r=>tm0.get p.1=Ge (db κ γ p.2)/\JL tm0 κ γ r
def SD (p:Nat×Blk):Nat×Blk:=(p.1,⟨p.2.cells,p.2.elem,Ga⟩)
def RT (s:AS)(κ γ:Nat->Nat)(e:Ent):Prop:=
 match e.o with
 | .b x=>s.at e.k=Ge (e.g,cb κ γ x)
 | .c x=>s.at e.k=Ge (e.g,x)
 | .r x=>(s.at e.k).map SD=Ge (e.g,x)
 | .l st pend params assign body nt tm=>jx (s.lat e.k) λ p=>(p.1,p.2.st,p.2.pend,p.2.params,p.2.assign,p.2.body,p.2.nt)=(e.g,st,pend,params,assign,body,nt)/\JL p.2.tm κ γ tm
def RU (s:AS)(κ γ:Nat->Nat):rz->Prop
 |[]=>True
 |e::r=>RT s κ γ e/\RU s κ γ r
def CutS.ok (c:CutS)(xn:Nat):Bool:=
 fC (c.es.map (·.g'))&&fC (c.es.map (·.k))&&c.es.all (λ e=>Yq e.g' c.nx&&(V9 e.g' e.g||(Wf xn e.g'&&Wf xn e.g)))&&Wf xn c.nx
def A7 (n:Nat):rz->Prop
 |[]=>True
 |e::r=>(match e.o with
  | .b x=>(x.row=Ga->ab x.cells=Ga)/\(x.row=Gd->ej Ga n x.cells=Ga)
  | .c x=>ab x.cells=Ga
  | .r x=>ab x.cells=Ga
  | .l _ _ _ _ _ _ tm=>(tm.all λ p=>my Ga n p.2)=Ga)/\A7 n r
def ic (c:CutS):Prop:=A7 c.nx c.es/\(c.tm.all λ p=>my Ga c.nx p.2)=Ga
mutual
def iS:∀(d:D) {n:Nat},d.closed=Ga->my Ga n d=Ga
 | .v _,_,_=>rfl
 | .sl _ _ _ _,_,_=>rfl
 | .agg cs,_,h=>ct cs h
 | .tup cs,_,h=>ct cs h
 | .ifc _ x,_,h=>iS x h
 | .fn _ fi ca,n,h=>by
  have h:(ab fi&&ab ca)=true:=h;rw[Wh]at h;show(ej Ga n fi&&ej Ga n ca)=Ga;rw[ct fi h.1,ct ca h.2];rfl
 | .ref ..,_,h=>by cases h
 | .ptr ..,_,h=>by cases h
 | .ep ..,_,h=>rfl
 | .yl ..,_,h=>by cases h
def ct:∀(l:GA) {n:Nat},ab l=Ga->ej Ga n l=Ga
 |[],_,_=>rfl
 |d::r,n,h=>by
  have h:(d.closed&&ab r)=true:=h;rw[Wh]at h;show(my Ga n d&&ej Ga n r)=Ga;rw[iS d h.1,ct r h.2];rfl
end
def fE {n:Nat}:∀{a b:GA},ej Ga n a=Ga->ej Ga n b=Ga->ej Ga n (a++b)=Ga
 |[],_,_,h=>h
 |d::r,b,h1,h2=>by
  have h1:(my Ga n d&&ej Ga n r)=true:=h1;rw[Wh]at h1;show(my Ga n d&&ej Ga n (r++b))=Ga;rw[h1.1,fE h1.2 h2];rfl
def cq {n:Nat}{d:D}{r:GA}(h1:my Ga n d=Ga)(h2:ej Ga n r=Ga):ej Ga n (d::r)=true:=by
 show(my Ga n d&&ej Ga n r)=Ga;rw[h1,h2];rfl
def ew {n:Nat}{p:Nat×D}{r:List (Nat×D)}(h1:my Ga n p.2=Ga)(h2:(r.all λ p=>my Ga n p.2)=Ga):((p::r).all λ p=>my Ga n p.2)=true:=by
 rw[ZZ,h1,h2];rfl

structure CutE (s:AS)(xn:Nat)(c:CutS):Prop where
 tm:RS s (κE c.es) (γE c.es) c.tm
 es:RU s (κE c.es) (γE c.es) c.es
 ok:c.ok xn=Ga
 rows:ic c
 us:s.us=[]

def xi {s:AS}{κ γ:Nat->Nat}:∀{l:List (Nat×D)},RS s κ γ l->∀p∈l,s.tm.get p.1=Ge (db κ γ p.2)
 |[],_,p,h=>by cases h
 |q::r,⟨h1,h2⟩,p,h=>by
  rcases List.mem_cons.1 h with rfl|h
  ·exact h1
  ·exact xi h2 p h
def tC {s:Tr D}{κ γ:Nat->Nat}:∀{l:List (Nat×D)},JL s κ γ l->∀p∈l,s.get p.1=Ge (db κ γ p.2)
 |[],_,p,h=>by cases h
 |q::r,⟨h1,h2⟩,p,h=>by
  rcases List.mem_cons.1 h with rfl|h
  ·exact h1
  ·exact tC h2 p h
def rf {s:AS}{κ γ:Nat->Nat}:∀{l:rz},RU s κ γ l->∀e∈l,RT s κ γ e
 |[],_,p,h=>by cases h
 |q::r,⟨h1,h2⟩,p,h=>by
  rcases List.mem_cons.1 h with rfl|h
  ·exact h1
  ·exact rf h2 p h
def qe {n:Nat}:∀{l:rz},A7 n l->∀e∈l,match e.o with
  | .b x=>(x.row=Ga->ab x.cells=Ga)/\(x.row=Gd->ej Ga n x.cells=Ga)
  | .c x=>ab x.cells=Ga
  | .r x=>ab x.cells=Ga
  | .l _ _ _ _ _ _ tm=>(tm.all λ p=>my Ga n p.2)=Ga
 |[],_,p,h=>by cases h
 |q::r,⟨h1,h2⟩,e,h=>by
  rcases List.mem_cons.1 h with rfl|h
  ·exact h1
  ·exact qe h2 e h
def nX:∀{l:rz},(l.map (·.g')).Nodup->∀e∈l,γE l e.g'=e.g
 |[],_,e,h=>by cases h
 |q::r,hn,e,h=>by
  simp only[XB,List.nodup_cons]at hn;simp only[γE];rcases List.mem_cons.1 h with rfl|h
  ·simp
  ·have:V9 q.g' e.g'=false:=by
    cases hb:V9 q.g' e.g' with
    |false=>rfl
    |true=>exact absurd (by rw[Wk hb];exact List.mem_map.2 ⟨e,h,rfl⟩) hn.1
   rw[this];exact nX hn.2 e h
def rg:∀{l:rz} {xn:Nat},(∀e∈l,e.g'=e.g\/(xn<=e.g'/\xn<=e.g))->∀g,g<xn->γE l g=g
 |[],_,_,g,_=>rfl
 |e::r,xn,h,g,hg=>by
  simp only[γE]
  cases hb:V9 e.g' g with
  |true=>
   have:=Wk hb;rcases h e WH with h1|⟨h1,_⟩
   ·rw[cond_true,<-h1,this]
   ·omega
  |false=>exact rg (λ e' he=>h e' (WG _ he)) g hg

section
variable {P:Program} {rd:Bool} {nt:Nat}
def SR.cut {cx:Cx}{E:Env}{s:AS}{a:Act}{w:World}(h:SR cx E s a w){c:CutS}(hc:CutE s cx.xn c):∃E',SR cx E' c.st a w/\StpX cx.xn E E' w w/\Mut s c.st E E' w w:=by
 obtain⟨htm,hes,hok,hrows,hus⟩:=hc;obtain⟨hrows,htmok⟩:=hrows;have htmok:=List.all_eq_true.1 htmok;simp only[CutS.ok,Wh,ZQ,YR]at hok;obtain⟨⟨⟨hg',hk⟩,hall⟩,hxn⟩:=hok;have hg':=dM hg';have hk:=dM hk;have hxn:=Wm hxn;have hfix:∀e∈c.es,e.g'=e.g\/(cx.xn<=e.g'/\cx.xn<=e.g):=λ e he=>by
  rcases(hall e he).2 with h1|h1
  ·exact .inl (Wk h1)
  ·exact .inr ⟨Wm h1.1,Wm h1.2⟩
 let E':Env:=⟨λ g=>E.φ (γE c.es g),E.own,λ g=>E.nm (γE c.es g)/\g<c.nx⟩
 have hmap:∀{d:D} {u:Value},RD E w (db (κE c.es) (γE c.es) d) u->my Ga c.nx d=Ga->RD E' w d u:=λ hr ho=>A5 (Er:=E') (λ j hj hn=>⟨⟨hn,hj⟩,rfl⟩) (λ _ b hb=>hb) hr _ rfl ho
 have hcl:∀{d:D} {u:Value},RD E.cl w d u->RD E' w d u:=λ hr=>RD.ofCl (RD.step (E:=E.cl) (E':=E'.cl) (w:=w) (w':=w) ⟨λ _ h=>h.elim,λ _ h=>h.elim,Wl _,λ b _ hb=>⟨hb,rfl⟩,λ _ _=>rfl⟩ hr)
 have hold:∀{k g o},c.st.gat k=Ge (g,o)->∃e∈c.es,e.k'=k/\e.g'=g/\e.o.ob=o:=fun{k g o} hkk=>by
  obtain⟨e,he,h1⟩:=List.mem_map.1 (abC hkk)
  cases h1;exact⟨e,he,rfl,rfl,rfl⟩
 have hgat:∀e∈c.es,∃o,s.gat e.k=Ge (e.g,o):=λ e he=>by
  have h1:=rf hes e he;unfold RT at h1
  split at h1
  ·exact⟨_,AS.at_iff.1 h1⟩
  ·exact⟨_,AS.at_iff.1 h1⟩
  ·obtain⟨p,hp,h2⟩:=Option.map_eq_some_iff.1 h1
   obtain⟨g,r⟩:=p;have:g=e.g:=congrArg Prod.fst h2;subst this;exact⟨_,AS.at_iff.1 hp⟩
  ·obtain⟨p,hp,h2,_⟩:=aQ.1 h1
   obtain⟨g,r⟩:=p;have:g=e.g:=congrArg Prod.fst h2;subst this;exact⟨_,AS.lat_iff.1 hp⟩
 have hob:∀{k g o},c.st.gat k=Ge (g,o)->OB E' w g o:=fun{k g o} hkk=>by
  obtain⟨e,he,rfl,rfl,rfl⟩:=hold hkk;have h1:=rf hes e he;have hγ:=nX hg' e he;have hlt:e.g'<c.nx:=Wm (hall e he).1;have hco:=qe hrows e he;unfold RT at h1
  cases hoo:e.o with
  |b x=>
   rw[hoo]at h1 hco;dsimp only at h1;obtain⟨c1,c2⟩:=h.hp _ _ _ h1;obtain⟨m1,m2,m3⟩:=gY (κE c.es) (γE c.es) x;refine⟨⟨by rw[hγ];exact c1,hlt⟩,?_⟩;show match E.φ (γE c.es e.g')with|none=>_|some b=>_
   rw[hγ]
   cases hp:E.φ e.g with
   |none=>
    rw[hp]at c2;exact⟨WY (by rw[<-m3,c2.1];rfl),by rw[<-m2];exact c2.2⟩
   |some b=>
    rw[hp]at c2;obtain⟨d1,d2,cur,fr,d3,d4,d5,d6,d7⟩:=c2;refine⟨d1,d2,cur,fr,by rw[<-m1];exact d3,d4,by rw[<-m3];exact d5,λ hr=>by rw[<-m3];exact d6 (by rw[m2];exact hr),λ i d hd=>?_⟩
    cases hrow:x.row with
    |true=>
     have e1:(cb (κE c.es) (γE c.es) x).cells=x.cells:=by unfold cb;rw[hrow];rfl
     obtain⟨v,v1,v2,v3⟩:=d7 i d (by rw[e1];exact hd);exact⟨v,v1,v2,hcl (v3.weak (bl (hco.1 hrow) hd))⟩
    |false=>
     have e1:(cb (κE c.es) (γE c.es) x).cells=fB (κE c.es) (γE c.es) x.cells:=by unfold cb;rw[hrow];rfl
     obtain⟨v,v1,v2,v3⟩:=d7 i (db (κE c.es) (γE c.es) d) (by rw[e1,eM,WB,hd];rfl);exact⟨v,v1,v2,hmap v3 (fD (hco.2 hrow) i d hd)⟩
  |c x=>
   rw[hoo]at h1 hco;dsimp only at h1 hco;obtain⟨c1,c2⟩:=h.hp _ _ _ h1;refine⟨⟨by rw[hγ];exact c1,hlt⟩,?_⟩;show match E.φ (γE c.es e.g')with|none=>_|some b=>_
   rw[hγ]
   cases hp:E.φ e.g with
   |none=>rw[hp]at c2;exact c2
   |some b=>
    rw[hp]at c2;obtain⟨d1,d2,cur,fr,d3,d4,d5,d6,d7⟩:=c2;refine⟨d1,d2,cur,fr,d3,d4,d5,d6,λ i d hd=>?_⟩;obtain⟨v,v1,v2,v3⟩:=d7 i d hd;exact⟨v,v1,v2,hcl (v3.weak (bl hco hd))⟩
  |r x=>
   rw[hoo]at h1 hco;dsimp only at h1 hco;obtain⟨p,hp0,h2⟩:=Option.map_eq_some_iff.1 h1;obtain⟨g,y⟩:=p;have e1:g=e.g:=congrArg Prod.fst h2;have e2:(⟨y.cells,y.elem,Ga⟩:Blk)=x:=congrArg Prod.snd h2;subst e1 e2;obtain⟨c1,c2⟩:=h.hp _ _ _ hp0;refine⟨⟨by rw[hγ];exact c1,hlt⟩,?_⟩;show match E.φ (γE c.es e.g')with|none=>_|some b=>_
   rw[hγ]
   cases hp:E.φ e.g with
   |none=>rw[hp]at c2;exact⟨c2.1,rfl⟩
   |some b=>
    rw[hp]at c2;obtain⟨d1,d2,cur,fr,d3,d4,d5,d6,d7⟩:=c2;refine⟨d1,d2,cur,fr,d3,d4,d5,λ q=>Bool.noConfusion q,λ i d hd=>?_⟩;obtain⟨v,v1,v2,v3⟩:=d7 i d hd;exact⟨v,v1,v2,hcl (v3.weak (bl hco hd))⟩
  |l st pend params assign body nt tm=>
   rw[hoo]at h1 hco;dsimp only at h1;obtain⟨p,hp,h2,h3⟩:=aQ.1 h1;obtain⟨g,r⟩:=p;simp only[Prod.mk.injEq]at h2;obtain⟨rfl,e1,e2,e3,e4,e5,e6⟩:=h2;obtain⟨c1,b,L,c2,c3,c4,c5,c6,c7,c8,c9,c10,c11,c12⟩:=h.lp _ _ _ hp;refine⟨⟨by rw[hγ];exact c1,hlt⟩,b,L,by show E.φ (γE c.es e.g')=_;rw[hγ];exact c2,c3,c4,c5,c6.trans e1,c7.trans e2,c8.trans e3,c9.trans e4,c10.trans e5,by show nt<=_;rw[<-e6];exact c11,λ t d hd=>?_⟩;have hm:=abC hd;obtain⟨u,u1,u2⟩:=c12 t _ (tC h3 _ hm);exact⟨u,u1,hmap u2 (List.all_eq_true.1 hco _ hm)⟩
 have hown:∀{x},bu c.st E'.φ x->bu s E.φ x:=fun⟨k,g,o,hkk,hx⟩=>by
  obtain⟨e,he,rfl,rfl,rfl⟩:=hold hkk;obtain⟨o,ho⟩:=hgat e he;have hx:E.φ (γE c.es e.g')=Ge _:=hx;rw[nX hg' e he]at hx;exact⟨e.k,e.g,o,ho,hx⟩
 refine⟨E',{h with
  fr:=λ t d hd=>?_
  df:=h.df.step (λ b hb _=>hb) λ b _ _=>rfl
  hp:=λ k g b hk=>hob (AS.at_iff.1 hk)
  lp:=λ k g b hk=>hob (AS.lat_iff.1 hk)
  inj:=λ k1 k2 g1 g2 o1 o2 hkk h1 h2 x hx1 hx2=>?_
  low:=λ x hx=>h.low x (hown hx)
  nm:=λ g hg=>.inl hg.2},⟨λ g hg hn=>⟨by rw[rg hfix g hg];exact hn,WX hg hxn⟩,λ g hg _=>by show E.φ (γE c.es g)=_;rw[rg hfix g hg],Wl _,λ b _ hb=>⟨hb,rfl⟩,λ _ _=>rfl⟩,⟨λ _ _ hb _=>hb,λ _ _ _=>rfl,λ _ _ hx=>hown hx⟩⟩
 ·have hm:=abC hd
  obtain⟨u,u1,u2⟩:=h.fr t _ (xi htm _ hm);exact⟨u,u1,hmap u2 (htmok _ hm)⟩
 ·obtain⟨e1,he1,rfl,rfl,rfl⟩:=hold h1
  obtain⟨e2,he2,rfl,rfl,rfl⟩:=hold h2;obtain⟨o1',ho1⟩:=hgat e1 he1;obtain⟨o2',ho2⟩:=hgat e2 he2;have hx1:E.φ (γE c.es e1.g')=Ge x:=hx1;have hx2:E.φ (γE c.es e2.g')=Ge x:=hx2;rw[nX hg' e1 he1]at hx1;rw[nX hg' e2 he2]at hx2;refine h.inj e1.k e2.k e1.g e2.g o1' o2' (λ e=>hkk ?_) ho1 ho2 x hx1 hx2;have:e1=e2:=by
   obtain⟨i,hi⟩:=Xo he1;obtain⟨j,hj⟩:=Xo he2;have q1:(c.es.map (·.k))[i]? =Ge e1.k:=by rw[WB,hi];rfl
   have q2:(c.es.map (·.k))[j]? =Ge e1.k:=by rw[WB,hj,e];rfl
   have:=jl hk q1 q2;subst this;rw[hi]at hj;cases hj;rfl
  rw[this]

def CutE.le {s:AS}{xn xn':Nat}{c:CutS}(h:CutE s xn c)(hx:xn'<=xn):CutE s xn' c:=by
 refine⟨h.tm,h.es,?_,h.rows,h.us⟩;have hok:=h.ok;simp only[CutS.ok,Wh,ZQ,YR]at hok ⊢;obtain⟨⟨h1,h2⟩,h3⟩:=hok;refine⟨⟨h1,λ e he=>?_⟩,We (Ww hx (Wm h3))⟩;obtain⟨a1,a2⟩:=h2 e he;exact⟨a1,a2.imp id fun⟨b1,b2⟩=>⟨We (Ww hx (Wm b1)),We (Ww hx (Wm b2))⟩⟩
def AWP.cutEnd {xn:Nat}{c:Code}{s:AS}{Q:AX->AS->Prop}(h:AWP P rd nt xn c s λ e s'=>∃d:CutS,CutE s' xn d/\Q e d.st):AWP P rd nt xn c s Q:=
 ⟨λ F n cx E a w Q' hF hro hn hu hs hQ=>h.run F n cx E a w Q' hF hro hn hu hs λ e s' E' a' w' ⟨d,hd,hK⟩ hu' hs' hst hmut=>by
  obtain⟨E2,q1,q2,q3⟩:=hs'.cut (hd.le hro.2);exact hQ e d.st E2 a' w' hK rfl q1 (hst.trans q2) (hmut.trans q3 hst.size)⟩
def AWP.cutStart {xn:Nat}{c:Code}{s:AS}{Q:AX->AS->Prop}{d:CutS}(hd:CutE s xn d)(h:AWP P rd nt xn c d.st Q):AWP P rd nt xn c s Q:=
 ⟨λ F n cx E a w Q' hF hro hn hu hs hQ=>by
  obtain⟨E2,q1,q2,q3⟩:=hs.cut (hd.le hro.2);exact h.run F n cx E2 a w Q' hF hro hn rfl q1 λ e s' E' a' w' hK hu' hs' hst hmut=>hQ e s' E' a' w' hK hu' hs' (q2.trans hst) (q3.trans hmut q2.size)⟩
def nY (F:Fence)(n:Nat)(P:Program)(c:Code)(Q:Exit->Act->World->Prop)(a:Act)(w:World):Prop:=
 ∀(b:Frame) (k:List Item) (cs:List Frame),b.roundOf=F.round->F.fn b.fn->F.room (cs.length+1+n)->
  ∃e a' w',Q e a' w'/\ArrivesIn (Machine.fenced P F) P (lone (b.atR a (.code c:: .inLoop c::k)) cs w) b k cs e a' w'
def me {F:Fence}{n:Nat}{c:Code}{Q:Exit->Act->World->Prop}{a:Act}{w:World}(h:c.wpIn F n P (Exit.then (nY F n P c Q) Q) a w):nY F n P c Q a w:=by
 intro b k cs hro hb hr;obtain⟨e,a₁,w₁,hq,harr⟩:=h b (.inLoop c::k) cs hro hb hr
 cases e with
 |normal=>
  obtain⟨e₂,a₂,w₂,hq₂,harr₂⟩:=hq b k cs hro hb hr;exact⟨e₂,a₂,w₂,hq₂,.of_steps (StepsIn.trans harr (.one (fenced_calm hb hr rfl) stepR_inLoop)) harr₂⟩
 |exit id=>exact⟨_,a₁,w₁,hq,.pass (x:=.inLoop c) rfl (λ _ _=>.inl (by simp)) harr⟩
 |goto l=>exact⟨_,a₁,w₁,hq,.pass (x:=.inLoop c) rfl (λ _ _=>.inl (by simp)) harr⟩
 |ret=>exact⟨_,a₁,w₁,hq,.pass (x:=.inLoop c) rfl (λ _ _=>.inl (by simp)) harr⟩
 |panic ch=>exact⟨_,a₁,w₁,hq,.pass (x:=.inLoop c) rfl (λ _ _=>.inl (by simp)) harr⟩
 |outgrown=>exact⟨_,a₁,w₁,hq,.pass (x:=.inLoop c) rfl (λ _ _=>.inl (by simp)) harr⟩
def gf {F:Fence}{n:Nat}{c:Code}{Q:Exit->Act->World->Prop}:∀(m:Nat) {a:Act} {w:World},Code.roundsIn F n P c Q m a w->nY F n P c Q a w
 |0,_,_,h=>h.elim
 |m+1,_,_,h=>me (wpIn_mono h λ e a' w' hq=>by
  cases e with
  |normal=>exact gf m hq
  |_=>exact hq)
def zM {F:Fence}{n:Nat}{c:Code}{Q:Exit->Act->World->Prop}{a:Act}{w:World}(h:nY F n P c Q a w):(Code.loop c).wpIn F n P Q a w:=by
 intro b k cs hro hb hr;obtain⟨e,a',w',hq,harr⟩:=h b k cs hro hb hr;exact⟨e,a',w',hq,.of_steps (.one (fenced_calm hb hr rfl) stepR_loop) harr⟩
structure AWPl (P:Program)(rd:Bool)(nt xn:Nat)(c:Code)(s:AS)(K:AX->AS->Prop):Prop where
 run:∀(F:Fence) (n:Nat) (cx:Cx) (E:Env) (a:Act) (w:World) (Q:Exit->Act->World->Prop),FOK F->((rd=Gd->F.round=z9)/\cx.xn<=xn)->cx.nt=nt->s.us=[]->SR cx E s a w->
  (∀e s' E' a' w',K e s'->s'.us=[]->SR cx E' s' a' w'->StpX cx.xn E E' w w'->Mut s s' E E' w w'->Q e.ex a' w')->nY F n P c Q a w
def AWPl.awp {xn:Nat}{c:Code}{s:AS}{K:AX->AS->Prop}(h:AWPl P rd nt xn c s K):AWP P rd nt xn (.loop c) s K:=
 ⟨λ F n cx E a w Q hF hro hn hu hs hQ=>zM (h.run F n cx E a w Q hF hro hn hu hs hQ)⟩
def AWPl.mono {xn:Nat}{c:Code}{s:AS}{K K':AX->AS->Prop}(h:AWPl P rd nt xn c s K)(hk:∀e s',K e s'->K' e s'):AWPl P rd nt xn c s K':=
 ⟨λ F n cx E a w Q hF hr hn hu hs hQ=>h.run F n cx E a w Q hF hr hn hu hs λ e s' E' a' w' hK=>hQ e s' E' a' w' (hk e s' hK)⟩
def AWPl.cutStart {xn:Nat}{c:Code}{s:AS}{Q:AX->AS->Prop}{d:CutS}(hd:CutE s xn d)(h:AWPl P rd nt xn c d.st Q):AWPl P rd nt xn c s Q:=
 ⟨λ F n cx E a w Q' hF hro hn hu hs hQ=>by
  obtain⟨E2,q1,q2,q3⟩:=hs.cut (hd.le hro.2);exact h.run F n cx E2 a w Q' hF hro hn rfl q1 λ e s' E' a' w' hK hu' hs' hst hmut=>hQ e s' E' a' w' hK hu' hs' (q2.trans hst) (q3.trans hmut q2.size)⟩
def AWPl.peel {xn:Nat} {c:Code} {s:AS} {K:AX->AS->Prop} (h:AWP P rd nt xn c s λ e s'=>match e with
  | .normal=>AWPl P rd nt xn c s' K
  |e=>K e s'):AWPl P rd nt xn c s K:=by
 refine⟨λ F n cx E a w Q hF hro hn hu hs hQ=>me ?_⟩;refine h.run F n cx E a w _ hF hro hn hu hs λ e s' E' a' w' hK hu' hs' hst' hmut'=>?_
 cases e with
 |normal=>exact hK.run F n cx E' a' w' Q hF hro hn hu' hs' λ e s2 E2 a2 w2 hK2 hu2 gu hst2 hmut2=>hQ e s2 E2 a2 w2 hK2 hu2 gu (hst'.trans hst2) (hmut'.trans hmut2 hst'.size)
 |exit id=>exact hQ (.exit id) s' E' a' w' hK hu' hs' hst' hmut'
 |ret=>exact hQ .ret s' E' a' w' hK hu' hs' hst' hmut'
def AWPl.loopI {xn:Nat} {c:Code} {K:AX->AS->Prop} {ι:Type} (S:ι->AS) (hS:∀i,(S i).us=[]) (μ:ι->Nat) (body:∀i,AWP P rd nt xn c (S i) λ e s'=>match e with
   | .normal=>∃i',s'=S i'/\μ i'<μ i
   |e=>K e s') (i0:ι):AWPl P rd nt xn c (S i0) K:=by
 refine⟨λ F n cx E0 a w0 Q hF hro hn hu hs hQ=>?_⟩;have key:∀m i E a w,μ i<m->SR cx E (S i) a w->StpX cx.xn E0 E w0 w->Mut (S i0) (S i) E0 E w0 w->Code.roundsIn F n P c Q m a w:=by
  intro m
  induction m with
  |zero=>intro i E a w h;omega
  |succ m ih=>
   intro i E a w hm hs hst hmut;rw[roundsIn_succ];refine(body i).run F n cx E a w _ hF hro hn (hS i) hs λ e s' E' a' w' hK hu' hs' hst' hmut'=>?_
   have hst2:=hst.trans hst';have hmut2:=hmut.trans hmut' hst.size
   cases e with
   |normal=>
    obtain⟨i',rfl,hlt⟩:=hK;exact ih i' E' a' w' (by omega) hs' hst2 hmut2
   |exit id=>exact hQ (.exit id) s' E' a' w' hK hu' hs' hst2 hmut2
   |ret=>exact hQ .ret s' E' a' w' hK hu' hs' hst2 hmut2
 exact gf (μ i0+1) (key _ i0 E0 a w0 (by omega) hs ((Stp.refl E0 w0).x _) (Mut.refl _ _ _))
structure AWPr (P:Program)(rd:Bool)(nt xn:Nat)(c:Code)(m:Nat)(s:AS)(K:AX->AS->Prop):Prop where
 run:∀(F:Fence) (n:Nat) (cx:Cx) (E:Env) (a:Act) (w:World) (Q:Exit->Act->World->Prop),FOK F->((rd=Gd->F.round=z9)/\cx.xn<=xn)->cx.nt=nt->s.us=[]->SR cx E s a w->
  (∀e s' E' a' w',K e s'->s'.us=[]->SR cx E' s' a' w'->StpX cx.xn E E' w w'->Mut s s' E E' w w'->Q e.ex a' w')->Code.roundsIn F n P c Q m a w
def AWPr.step {xn m:Nat} {c:Code} {s:AS} {K:AX->AS->Prop} (h:AWP P rd nt xn c s λ e s'=>match e with
  | .normal=>AWPr P rd nt xn c m s' K
  |e=>K e s'):AWPr P rd nt xn c (m+1) s K:=by
 refine⟨λ F n cx E a w Q hF hro hn hu hs hQ=>?_⟩;rw[roundsIn_succ];refine h.run F n cx E a w _ hF hro hn hu hs λ e s' E' a' w' hK hu' hs' hst' hmut'=>?_
 cases e with
 |normal=>exact hK.run F n cx E' a' w' Q hF hro hn hu' hs' λ e s2 E2 a2 w2 hK2 hu2 gu hst2 hmut2=>hQ e s2 E2 a2 w2 hK2 hu2 gu (hst'.trans hst2) (hmut'.trans hmut2 hst'.size)
 |exit id=>exact hQ (.exit id) s' E' a' w' hK hu' hs' hst' hmut'
 |ret=>exact hQ .ret s' E' a' w' hK hu' hs' hst' hmut'
def AWPl.rounds {xn m:Nat}{c:Code}{s:AS}{K:AX->AS->Prop}(h:AWPr P rd nt xn c m s K):AWPl P rd nt xn c s K:=
 ⟨λ F n cx E a w Q hF hro hn hu hs hQ=>gf m (h.run F n cx E a w Q hF hro hn hu hs hQ)⟩
end

def jF:D:=.v (.slice z9 0 0)
def RD.nil_eq {E:Env}{w:World}{u:Value}(h:RD E w jF u):u= .slice z9 0 0:=by
 cases h;rfl
section
variable {P:Program} {rd:Bool} {nt:Nat}

def SR.nilN {cx:Cx}{E:Env}{s:AS}{a:Act}{w:World}(h:SR cx E s a w)(hu:s.us=[])(ky:Nat)(elem:TypeId):
  let s':AS:={s with hp:=s.hp.set ky (Ge (s.nx,.b ⟨[],elem,Ga⟩)),nx:=s.nx+8}
  SR cx (E.add s' s.nx z9) s' a w/\Stp E (E.add s' s.nx z9) w w/\(E.add s' s.nx z9).nm s.nx/\(E.add s' s.nx z9).φ s.nx=z9/\Mut s s' E (E.add s' s.nx z9) w w:=by
 intro s';have hfr:¬E.nm s.nx:=λ hn=>by
  rcases h.nm _ hn with h1|⟨j,hj,h1,h2⟩
  ·omega
  ·rw[hu]at hj;cases hj
 have hat:∀{k' g' o'},s'.gat k'=Ge (g',o')->(k'=ky/\g'=s.nx/\o'= .b ⟨[],elem,Ga⟩)\/(k'≠ky/\s.gat k'=Ge (g',o')):=λ hk=>by
  rcases XH hk with⟨e,hv⟩|⟨e,hk⟩
  ·cases hv;exact .inl ⟨e,rfl,rfl⟩
  ·exact .inr ⟨e,hk⟩
 have hne:∀{k g' o'},s.gat k=Ge (g',o')->g'≠s.nx:=λ hk e=>by subst e;exact hfr (h.ob hk).nm
 have hφg:(E.add s' s.nx z9).φ s.nx=none:=bX _ _ _;have hown:∀{x},bu s' (AG E.φ s.nx z9) x->bu s E.φ x:=fun{x} ⟨k,g',o',hk,hx⟩=>by
  rcases hat hk with⟨_,rfl,_⟩|⟨_,hk⟩
  ·rw[bX]at hx;cases hx
  ·rw[bm (hne hk)]at hx;exact⟨k,g',o',hk,hx⟩
 have hs:Stp E (E.add s' s.nx z9) w w:=by
  refine⟨λ x hx=>.inl hx,λ x hx=>?_,Wl _,λ b hb ho=>⟨?_,rfl⟩,λ b hb=>rfl⟩
  ·exact bm (λ e=>by subst e;exact hfr hx)
  ·rintro(ho'|ho')
   ·exact ho ho'
   ·exact ho (h.own_of (hown ho'))
 have hold:∀{k g' o'},s'.gat k=Ge (g',o')->OB (E.add s' s.nx z9) w g' o':=fun{k g' o'} hk=>by
  rcases hat hk with⟨rfl,rfl,rfl⟩|⟨_,hk0⟩
  ·refine⟨.inr rfl,?_⟩
   rw[hφg];exact⟨rfl,rfl⟩
  ·exact(h.ob hk0).step hs λ b hb=>⟨.inr ⟨k,g',o',hk,(bm (hne hk0)).trans hb⟩,rfl⟩
 have hmut:Mut s s' E (E.add s' s.nx z9) w w:=⟨λ b _ hb _=>.inl hb,λ b hb _=>rfl,λ x hlt' hx=>hown hx⟩
 refine⟨h.turn _ _ rfl hs (λ k g' b hk=>hold (AS.at_iff.1 hk)) (λ k g' r hk=>hold (AS.lat_iff.1 hk)) ?_ (λ x hx=>h.low x (hown hx)) (Fr.refl _ _) ?_ hmut.heap,hs,.inr rfl,hφg,hmut⟩
 ·intro k k' g1 g2 o1 o2 hkk h1 h2 x hx1 hx2
  rcases hat h1 with⟨_,rfl,_⟩|⟨_,a1⟩
  ·rw[bX]at hx1;cases hx1
  ·rcases hat h2 with⟨_,rfl,_⟩|⟨_,a2⟩
   ·rw[bX]at hx2;cases hx2
   ·rw[bm (hne a1)]at hx1
    rw[bm (hne a2)]at hx2;exact h.inj k k' g1 g2 o1 o2 hkk a1 a2 x hx1 hx2
 ·rintro n (hn|rfl)
  ·rcases h.nm n hn with h1|⟨j,hj,h1⟩
   ·exact .inl (WX h1 (Nat.le_add_right _ _))
   ·rw[hu]at hj;cases hj
  ·exact .inl (Nat.lt_add_of_pos_right (by omega))

def SR.slotSim {cx:Cx}{E:Env}{s:AS}{a:Act}{w:World}(h:SR cx E s a w){t:Nat}{d d':D}(ht:s.tm.get t=Ge d)(hd:∀u,RD E w d u->RD E w d' u):SR cx E {s with tm:=s.tm.set t (Ge d')} a w:=by
 refine{h with fr:=λ t' x hx=>?_};rcases XH hx with⟨rfl,hv⟩|⟨_,hx⟩
 ·cases hv
  obtain⟨u,hu,hr⟩:=h.fr _ _ ht;exact⟨u,hu,hd u hr⟩
 ·exact h.fr t' x hx
def SR.cellSim {cx:Cx}{E:Env}{s:AS}{a:Act}{w:World}(h:SR cx E s a w){k g j:Nat}{b:Blk}{d d':D}(hk:s.at k=Ge (g,b))(hrow:b.row=Gd)(hj:b.cells[j]? =Ge d)(hd:∀u,RD E w d u->RD E w d' u):
  SR cx E {s with hp:=s.hp.set k (Ge (g,.b ⟨b.cells.set j d',b.elem,b.row⟩))} a w/\Mut s {s with hp:=s.hp.set k (Ge (g,.b ⟨b.cells.set j d',b.elem,b.row⟩))} E E w w:=by
 have hat:∀{k' g' o'},AS.gat {s with hp:=s.hp.set k (Ge (g,.b ⟨b.cells.set j d',b.elem,b.row⟩))} k'=Ge (g',o')->(k'=k/\g'=g/\o'= .b ⟨b.cells.set j d',b.elem,b.row⟩)\/(k'≠k/\s.gat k'=Ge (g',o')):=λ hk=>by
  rcases XH hk with⟨e,hv⟩|⟨e,hk⟩
  ·cases hv;exact .inl ⟨e,rfl,rfl⟩
  ·exact .inr ⟨e,hk⟩
 have hold:∀{k' g' o'},AS.gat {s with hp:=s.hp.set k (Ge (g,.b ⟨b.cells.set j d',b.elem,b.row⟩))} k'=Ge (g',o')->∃o'',s.gat k'=Ge (g',o''):=λ hh=>by
  rcases hat hh with⟨rfl,rfl,rfl⟩|⟨_,hh⟩
  ·exact⟨_,AS.at_iff.1 hk⟩
  ·exact⟨_,hh⟩
 refine⟨{h with
  hp:=λ k' g' b' hk'=>?_
  lp:=λ k' g' r hk'=>?_
  inj:=λ k1 k2 g1 g2 o1 o2 hkk h1 h2=>?_
  low:=λ x ⟨k',g',o',hk',hx⟩=>?_},⟨λ _ _ h _=>h,λ _ _ _=>rfl,λ x _ ⟨k',g',o',hk',hx⟩=>?_⟩⟩
 ·rcases hat (AS.at_iff.1 hk')with⟨rfl,rfl,e⟩|⟨_,hk0⟩
  ·cases e
   obtain⟨h1,h2⟩:=h.hp _ _ _ hk;refine⟨h1,?_⟩
   cases hp:E.φ g' with
   |none=>rw[hp]at h2;rw[hrow]at h2;cases h2.2
   |some x=>
    rw[hp]at h2;obtain⟨a1,a2,cur,fr,a3,a4,a5,a6,a7⟩:=h2;refine⟨a1,a2,cur,fr,a3,a4,by simpa using a5,λ hr=>by simpa using a6 hr,λ i e he=>?_⟩
    by_cases hij:i=j
    ·subst hij
     have hlt:i<b.cells.length:=(List.getElem?_eq_some_iff.1 hj).1;have:(b.cells.set i d')[i]? =Ge d':=by simp[hlt]
     rw[this]at he;cases he;obtain⟨u,u1,u2,u3⟩:=a7 i d hj;exact⟨u,u1,u2,hd u u3⟩
    ·exact a7 i e (by rw[<-he];simp[XA,Ne.symm hij])
  ·exact h.hp _ _ _ (AS.at_iff.2 hk0)
 ·rcases hat (AS.lat_iff.1 hk')with⟨rfl,rfl,e⟩|⟨_,hk0⟩
  ·cases e
  ·exact h.lp _ _ _ (AS.lat_iff.2 hk0)
 ·obtain⟨o3,h3⟩:=hold h1
  obtain⟨o4,h4⟩:=hold h2;exact h.inj k1 k2 g1 g2 o3 o4 hkk h3 h4
 ·obtain⟨o3,h3⟩:=hold hk'
  exact h.low x ⟨_,_,_,h3,hx⟩
 ·obtain⟨o3,h3⟩:=hold hk'
  exact⟨_,_,_,h3,hx⟩

def SR.obSim {cx:Cx}{E:Env}{s:AS}{a:Act}{w:World}(h:SR cx E s a w){k g:Nat}{o o':Ob}(hk:s.gat k=Ge (g,o))(ho:OB E w g o'):
  SR cx E {s with hp:=s.hp.set k (Ge (g,o'))} a w/\Mut s {s with hp:=s.hp.set k (Ge (g,o'))} E E w w:=by
 have hat:∀{k' g' o''},AS.gat {s with hp:=s.hp.set k (Ge (g,o'))} k'=Ge (g',o'')->(k'=k/\g'=g/\o''=o')\/(k'≠k/\s.gat k'=Ge (g',o'')):=λ hk=>by
  rcases XH hk with⟨e,hv⟩|⟨e,hk⟩
  ·cases hv;exact .inl ⟨e,rfl,rfl⟩
  ·exact .inr ⟨e,hk⟩
 have hold:∀{k' g' o''},AS.gat {s with hp:=s.hp.set k (Ge (g,o'))} k'=Ge (g',o'')->∃o3,s.gat k'=Ge (g',o3):=λ hh=>by
  rcases hat hh with⟨rfl,rfl,rfl⟩|⟨_,hh⟩
  ·exact⟨_,hk⟩
  ·exact⟨_,hh⟩
 have hob:∀{k' g' o''},AS.gat {s with hp:=s.hp.set k (Ge (g,o'))} k'=Ge (g',o'')->OB E w g' o'':=λ hh=>by
  rcases hat hh with⟨rfl,rfl,rfl⟩|⟨_,hh⟩
  ·exact ho
  ·exact h.ob hh
 refine⟨{h with
  hp:=λ k' g' b' hk'=>hob (AS.at_iff.1 hk')
  lp:=λ k' g' r hk'=>hob (AS.lat_iff.1 hk')
  inj:=λ k1 k2 g1 g2 o1 o2 hkk h1 h2=>?_
  low:=λ x ⟨k',g',o',hk',hx⟩=>?_},⟨λ _ _ h _=>h,λ _ _ _=>rfl,λ x _ ⟨k',g',o',hk',hx⟩=>?_⟩⟩
 ·obtain⟨o3,h3⟩:=hold h1
  obtain⟨o4,h4⟩:=hold h2;exact h.inj k1 k2 g1 g2 o3 o4 hkk h3 h4
 ·obtain⟨o3,h3⟩:=hold hk'
  exact h.low x ⟨_,_,_,h3,hx⟩
 ·obtain⟨o3,h3⟩:=hold hk'
  exact⟨_,_,_,h3,hx⟩
def mz (xn:Nat)(s s':AS):Prop:=∀(cx:Cx) (E:Env) (a:Act) (w:World),cx.xn<=xn->SR cx E s a w->s.us=[]->∃E',SR cx E' s' a w/\Stp E E' w w/\Mut s s' E E' w w/\s'.us=[]
def mz.refl {xn:Nat}(s:AS):mz xn s s:=λ _ E _ w _ h hu=>⟨E,h,Stp.refl E w,Mut.refl s E w,hu⟩
def mz.trans {xn:Nat}{a b c:AS}(h:mz xn a b)(k:mz xn b c):mz xn a c:=λ cx E x w hxn hs hu=>by
 obtain⟨E1,q1,q2,q3,q4⟩:=h cx E x w hxn hs hu;obtain⟨E2,r1,r2,r3,r4⟩:=k cx E1 x w hxn q1 q4;exact⟨E2,r1,q2.trans r2,q3.trans r3 (Wl _),r4⟩
def AWPl.ret {xn:Nat}{c:Code}{s s':AS}{K:AX->AS->Prop}(hr:mz xn s s')(h:AWPl P rd nt xn c s' K):AWPl P rd nt xn c s K:=
 ⟨λ F n cx E a w Q hF hro hn hu hs hQ=>by
  obtain⟨E',q1,q2,q3,q4⟩:=hr cx E a w hro.2 hs hu;exact h.run F n cx E' a w Q hF hro hn q4 q1 λ e s3 E3 a3 w3 hK hu3 sR hst3 hmut3=>hQ e s3 E3 a3 w3 hK hu3 sR ((q2.x _).trans hst3) (q3.trans hmut3 (Wl _))⟩
def AWP.cutEndR {xn:Nat}{c:Code}{s:AS}{Q:AX->AS->Prop}(h:AWP P rd nt xn c s λ e s'=>∃(s2:AS) (d:CutS),mz xn s' s2/\CutE s2 xn d/\Q e d.st):AWP P rd nt xn c s Q:=
 ⟨λ F n cx E a w Q' hF hro hn hu hs hQ=>h.run F n cx E a w Q' hF hro hn hu hs λ e s' E' a' w' ⟨s2,d,hr,hd,hK⟩ hu' hs' hst hmut=>by
  obtain⟨E1,r1,r2,r3,r4⟩:=hr cx E' a' w' hro.2 hs' hu';obtain⟨E2,q1,q2,q3⟩:=r1.cut (hd.le hro.2);exact hQ e d.st E2 a' w' hK rfl q1 ((hst.trans (r2.x _)).trans q2) ((hmut.trans r3 hst.size).trans q3 hst.size)⟩
def nilS (s:AS)(t k sz:Nat)(elem:TypeId):AS:={tm:=s.tm.set t (Ge (.ref k s.nx 0 0 sz)),hp:=s.hp.set k (Ge (s.nx,.b ⟨[],elem,Ga⟩)),nx:=s.nx+8,us:=s.us}
def mz.nilS {xn:Nat}{s:AS}{t k sz:Nat}{elem:TypeId}(ht:s.tm.get t=Ge jF):mz xn s (nilS s t k sz elem):=λ cx E a w _ h hu=>by
 obtain⟨q1,q2,q3,q4,q5⟩:=h.nilN hu k elem;refine⟨_,q1.slotSim (t:=t) (d:=jF) (d':= .ref k s.nx 0 0 sz) ht λ u hr=>?_,q2,⟨q5.own,q5.heap,q5.old⟩,hu⟩;rw[hr.nil_eq];exact .refn k s.nx sz q3 q4
def recS (s:AS)(k g:Nat)(r:LRec)(t:Nat)(d:D):AS:={s with hp:=s.hp.set k (Ge (g,.l {r with tm:=r.tm.set t (Ge d)}))}
def mz.recS {xn:Nat}{s:AS}{k g t:Nat}{r:LRec}{d:D}(hk:s.lat k=Ge (g,r))(ht:r.tm.get t=Ge d):mz xn s (recS s k g r t d):=λ cx E a w _ h hu=>by
 obtain⟨c1,b,L,c2,c3,c4,c5,c6,c7,c8,c9,c10,c11,c12⟩:=h.lp _ _ _ hk;obtain⟨r1,r2⟩:=h.obSim (o':= .l {r with tm:=r.tm.set t (Ge d)}) (AS.lat_iff.1 hk) ⟨c1,b,L,c2,c3,c4,c5,c6,c7,c8,c9,c10,c11,λ t' x hx=>by
  rcases XH hx with⟨rfl,hv⟩|⟨_,hx⟩
  ·cases hv;exact c12 _ _ ht
  ·exact c12 t' x hx⟩
 exact⟨E,r1,Stp.refl E w,r2,hu⟩
def nilC (s:AS)(k0 g0:Nat)(b:Blk)(j k sz:Nat)(elem:TypeId):AS:={tm:=s.tm,hp:=(s.hp.set k (Ge (s.nx,.b ⟨[],elem,Ga⟩))).set k0 (Ge (g0,.b ⟨b.cells.set j (.ref k s.nx 0 0 sz),b.elem,b.row⟩)),nx:=s.nx+8,us:=s.us}
def mz.nilC {xn:Nat}{s:AS}{k0 g0 j k sz:Nat}{b:Blk}{elem:TypeId}(hk:s.at k0=Ge (g0,b))(hne:k0≠k)(hok:aaT k=Ga)(hrow:b.row=Gd)(hj:b.cells[j]? =Ge jF):mz xn s (nilC s k0 g0 b j k sz elem):=λ cx E a w _ h hu=>by
 obtain⟨q1,q2,q3,q4,q5⟩:=h.nilN hu k elem;have hk':AS.at {s with hp:=s.hp.set k (Ge (s.nx,.b ⟨[],elem,Ga⟩)),nx:=s.nx+8} k0=Ge (g0,b):=by
  refine AS.at_iff.2 ?_;show(s.hp.set k _).get k0=_;rw[Zf _ _ _ hok,ZE hne];exact AS.at_iff.1 hk
 obtain⟨r1,r2⟩:=q1.cellSim (d':= .ref k s.nx 0 0 sz) hk' hrow hj λ u hr=>by rw[hr.nil_eq];exact .refn k s.nx sz q3 q4
 exact⟨_,r1,q2,q5.trans r2 (Wl _),hu⟩
def AA (g:Nat)(cells:GA):D->D
 | .ref k g' off n sz=>bif V9 g g'&&Yq 0 sz&&Wf (off+n*sz) cells.length then .sl Gd n sz ((cells.drop off).take (n*sz))else .ref k g' off n sz
 |d=>d
def zO (s:AS)(k g:Nat)(b:Blk)(k0 g0:Nat)(b0:Blk):AS:={tm:=s.tm,hp:=(s.hp.set k z9).set k0 (Ge (g0,.b ⟨b0.cells.map (AA g b.cells),b0.elem,b0.row⟩)),nx:=s.nx,us:=s.us}
def JM {E:Env}{w:World}{g x:Nat}{cells:GA}{cur:Array Value}{t:TypeId}{fr:Nat×Nat}(hφ:E.φ g=Ge x)(hlt:x<w.heap.size)(hw:w.heap[x]? =Ge (.cells cur t fr))(hsz:cells.length<=cur.size)
  (hc:∀(i:Nat) d,cells[i]? =Ge d->∃u,cur[i]? =Ge u/\u.oneCell'=Ga/\RD E w d u) (hcl:ab cells=Ga) {E':Env} (hs:Stp E E' w w) (hx:¬E'.own x) {d:D} {u:Value} (h:RD E w d u):RD E' w (AA g cells d) u:=by
 unfold AA
 split
 case h_2=>exact h.step hs
 case h_1 k g' off n sz=>
  cases hb:(V9 g g'&&Yq 0 sz&&Wf (off+n*sz) cells.length)with
  |false=>exact h.step hs
  |true=>
   rw[Wh,Wh]at hb;have hbl:=Wm hb.2;have hb:=hb.1;have e:g=g':=Wk hb.1;subst e;have hs0:0<sz:=Wm hb.2;rw[cond_true]
   cases h with
   |refn _ _ _ hg hb'=>rw[hφ]at hb';cases hb'
   |ref _ _ _ _ _ c b off' t' m hg hb' hcc ho hsh hm=>
    rw[hφ]at hb';cases hb';rw[aO hw]at hsh;cases hsh;have hnc:n*sz<=c*sz:=Nat.mul_le_mul_right _ hcc.1;have hoff:off'=off\/n=0:=ho.elim .inl λ q=>.inr q.1
    have hul:((cur.toList.drop off').take (n*sz)).length=n*sz:=by
     rw[Wi,Wy,Array.length_toList];omega
    have hcl':((cells.drop off).take (n*sz)).length=n*sz:=by
     rw[Wi,Wy];rcases hoff with q|q
     ·subst q;omega
     ·subst q;omega
    have hget:∀(i:Nat) u,((cur.toList.drop off').take (n*sz))[i]? =Ge u->i<n*sz/\cur[off'+i]? =Ge u:=λ i u hu=>by
     rw[Xa]at hu
     split at hu
     ·next q=>exact⟨q,by rw[Xr]at hu;simpa using hu⟩
     ·cases hu
    refine .sl Gd n sz _ (Ge ⟨x,off',z9⟩) c ((cur.toList.drop off').take (n*sz)) (hul.trans hcl'.symm) (λ i d u h1 h2=>?_) (λ u hu=>?_) hcl' hs0 hcc (λ q=>by cases q) ?_
    ·obtain⟨h3,h2⟩:=hget i u h2
     rw[Xa,ZF h3,Xr]at h1;rcases hoff with q|q
     ·subst q
      obtain⟨u',q1,_,q3⟩:=hc _ d h1;rw[h2]at q1;cases q1;exact(q3.weak (bl hcl h1)).step hs.cl
     ·subst q;omega
    ·obtain⟨i,hi⟩:=Xo hu
     obtain⟨q0,q1⟩:=hget i u hi;have hj:off'+i<cells.length:=by
      rcases hoff with q|q
      ·subst q;omega
      ·subst q;omega
     obtain⟨u',y1,y2,_⟩:=hc _ _ (Wa hj);rw[q1]at y1;cases y1;exact y2
    ·exact .inr ⟨x,off',rfl,hlt,hx,λ i u hu=>by rw[cell_of_row w x (off'+i) cur t fr hw];exact(hget i u hu).2⟩
def EZ {E:Env}{w:World}{g:Nat}(hφ:E.φ g=z9){E':Env}(hs:Stp E E' w w){d:D}{u:Value}(h:RD E w d u):RD E' w (AA g [] d) u:=by
 unfold AA
 split
 case h_2=>exact h.step hs
 case h_1 k g' off n sz=>
  cases hb:(V9 g g'&&Yq 0 sz&&Wf (off+n*sz) ([]:GA).length)with
  |false=>exact h.step hs
  |true=>
   rw[Wh,Wh]at hb;have e:g=g':=Wk hb.1.1;subst e;rw[cond_true]
   cases h with
   |refn _ _ _ hg hb'=>
    exact .sl Gd 0 sz _ z9 0 [] (by simp) (λ i d u h=>by simp at h) (λ u h=>by cases h) (by simp) (Wm hb.1.2) ⟨Wl _,W5 _⟩ (λ _=>⟨rfl,rfl⟩) (.inl rfl)
   |ref _ _ _ _ _ c b off' t' m hg hb' hcc ho hsh hm=>rw[hφ]at hb';cases hb'
def mz.frz {s:AS}{k g k0 g0:Nat}{b b0:Blk}(hk:s.at k=Ge (g,b))(h0:s.at k0=Ge (g0,b0))(hne:k0≠k)(hc:ab b.cells=Ga):mz 0 s (zO s k g b k0 g0 b0):=λ cx E a w hxn h hu=>by
 have hk':=AS.at_iff.1 hk;have h0':=AS.at_iff.1 h0;obtain⟨hnm,hB⟩:=h.hp _ _ _ hk;have hdf:∀y,E.φ g=Ge y->w.heap[y]? =Ge (.deferred (Ge []))->False:=λ y hy hd=>by
  rw[hy]at hB;obtain⟨_,_,cur,fr,hw,_⟩:=hB;rw[hd]at hw;cases hw
 have hs:Stp E ⟨E.φ,λ y=>E.own y/\E.φ g≠Ge y,E.nm⟩ w w:=⟨λ _ h=>h,λ _ _=>rfl,Wl _,λ _ _ ho=>⟨λ q=>ho q.1,rfl⟩,λ _ _=>rfl⟩
 have hat:∀{k' g' o'},(zO s k g b k0 g0 b0).gat k'=Ge (g',o')->(k'=k0/\g'=g0/\o'= .b ⟨b0.cells.map (AA g b.cells),b0.elem,b0.row⟩)\/(k'≠k/\s.gat k'=Ge (g',o')):=λ hh=>by
  rcases XH hh with⟨e,hv⟩|⟨_,hh⟩
  ·cases hv;exact .inl ⟨e,rfl,rfl⟩
  ·rcases XH hh with⟨_,hv⟩|⟨e,hh⟩
   ·cases hv
   ·exact .inr ⟨e,hh⟩
 have hold:∀{k' g' o'},(zO s k g b k0 g0 b0).gat k'=Ge (g',o')->k'≠k/\∃o'',s.gat k'=Ge (g',o''):=λ hh=>by
  rcases hat hh with⟨rfl,rfl,rfl⟩|⟨e,hh⟩
  ·exact⟨hne,_,h0'⟩
  ·exact⟨e,_,hh⟩
 have hfz:∀{d u},RD E w d u->RD ⟨E.φ,λ y=>E.own y/\E.φ g≠Ge y,E.nm⟩ w (AA g b.cells d) u:=fun{d u} hr=>by
  cases hφ:E.φ g with
  |none=>
   rw[hφ]at hB;rw[hB.1];have:=EZ hφ hs hr;rw[hφ]at this;exact this
  |some x=>
   rw[hφ]at hB;obtain⟨hown,hlt,cur,fr,hw,hfr,hle,hsz,hcell⟩:=hB;have:=JM hφ hlt hw hle hcell hc hs (λ q=>q.2 hφ) hr;rw[hφ]at this;exact this
 have hno:∀{k' g' o'},k'≠k->s.gat k'=Ge (g',o')->∀y,E.φ g'=Ge y->E.φ g≠Ge y:=λ e hh y hy q=>h.inj _ _ _ _ _ _ e hh hk' y hy q
 have hob:∀{k' g' o'},(zO s k g b k0 g0 b0).gat k'=Ge (g',o')->OB ⟨E.φ,λ y=>E.own y/\E.φ g≠Ge y,E.nm⟩ w g' o':=fun{k' g' o'} hh=>by
  rcases hat hh with⟨rfl,rfl,rfl⟩|⟨e,hh⟩
  ·obtain⟨a1,a2⟩:=h.hp _ _ _ h0
   refine⟨a1,?_⟩;show match E.φ g' with|none=>_|some _=>_
   cases hp:E.φ g' with
   |none=>
    rw[hp]at a2;exact⟨by show b0.cells.map _=[];rw[a2.1];rfl,a2.2⟩
   |some y=>
    rw[hp]at a2;obtain⟨c1,c2,cur',fr',c3,c4,c5,c6,c7⟩:=a2;refine⟨⟨c1,hno hne h0' y hp⟩,c2,cur',fr',c3,c4,by simpa using c5,λ hr=>by simpa using c6 hr,λ i e he=>?_⟩;rw[WB,Option.map_eq_some_iff]at he;obtain⟨d0,hd0,rfl⟩:=he;obtain⟨u,u1,u2,u3⟩:=c7 i d0 hd0;exact⟨u,u1,u2,hfz u3⟩
  ·exact(h.ob hh).step hs λ y hy=>⟨⟨h.own_of ⟨_,_,_,hh,hy⟩,hno e hh y hy⟩,rfl⟩
 have how:∀{y},bu (zO s k g b k0 g0 b0) E.φ y->bu s E.φ y:=fun⟨k',g',o',hh,hy⟩=>by
  obtain⟨_,o'',hh⟩:=hold hh;exact⟨_,_,_,hh,hy⟩
 refine⟨⟨E.φ,λ y=>E.own y/\E.φ g≠Ge y,E.nm⟩,{h with
  fr:=λ t d hd=>by obtain⟨u,hu,hr⟩:=h.fr t d hd;exact⟨u,hu,hr.step hs⟩
  df:=h.df.step (λ y hy hd=>⟨hy,λ q=>hdf y q hd⟩) λ _ _ _=>rfl
  hp:=λ k' g' b' hh=>hob (AS.at_iff.1 hh)
  lp:=λ k' g' r hh=>hob (AS.lat_iff.1 hh)
  inj:=λ k1 k2 g1 g2 o1 o2 hkk h1 h2=>by
   obtain⟨_,o3,h3⟩:=hold h1;obtain⟨_,o4,h4⟩:=hold h2;exact h.inj k1 k2 g1 g2 o3 o4 hkk h3 h4
  lt:=λ y hy=>h.lt y hy.1
  low:=λ y hy=>h.low y (how hy)
  base:=λ y hy=>⟨h.base y hy,λ q=>cx.hO (Nat.le_zero.1 hxn) y hy (h.low y ⟨_,_,_,hk',q⟩)⟩},hs,⟨λ y _ hy hn=>⟨hy,λ q=>hn ⟨_,_,_,hk',q⟩⟩,λ _ _ _=>rfl,λ y _ hy=>how hy⟩,hu⟩
end

structure Endl where
 κ:Type
 e:AX
 S:κ->CutS
abbrev ua:=List Endl
def fF:ua->Nat->Endl
 |[],_=>⟨Empty,.normal,λ x=>nomatch x⟩
 |e::_,0=>e
 |_::r,n+1=>fF r n
def tD:(es:ua)->((i:Nat)->(fF es i).κ->Prop)->Prop
 |[],_=>True
 |e::r,F=>(∀x:e.κ,F 0 x)/\tD r (λ i x=>F (i+1) x)
def tE:ua->AX->AS->Prop
 |[],_,_=>False
 |e::r,a,s=>(∃x:e.κ,a=e.e/\s=(e.S x).st)\/tE r a s
def tF:∀{es:ua} {F:(i:Nat)->(fF es i).κ->Prop} {G:AX->AS->Prop},tD es F->(∀i x,F i x->G (fF es i).e ((fF es i).S x).st)->∀{a s},tE es a s->G a s
 |[],_,_,_,_,_,_,h=>h.elim
 |e::r,F,G,hv,hG,a,s,h=>by
  rcases h with⟨x,rfl,rfl⟩|h
  ·exact hG 0 x (hv.1 x)
  ·exact tF (es:=r) (F:=λ i x=>F (i+1) x) hv.2 (λ i x hF=>hG (i+1) x hF) h
def tG:∀(es:ua) (n:Nat) (x:(fF es n).κ),tE es (fF es n).e ((fF es n).S x).st
 |[],_,x=>nomatch x
 |_::_,0,x=>.inl ⟨x,rfl,rfl⟩
 |_::r,n+1,x=>.inr (tG r n x)
inductive Hn (P:Program):Type 1 where
 |nil
 |s (n:Nat) (h:Hn P)
 |chk (b:Bool) (p:b=Ga) (h:Hn P)
 |t (b:Bool) (p:b=Ga) (h:Hn P)
 |f (b:Bool) (p:b=Gd) (h:Hn P)
 |br (b:Bool) (ht:b=Ga->Hn P) (hf:b=Gd->Hn P)
 |opt (o:Option D) (d:D) (p:o=Ge d) (h:Hn P)
 |byt (cs:GA) (bs:Z4) (p:cs=bs.map dB) (h:Hn P)
 |lst (cs cs':GA) (p:cs=cs') (h:Hn P)
 |abs (p:False)
 |val (t:Nat) (d d':D) (p:d=d') (h:Hn P)
 |blk (k g:Nat) (b b':Blk) (p:b=b') (h:Hn P)
 |em (b:Bool) (ht:b=Ga->Hn P) (hf:b=Gd->Hn P)
 |nils (t k sz:Nat) (elem:TypeId) (h:Hn P)
 |nilc (k0 g0:Nat) (b:Blk) (j k sz:Nat) (elem:TypeId) (h:Hn P)
 |recv (k t:Nat) (d d':D) (p:d=d') (h:Hn P)
 |frz (k g:Nat) (b:Blk) (k0 g0:Nat) (b0:Blk) (p:ab b.cells=Ga) (h:Hn P)
 |call (f:FuncId) (al:Bool) (fp:Gw) (b1:Bool) (p1:b1=Ga) (q q0:GA) (hq:dr q q0) (b2:Bool) (p2:b2=Ga) (hin:lM) (r:D) (bs:lM) (hs:CallOk al P f q0 hin r bs) (h:Hn P)
 |loop1 (rd:Bool) (nt xn:Nat) (c:Code) (d:CutS) (rows:ic d) (e1:AX) (s1:AS) (hl:AWPl P rd nt xn c d.st λ e s=>e=e1/\s=s1) (h:Hn P)
 |loop2 (rd:Bool) (nt xn:Nat) (c:Code) (d:CutS) (rows:ic d) (e1:AX) (s1:AS) (e2:AX) (s2:AS) (hl:AWPl P rd nt xn c d.st λ e s=>(e=e1/\s=s1)\/(e=e2/\s=s2)) (h1 h2:Hn P)
 |loopE (rd:Bool) (nt xn:Nat) (c:Code) (d:CutS) (rows:ic d) (es:ua) (hl:AWPl P rd nt xn c d.st (tE es)) (hs:(i:Nat)->(fF es i).κ->Hn P)
 |cut (e:AX) (d:CutS) (rows:ic d) (Q:AX->AS->Prop) (p:Q e d.st)
 |out (ks gs:Gw) (r:D) (bs:lM) (R:D->lM->Prop) (p:R r bs)
 |two (h1 h2:Hn P)
 |stab (l:List (Option D)) (h:Hn P)

inductive Need {α:Type _} (what:Nat) (x:α):Prop
def ie (b:Bool)(X:Prop):Prop:=match b with
 |true=>X
 |false=>False
def qf (b:Bool)(X Y:Prop):Prop:=match b with
 |true=>X
 |false=>Y
def bC {b:Bool}{X:Prop}:ie b X↔b=Ga/\X:=by cases b<;>simp[ie]
def ey {b:Bool}{X Y:Prop}:qf b X Y↔(b=Ga->X)/\(b=Gd->Y):=by cases b<;>simp[qf]
def vG (n:Nat)(K:Nat->Prop):Prop:=match n with
 |0=>K 0
 |m+1=>K (m+1)
def nZ {n:Nat}{K:Nat->Prop}:vG n K↔K n:=by cases n<;>exact Iff.rfl

section
variable {P:Program}
def Hn.isAbs (h:Hn P):Bool:=match h with
 | .abs _=>Ga
 |_=>Gd
def Hn.isAbs_no {h:Hn P}:h.isAbs=false:=by
 cases h<;>first|rfl|(rename_i p;exact p.elim)
def Hn.go (h:Hn P)(lit use:Hn P->Prop):Prop:=match h with
 | .s 0 h'=>use h'
 | .s (n+1) h'=>lit (.s n h')
 |h'=>use h'
def Hn.absOr (h:Hn P)(X:Prop):Prop:=match h with
 | .abs _=>True
 |_=>X
def Hn.absOr_elim {h:Hn P}{X:Prop}(hv:h.absOr X):X:=by
 unfold Hn.absOr at hv
 split at hv
 ·rename_i p;exact p.elim
 ·exact hv
def Hn.fork (h:Hn P)(no:Prop)(yes:Hn P->Hn P->Prop):Prop:=match h with
 | .two a b=>yes a b
 | .s 0 (.two a b)=>yes a b
 |_=>no
def Hn.fork_elim {h:Hn P}{no X:Prop}{yes:Hn P->Hn P->Prop}(hv:h.fork no yes)(h1:no->X)(h2:∀a b,yes a b->X):X:=by
 unfold Hn.fork at hv
 split at hv
 ·exact h2 _ _ hv
 ·exact h2 _ _ hv
 ·exact h1 hv
def Hn.go_elim {h:Hn P}{lit use:Hn P->Prop}{X:Prop}(hv:h.go lit use)(h1:∀h',lit h'->X)(h2:∀h',use h'->X):X:=by
 unfold Hn.go at hv
 split at hv
 ·exact h2 _ hv
 ·exact h1 _ hv
 ·exact h2 _ hv

def Hn.goL (h:Hn P)(lit use:Hn P->Prop):Prop:=match h with
 | .s 0 h'=>use h'
 | .s (n+1) h'=>bif Yq 1000000000 n then use (.s (n+1) h')else lit (.s n h')
 |h'=>use h'
def Hn.goL_elim {h:Hn P}{lit use:Hn P->Prop}{X:Prop}(hv:h.goL lit use)(h1:∀h',lit h'->X)(h2:∀h',use h'->X):X:=by
 unfold Hn.goL at hv
 split at hv
 ·exact h2 _ hv
 ·rename_i n h'
  cases hb:Yq 1000000000 n with
  |true=>rw[hb]at hv;exact h2 _ hv
  |false=>rw[hb]at hv;exact h1 _ hv
 ·exact h2 _ hv

def RV:GA->Option (Z4)
 |[]=>Ge []
 | .v (.int .u8 (.ofNat m))::r=>bif Yq m 256 then(match RV r with
  |some l=>Ge (Xg m::l)
  |none=>z9)else z9
 |_=>z9
def A8:∀{cs:GA} {bs:Z4},RV cs=Ge bs->cs=bs.map dB
 |[],bs,h=>by cases h;rfl
 |d::r,bs,h=>by
  unfold RV at h
  split at h
  ·rename_i heq;cases heq
  ·rename_i m r' heq
   cases heq
   cases hb:Yq m 256 with
   |false=>rw[hb]at h;cases h
   |true=>
    rw[hb,cond_true]at h
    split at h
    ·rename_i l hl
     cases h
     have hm:m<256:=Wm hb;rw[XB,<-A8 hl]
     congr 1
     unfold dB;have:(Xg m).toNat=m:=by simp[X6,XJ hm]
     rw[this];rfl
    ·cases h
  ·cases h

def Ev.vc_mono:∀{e:Ev} {K K':Option D->Up->Prop},e.vc K->(∀v up,K v up->K' v up)->e.vc K'
 | .ok v up,_,_,h,hk=>hk v up h
 | .cond b k,_,_,h,hk=>bz.2 ⟨(bz.1 h).1,Ev.vc_mono (bz.1 h).2 hk⟩
 | .opt o k,_,_,h,hk=>by
  obtain⟨d,hd,h⟩:=aQ.1 h;exact aQ.2 ⟨d,hd,Ev.vc_mono h hk⟩
 | .list cs k,_,_,h,hk=>Ev.vc_mono (e:=k cs) h hk
 | .bytes cs k,_,_,h,hk=>by
  obtain⟨bs,hb,h⟩:=h.h;exact⟨bs,hb,Ev.vc_mono h hk⟩
 | .stuck,_,_,h,_=>h
def jq {T:TT}{s:AS}{nm ky:Nat}{o:Oper}{K K':Option D->Up->Prop}(h:dI P T s nm ky o K)(hk:∀v up,K v up->K' v up):dI P T s nm ky o K':=by
 unfold dI at h ⊢
 cases hc:dY s o with
 |some p=>
  rw[hc]at h;obtain⟨al,fp,q,hin,r,bs,h1,h2,h4,h5,h6⟩:=h.h;exact⟨al,fp,q,hin,r,bs,h1,h2,h4,h5,hk _ _ h6⟩
 |none=>rw[hc]at h;exact Ev.vc_mono h hk

def M6 {α:Type}(l:List α)(X:Prop):Prop:=match l with
 |[]=>X
 |_::_=>X
def A9 {α:Type}{l:List α}{X:Prop}:M6 l X↔X:=by cases l<;>exact Iff.rfl
def tH:Ev->Hn P->(Option D->Up->Hn P->Prop)->Prop
 | .ok v up,h,K=>K v up h
 | .cond b k,h,K=>h.go (λ h'=>ie b (tH k h' K)) λ h'=>match h' with
  | .chk b' _ h2=>b=b'/\tH k h2 K
  |_=>Need 1 b
 | .opt o k,h,K=>h.go (λ h'=>jx o λ d=>tH (k d) h' K) λ h'=>match h' with
  | .opt o' d _ h2=>o=o'/\tH (k d) h2 K
  |_=>Need 2 o
 | .list cs k,h,K=>h.go (λ h'=>M6 cs (tH (k cs) h' K)) λ h'=>match h' with
  | .lst cs0 cs' _ h2=>cs=cs0/\tH (k cs') h2 K
  |_=>Need 14 cs
 | .bytes cs k,h,K=>h.go (λ h'=>jx (RV cs) λ bs=>tH (k bs) h' K) λ h'=>match h' with
  | .byt cs' bs _ h2=>cs=cs'/\tH (k bs) h2 K
  |_=>Need 3 cs
 | .stuck,_,_=>Need 0 ()
def eY:∀{e:Ev} {h:Hn P} {K:Option D->Up->Hn P->Prop},tH e h K->e.vc λ v up=>∃h',K v up h'
 | .ok v up,h,K,hv=>⟨h,hv⟩
 | .cond b k,h,K,hv=>by
  unfold tH at hv;refine Hn.go_elim hv (λ h' hv=>?_) λ h' hv=>?_
  ·obtain⟨hb,hv⟩:=bC.1 hv;exact bz.2 ⟨hb,eY hv⟩
  ·split at hv
   ·rename_i b' p h2;exact bz.2 ⟨hv.1.trans p,eY hv.2⟩
   ·cases hv
 | .opt o k,h,K,hv=>by
  unfold tH at hv;refine Hn.go_elim hv (λ h' hv=>?_) λ h' hv=>?_
  ·obtain⟨d,hd,hv⟩:=aQ.1 hv;exact aQ.2 ⟨d,hd,eY hv⟩
  ·split at hv
   ·rename_i o' d p h2;exact aQ.2 ⟨d,hv.1.trans p,eY hv.2⟩
   ·cases hv
 | .list cs k,h,K,hv=>by
  unfold tH at hv;show(k cs).vc _;refine Hn.go_elim hv (λ h' hv=>eY (A9.1 hv)) λ h' hv=>?_
  split at hv
  ·rename_i cs0 cs' p h2
   obtain⟨e,hv⟩:=hv;have e2:cs=cs':=e.trans p;rw[e2];exact eY hv
  ·cases hv
 | .bytes cs k,h,K,hv=>by
  unfold tH at hv;refine Hn.go_elim hv (λ h' hv=>?_) λ h' hv=>?_
  ·obtain⟨bs,hb,hv⟩:=aQ.1 hv;exact⟨bs,A8 hb,eY hv⟩
  ·split at hv
   ·rename_i cs' bs p h2;exact⟨bs,hv.1.trans p,eY hv.2⟩
   ·cases hv
 | .stuck,_,_,hv=>by cases hv

def zP:Hn P->AS->(AS->Hn P->Prop)->Prop
 | .val t d d' _ h,s,K=>s.tm.get t=Ge d/\zP h {s with tm:=s.tm.set t (Ge d')} K
 | .blk k g b b' _ h,s,K=>s.at k=Ge (g,b)/\zP h {s with hp:=s.hp.set k (Ge (g,.b b'))} K
 | .abs _,_,_=>True
 |h,s,K=>K s h
def JN (h:Hn P)(s:AS)(K:AS->Hn P->Prop):Prop:=h.go (λ h'=>K s h') λ h'=>zP h' s K

def vH (xn:Nat):Hn P->AS->(AS->Hn P->Prop)->Prop
 | .nils t k sz elem h,s,K=>s.tm.get t=Ge jF/\vH xn h (nilS s t k sz elem) K
 | .nilc k0 g0 b j k sz elem h,s,K=>s.at k0=Ge (g0,b)/\b.cells[j]? =Ge jF/\ie (!V9 k0 k&&aaT k&& !b.row) (vH xn h (nilC s k0 g0 b j k sz elem) K)
 | .recv k t d d' _ h,s,K=>jx (s.lat k) λ q=>q.2.tm.get t=Ge d/\vH xn h (recS s k q.1 q.2 t d') K
 | .frz k g b k0 g0 b0 _ h,s,K=>s.at k=Ge (g,b)/\s.at k0=Ge (g0,b0)/\ie (!V9 k0 k&&V9 xn 0) (vH xn h (zO s k g b k0 g0 b0) K)
 |h,s,K=>zP h s K
structure SubAS (s2 s:AS):Prop where
 tm:∀t d,s2.tm.get t=Ge d->s.tm.get t=Ge d
 hp:∀k x,s2.gat k=Ge x->s.gat k=Ge x
 us:s2.us=s.us
def Ba (s:AS)(ds:GA)(f:FuncId)(nm ky:Nat):Hn P->(Option D->Up->Hn P->Prop)->Prop
 | .em _ ht hf,K=>(∀p,Ba s ds f nm ky (ht p) K)/\∀p,Ba s ds f nm ky (hf p) K
 | .call f' al fp b1 _ q _ _ b2 _ hin r bs _ h2,K=>f=f'/\jv s al fp ds=Ge (b1,q)/\jE s fp fp=Ge (b2,hin)/\ie (fC fp&&Wf bs.length (fp.length+8)) (K (Ge (qR (gB fp ky) (gc s fp nm) bs r)) (gZ (gB fp ky) (gc s fp nm) 0 bs) h2)
 | .abs _,_=>True
 |_,_=>Need 4 (s,f,ds)
def n5 {s:AS}{ds:GA}{f:FuncId}{nm ky:Nat}{K:Option D->Up->Hn P->Prop}:∀{h:Hn P},Ba s ds f nm ky h K->callP P s ds f nm ky λ v up=>∃h',K v up h':=by
 intro h
 induction h with
 |em b ht hf iht ihf=>
  intro hv;obtain⟨h1,h2⟩:=hv
  cases hb:b with
  |true=>exact iht hb (h1 hb)
  |false=>exact ihf hb (h2 hb)
 |call f' al fp b1 p1 q q0 hq b2 p2 hin r bs hs h2 ih=>
  intro hv;subst p1 p2;obtain⟨rfl,h3,h4,h5⟩:=hv;obtain⟨h5,h6⟩:=bC.1 h5;exact SB fp hs h3 h4 hq h5 ⟨h2,h6⟩
 |abs p=>exact p.elim
 |_=>intro hv;cases hv

def zQ (T:TT)(s:AS)(nm ky:Nat)(o:Oper)(h:Hn P)(K:Option D->Up->Hn P->Prop):Prop:=
 match dY s o with
 |some p=>h.go (λ h'=>Need 5 h') λ h'=>Ba s p.2 p.1 nm ky h' K
 |none=>tH (ev T s nm ky o) h K
def vI {T:TT}{s:AS}{nm ky:Nat}{o:Oper}{h:Hn P}{K:Option D->Up->Hn P->Prop}(hv:zQ T s nm ky o h K):dI P T s nm ky o λ v up=>∃h',K v up h':=by
 unfold zQ at hv;unfold dI
 cases hc:dY s o with
 |some p=>rw[hc]at hv;exact Hn.go_elim hv (λ h' hv=>by cases hv) λ h' hv=>n5 hv
 |none=>rw[hc]at hv;exact eY hv

def xD (T:TT)(nt kb:Nat)(all:List Oper)(pr:List (Gw)):Nat->List Oper->AS->lU->Hn P->(AS->Hn P->Prop)->Prop
 |_,[],s,log,h,K=>qf (vD pr 0 log.reverse&&log.all dc) (K s h) (h.go (λ h'=>Need 40 (G7 pr 0 log.reverse,h')) λ h'=>match h' with
  | .stab l h2=>ie (vE pr 0 log.reverse&&log.all dc) (G7 pr 0 log.reverse=l.map (λ c=>(c,c))/\K s h2)
  |_=>Need 41 (G7 pr 0 log.reverse,vE pr 0 log.reverse))
 |i,o::r,s,log,h,K=>ie (iN nt o) (h.go (λ h'=>xDo T nt kb all pr i o r s log h' K (xD T nt kb all pr (i+1) r)) λ h'=>h'.absOr (xDo T nt kb all pr i o r s log h' K (xD T nt kb all pr (i+1) r)))
where xDo (T:TT) (nt kb:Nat) (all:List Oper) (pr:List (Gw)) (i:Nat) (o:Oper) (r:List Oper) (s:AS) (log:lU) (h:Hn P) (K:AS->Hn P->Prop) (next:AS->lU->Hn P->(AS->Hn P->Prop)->Prop):Prop:=
 match o.guard with
 |none=>zQ T (d9 s o) (s.nx+8*i) (s.nx+8*i) o h λ v up h'=>next (s.eff i (pZ T s o v up)) (pZ T s o v up::log) h' K
 |some jw=>match(all[jw.1]?).bind (·.dst)with
  |some t=>match s.tm.get t with
   |some (.v (.bool b))=>
    let run (c:Bool) (h:Hn P):Prop:=zQ T (d9 s o) (s.nx+8*i) (s.nx+8*i) o h λ v up h'=>next (AS.eff {s with tm:=s.tm.set t (Ge (.v (.bool c)))} i (dA T s t o v up)) (dA T s t o v up::log) h' K
    let skip (c:Bool) (h:Hn P):Prop:=next (AS.eff {s with tm:=s.tm.set t (Ge (.v (.bool c)))} i ⟨[t],[],o.dst,Ge (.tup []),[],z9⟩) (⟨[t],[],o.dst,Ge (.tup []),[],z9⟩::log) h K
    h.go (λ h'=>qf b (bif jw.2 then run Ga h' else skip Ga h') (bif jw.2 then skip Gd h' else run Gd h')) λ h'=>match h' with
     | .t b' _ h2=>b=b'/\bif jw.2 then run Ga h2 else skip Ga h2
     | .f b' _ h2=>b=b'/\bif jw.2 then skip Gd h2 else run Gd h2
     | .br b' ht hf=>b=b'/\(∀p,bif jw.2 then run Ga (ht p)else skip Ga (ht p))/\∀p,bif jw.2 then skip Gd (hf p)else run Gd (hf p)
     |_=>Need 6 b
   |some (.tup [])=>next (AS.eff s i ⟨[t],[],o.dst,Ge (.tup []),[],z9⟩) (⟨[t],[],o.dst,Ge (.tup []),[],z9⟩::log) h K
   |_=>Need 7 t
  |none=>False

def iT {T:TT}{nt kb:Nat}{all:List Oper}{pr:List (Gw)}{K:AS->Hn P->Prop}:∀(l:List Oper) (i:Nat) (s:AS) (log:lU) (h:Hn P),xD T nt kb all pr i l s log h K->mw P T nt kb all pr i l s log λ s'=>∃h',K s' h'
 |[],i,s,log,h,hv=>by
  obtain⟨h1,h2⟩:=ey.1 hv
  cases hc:(vD pr 0 log.reverse&&log.all dc)with
  |true=>exact⟨.of hc,h,h1 hc⟩
  |false=>
   refine Hn.go_elim (h2 hc) (λ h' hv=>by cases hv) λ h' hv=>?_
   split at hv
   ·obtain⟨h3,h4,h5⟩:=bC.1 hv
    refine⟨.rx h3 λ p hp=>?_,_,h5⟩;rw[h4]at hp;obtain⟨c,_,rfl⟩:=List.mem_map.1 hp;rfl
   ·cases hv
 |o::r,i,s,log,h,hv=>by
  obtain⟨hd,hv⟩:=bC.1 hv;refine bz.2 ⟨hd,?_⟩;have key:∀h',xD.xDo T nt kb all pr i o r s log h' K (xD T nt kb all pr (i+1) r)->(match o.guard with
   |none=>dI P T (d9 s o) (s.nx+8*i) (s.nx+8*i) o λ v up=>mw P T nt kb all pr (i+1) r (s.eff i (pZ T s o v up)) (pZ T s o v up::log) λ s'=>∃h',K s' h'
   |some jw=>match(all[jw.1]?).bind (·.dst)with
    |some t=>match s.tm.get t with
     |some (.v (.bool b))=>M0 b
      (bif jw.2 then dI P T (d9 s o) (s.nx+8*i) (s.nx+8*i) o λ v up=>mw P T nt kb all pr (i+1) r (AS.eff {s with tm:=s.tm.set t (Ge (.v (.bool Ga)))} i (dA T s t o v up)) (dA T s t o v up::log) λ s'=>∃h',K s' h'
       else mw P T nt kb all pr (i+1) r (AS.eff {s with tm:=s.tm.set t (Ge (.v (.bool Ga)))} i ⟨[t],[],o.dst,Ge (.tup []),[],z9⟩) (⟨[t],[],o.dst,Ge (.tup []),[],z9⟩::log) λ s'=>∃h',K s' h')
      (bif jw.2 then mw P T nt kb all pr (i+1) r (AS.eff {s with tm:=s.tm.set t (Ge (.v (.bool Gd)))} i ⟨[t],[],o.dst,Ge (.tup []),[],z9⟩) (⟨[t],[],o.dst,Ge (.tup []),[],z9⟩::log) (λ s'=>∃h',K s' h')
       else dI P T (d9 s o) (s.nx+8*i) (s.nx+8*i) o λ v up=>mw P T nt kb all pr (i+1) r (AS.eff {s with tm:=s.tm.set t (Ge (.v (.bool Gd)))} i (dA T s t o v up)) (dA T s t o v up::log) λ s'=>∃h',K s' h')
     |some (.tup [])=>mw P T nt kb all pr (i+1) r (s.eff i ⟨[t],[],o.dst,Ge (.tup []),[],z9⟩) (⟨[t],[],o.dst,Ge (.tup []),[],z9⟩::log) λ s'=>∃h',K s' h'
     |_=>False
    |none=>False):=by
   intro h' hv;have opm:∀{S:AS} {nm ky:Nat} {h1:Hn P} {F:Option D->Up->Hn P->Prop} {G:Option D->Up->Prop},zQ T S nm ky o h1 F->(∀v up h2,F v up h2->G v up)->dI P T S nm ky o G:=λ hx hm=>jq (vI hx) λ v up ⟨h2,hF⟩=>hm v up h2 hF
   unfold xD.xDo at hv
   cases hg:o.guard with
   |none=>
    rw[hg]at hv;exact opm hv λ v up h2 hF=>iT r (i+1) _ _ h2 hF
   |some jw=>
    rw[hg]at hv;dsimp only at hv ⊢
    cases ht:(all[jw.1]?).bind (·.dst)with
    |none=>rw[ht]at hv;exact hv.elim
    |some t=>
     rw[ht]at hv;dsimp only at hv ⊢
     split at hv
     case h_3=>cases hv
     case h_2 hb=>exact iT r (i+1) _ _ h' hv
     case h_1 b hb=>
     have run:∀(c:Bool) (h:Hn P),zQ T (d9 s o) (s.nx+8*i) (s.nx+8*i) o h (λ v up h'=>xD T nt kb all pr (i+1) r (AS.eff {s with tm:=s.tm.set t (Ge (.v (.bool c)))} i (dA T s t o v up)) (dA T s t o v up::log) h' K)->dI P T (d9 s o) (s.nx+8*i) (s.nx+8*i) o λ v up=>mw P T nt kb all pr (i+1) r (AS.eff {s with tm:=s.tm.set t (Ge (.v (.bool c)))} i (dA T s t o v up)) (dA T s t o v up::log) λ s'=>∃h',K s' h':=λ c h hx=>opm hx λ v up h2 hF=>iT r (i+1) _ _ h2 hF
     have skip:∀(c:Bool) (h:Hn P),xD T nt kb all pr (i+1) r (AS.eff {s with tm:=s.tm.set t (Ge (.v (.bool c)))} i ⟨[t],[],o.dst,Ge (.tup []),[],z9⟩) (⟨[t],[],o.dst,Ge (.tup []),[],z9⟩::log) h K->mw P T nt kb all pr (i+1) r (AS.eff {s with tm:=s.tm.set t (Ge (.v (.bool c)))} i ⟨[t],[],o.dst,Ge (.tup []),[],z9⟩) (⟨[t],[],o.dst,Ge (.tup []),[],z9⟩::log) λ s'=>∃h',K s' h':=λ c h hx=>iT r (i+1) _ _ h hx
     obtain⟨j,want⟩:=jw;refine g6.2 ⟨λ hbt=>?_,λ hbf=>?_⟩
     ·subst hbt
      refine Hn.go_elim hv (λ h1 hv=>?_) λ h1 hv=>?_
      ·have hv:=(ey.1 hv).1 rfl
       cases want with
       |true=>exact run Ga h1 hv
       |false=>exact skip Ga h1 hv
      ·split at hv
       ·obtain⟨_,hv⟩:=hv
        cases want with
        |true=>exact run Ga _ hv
        |false=>exact skip Ga _ hv
       ·rename_i b' p h2
        obtain⟨e,_⟩:=hv;rw[p]at e;cases e
       ·rename_i b' ht hf
        obtain⟨e,hv,_⟩:=hv;have hv:=hv e.symm
        cases want with
        |true=>exact run Ga _ hv
        |false=>exact skip Ga _ hv
       ·cases hv
     ·subst hbf
      refine Hn.go_elim hv (λ h1 hv=>?_) λ h1 hv=>?_
      ·have hv:=(ey.1 hv).2 rfl
       cases want with
       |true=>exact skip Gd h1 hv
       |false=>exact run Gd h1 hv
      ·split at hv
       ·rename_i b' p h2
        obtain⟨e,_⟩:=hv;rw[p]at e;cases e
       ·obtain⟨_,hv⟩:=hv
        cases want with
        |true=>exact skip Gd _ hv
        |false=>exact run Gd _ hv
       ·rename_i b' ht hf
        obtain⟨e,_,hv⟩:=hv;have hv:=hv e.symm
        cases want with
        |true=>exact skip Gd _ hv
        |false=>exact run Gd _ hv
       ·cases hv
  exact Hn.go_elim hv (λ h' hv=>key h' hv) λ h' hv=>key h' (Hn.absOr_elim hv)

def fG {T:TT}{nt kb:Nat}{all:List Oper}{pr:List (Gw)}{K K':AS->Prop}:∀(l:List Oper) (i:Nat) (s:AS) (log:lU),mw P T nt kb all pr i l s log K->(∀s,K s->K' s)->mw P T nt kb all pr i l s log K'
 |[],i,s,log,hv,hk=>⟨hv.1,hk _ hv.2⟩
 |o::r,i,s,log,hv,hk=>by
  obtain⟨hd,hv⟩:=bz.1 hv;refine bz.2 ⟨hd,?_⟩
  cases hg:o.guard with
  |none=>rw[hg]at hv;exact jq hv λ v up h=>fG r (i+1) _ _ h hk
  |some jw=>
   rw[hg]at hv;dsimp only at hv ⊢
   cases ht:(all[jw.1]?).bind (·.dst)with
   |none=>rw[ht]at hv;exact hv.elim
   |some t=>
    rw[ht]at hv;dsimp only at hv ⊢
    split at hv
    case h_3=>exact hv.elim
    case h_2 hb=>exact fG r (i+1) _ _ hv hk
    case h_1 b hb=>
    obtain⟨h1,h2⟩:=g6.1 hv;obtain⟨j,want⟩:=jw;refine g6.2 ⟨λ e=>?_,λ e=>?_⟩
    ·have h1:=h1 e
     cases want with
     |true=>exact jq h1 λ v up h=>fG r (i+1) _ _ h hk
     |false=>exact fG r (i+1) _ _ h1 hk
    ·have h2:=h2 e
     cases want with
     |true=>exact fG r (i+1) _ _ h2 hk
     |false=>exact jq h2 λ v up h=>fG r (i+1) _ _ h hk
end

section
variable {P:Program}

abbrev XC (P:Program):=Bool->Nat->Nat->Nat->Code->AS->Hn P->(AX->AS->Hn P->Prop)->Prop
def Bb (R:XC P):Prop:=∀rd nt xn kb c s h K,R rd nt xn kb c s h K->AWP P rd nt xn c s λ e s'=>∃h',K e s' h'
def Bc:AX->Bool
 | .exit _=>Gd
 |_=>Ga
def lc {e:AX}(h:Bc e=Ga):e= .normal\/e= .ret:=by cases e<;>first|exact .inl rfl|exact .inr rfl|cases h
def Bd (T:TT)(s:AS):List ResultVar->Hn P->(GA->Hn P->Prop)->Prop
 |[],h,K=>K [] h
 | .tmp t::r,h,K=>jx (s.tm.get t) λ d=>Bd T s r h λ l=>K (d::l)
 | .cell t ty::r,h,K=>tH (gT T s ty (.tmp t)) h λ v _ h'=>jx v λ d=>Bd T s r h' λ l=>K (d::l)
def kq {T:TT}{s:AS}:∀{rs:List ResultVar} {h:Hn P} {K:GA->Hn P->Prop},Bd T s rs h K->iO T s rs λ l=>∃h',K l h'
 |[],h,_,hv=>⟨h,hv⟩
 | .tmp t::r,_,_,hv=>by
  obtain⟨d,hd,hv⟩:=aQ.1 hv;exact aQ.2 ⟨d,hd,kq hv⟩
 | .cell t ty::r,_,_,hv=>Ev.vc_mono (eY hv) λ v _ ⟨h',hv⟩=>by
  obtain⟨d,hd,hv⟩:=aQ.1 hv;exact aQ.2 ⟨d,hd,kq hv⟩
def Vb (T:TT)(R:XC P)(f:FuncId)(ds:GA)(xn nx kb:Nat)(hp:Tr (Nat×Ob))(h:Hn P)(K:GA->AS->Hn P->Prop):Prop:=
 jx P.funcs[f]? λ fn=>jx fn.body λ c=>ie (!(fn.name== "runtime.NumGoroutine")) (R Gd fn.ntmps xn kb c {tm:=mc 0 ds,hp:=hp,nx:=nx,us:=[]} h λ e s' h2=>ie (Bc e) (Bd T s' fn.results.toList h2 λ l h3=>K l s' h3))

def E5 (o:Oper):Option Call:=match o.op with
 | .call c=>match c.callee with
  | .builtin .append=>Ge c
  |_=>z9
 |_=>z9
def zR {o:Oper}{c:Call}(h:E5 o=Ge c):o.op= .call c/\c.callee= .builtin .append:=by
 unfold E5 at h
 split at h
 ·split at h
  ·cases h;exact⟨by assumption,by assumption⟩
  ·cases h
 ·cases h
def xO (T:TT)(R:XC P)(nt kb i:Nat)(o:Oper)(s:AS)(h:Hn P)(K:AS->Hn P->Prop):Prop:=
 match w8 s o with
 |some p=>jx (s.lat p.1) λ q=>ie (V9 q.1 p.2.1&&ko q.2.st&&V9 p.2.2.length q.2.params.size&&q.2.params.toList.all λ t=>Yq t q.2.nt) (R Ga q.2.nt (s.nx+8*(i+1)) (kb+8*(nt+1)) q.2.assign {tm:=w7 q.2.params.toList p.2.2 q.2.tm,hp:=s.hp,nx:=s.nx+8*(i+1),us:=[]} h λ e s1 h1=>ie (gC e)
   (recP s1 p.1 p.2.1 (λ r=>ko r.st) (λ r=>{r with st:=.busy}) λ _ s2=>R Ga q.2.nt (s.nx+8*(i+1)) (kb+8*(nt+1)) q.2.body s2 h1 λ e s3 h3=>
    recP s3 p.1 p.2.1 (λ _=>Ga) (λ r=>{r with st:=bif gC e then .ready else .done,pend:=k9 e}) λ _ s4=>K {tm:=dZ s.tm o.dst (Ge (.v (.bool (gC e)))),hp:=s4.hp,nx:=s4.nx,us:=[]} h3))
 |none=>match dY s o with
  |some p=>h.go (λ h'=>Vb T R p.1 p.2 (s.nx+8*(i+1)) (s.nx+8*(i+1)) (kb+8*(nt+1)) s.hp h' λ l s' h2=>K {tm:=dZ s.tm o.dst (Ge (tl l)),hp:=s'.hp,nx:=s'.nx,us:=[]} h2)
    λ h'=>Ba s p.2 p.1 (s.nx+8*i) (s.nx+8*i) h' λ v up h2=>K {s with tm:=dZ s.tm o.dst v,hp:=fU up s.hp,us:=i::s.us} h2
  |none=>match E5 o with
   |some c=>h.fork (tH (ev T s (s.nx+8*i) (s.nx+8*i) o) h λ v up h2=>K {s with tm:=dZ s.tm o.dst v,hp:=fU up s.hp,us:=i::s.us} h2) λ h1 h2=>match EO T s (s.nx+8*i) (s.nx+8*i) c.argTypes c.args with
    |some (b,(v1,u1),(v2,u2))=>ie b (K {s with tm:=dZ s.tm o.dst (Ge v1),hp:=fU u1 s.hp,us:=i::s.us} h1/\K {s with tm:=dZ s.tm o.dst (Ge v2),hp:=fU u2 s.hp,us:=i::s.us} h2)
    |none=>Need 24 ()
   |none=>tH (ev T s (s.nx+8*i) (s.nx+8*i) o) h λ v up h2=>K {s with tm:=dZ s.tm o.dst v,hp:=fU up s.hp,us:=i::s.us} h2

def AWP.ex {rd:Bool}{nt xn:Nat}{c:Code}{s:AS}{K:AX->AS->Hn P->Prop}{G:AX->AS->Prop}(h:AWP P rd nt xn c s λ e s'=>∃h',K e s' h')(hk:∀e s' h',K e s' h'->G e s'):AWP P rd nt xn c s G:=h.mono λ e s' ⟨h',hK⟩=>hk e s' h' hK
def fH {T:TT}{s:AS}:∀{rs:List ResultVar} {K K':GA->Prop},iO T s rs K->(∀l,K l->K' l)->iO T s rs K'
 |[],_,_,h,hk=>hk _ h
 | .tmp t::r,_,_,h,hk=>by
  obtain⟨d,hd,h⟩:=aQ.1 h;exact aQ.2 ⟨d,hd,fH h λ l=>hk _⟩
 | .cell t ty::r,_,_,h,hk=>Ev.vc_mono h λ v _ h=>by
  obtain⟨d,hd,h⟩:=aQ.1 h;exact aQ.2 ⟨d,hd,fH h λ l=>hk _⟩
def lf {s:AS}{k g:Nat}{ok:LRec->Bool}{to:LRec->LRec}{K K':LRec->AS->Prop}(h:recP s k g ok to K)(hk:∀r s',K r s'->K' r s'):recP s k g ok to K':=by
 obtain⟨p,hp,h⟩:=aQ.1 h;obtain⟨hc,h⟩:=bz.1 h;exact aQ.2 ⟨p,hp,bz.2 ⟨hc,hk _ _ h⟩⟩

def tI {T:TT}{R:XC P}(hR:Bb R){nt kb i:Nat}{o:Oper}{s:AS}{h:Hn P}{K:AS->Hn P->Prop}{G:AS->Prop}(hv:xO T R nt kb i o s h K)(hk:∀s' h',K s' h'->G s'):RR P T nt kb i o s G:=by
 unfold xO at hv;unfold RR
 cases hy:w8 s o with
 |some p=>
  rw[hy]at hv;dsimp only at hv ⊢;obtain⟨q,hq,hv⟩:=aQ.1 hv;obtain⟨hc,hv⟩:=bC.1 hv;refine aQ.2 ⟨q,hq,bz.2 ⟨hc,?_⟩⟩;refine(hR _ _ _ _ _ _ _ _ hv).ex λ e s1 h1 hv=>?_
  obtain⟨hn,hv⟩:=bC.1 hv;refine⟨(by cases e<;>first|rfl|(cases hn)),lf hv λ _ s2 hv=>?_⟩;refine(hR _ _ _ _ _ _ _ _ hv).ex λ e s3 h3 hv=>?_
  exact lf hv λ _ s4 hv=>hk _ _ hv
 |none=>
  rw[hy]at hv;dsimp only at hv ⊢
  cases hc:dY s o with
  |some p=>
   rw[hc]at hv;dsimp only at hv ⊢;refine Hn.go_elim hv (λ h' hv=>?_) λ h' hv=>?_
   ·obtain⟨fn,hf,hv⟩:=aQ.1 hv
    obtain⟨c,hb,hv⟩:=aQ.1 hv;obtain⟨hn,hv⟩:=bC.1 hv;refine SC hf hb (rs:=fn.results.toList) rfl (by simpa using hn) ?_;refine(hR _ _ _ _ _ _ _ _ hv).ex λ e s' h2 hv=>?_
    obtain⟨he,hv⟩:=bC.1 hv;exact⟨lc he,fH (kq hv) λ l ⟨_,hl⟩=>hk _ _ hl⟩
   ·have hx:=n5 hv
    obtain⟨al,fp,q,hin,r,bs,h1,h2,h4,h5,h6,h7⟩:=hx.h;exact⟨.inl ⟨al,fp,q,hin,r,bs,h1,h2,h4,h5,hk _ _ h7⟩⟩
  |none=>
   rw[hc]at hv;dsimp only at hv
   cases ha:E5 o with
   |none=>
    rw[ha]at hv;exact .inr (Ev.vc_mono (eY hv) λ v up ⟨h2,hK⟩=>hk _ _ hK)
   |some c=>
    rw[ha]at hv;dsimp only at hv;refine Hn.fork_elim hv (λ hv=>.inr (Ev.vc_mono (eY hv) λ v up ⟨h2,hK⟩=>hk _ _ hK)) λ h1 h2 hv=>?_
    obtain⟨q1,q2⟩:=zR ha
    split at hv
    ·rename_i b v1 u1 v2 u2 he
     obtain⟨rfl,hv1,hv2⟩:=bC.1 hv;exact .inl ⟨c,v1,u1,v2,u2,q1,q2,he,hk _ _ hv1,hk _ _ hv2⟩
    ·cases hv

def xL (T:TT)(R:XC P)(nt kb:Nat)(all:List Oper):Nat->List Oper->AS->Hn P->(AS->Hn P->Prop)->Prop
 |_,[],s,h,K=>K s h
 |i,o::r,s,h,K=>ie (iN nt o) (JN h s λ s h=>xLo T R nt kb all i o s h K (xL T R nt kb all (i+1) r))
where xLo (T:TT) (R:XC P) (nt kb:Nat) (all:List Oper) (i:Nat) (o:Oper) (s:AS) (h:Hn P) (K:AS->Hn P->Prop) (next:AS->Hn P->(AS->Hn P->Prop)->Prop):Prop:=
 match o.guard with
 |none=>xO T R nt kb i o s h λ s' h'=>next s' h' K
 |some jw=>match(all[jw.1]?).bind (·.dst)with
  |some t=>match s.tm.get t with
   |some (.v (.bool b))=>
    let run (c:Bool) (h:Hn P):Prop:=xO T R nt kb i o {s with tm:=s.tm.set t (Ge (.v (.bool c)))} h λ s' h'=>next s' h' K
    let skip (c:Bool) (h:Hn P):Prop:=next {s with tm:=dZ (s.tm.set t (Ge (.v (.bool c)))) o.dst (Ge (.tup [])),us:=i::s.us} h K
    h.go (λ h'=>qf b (bif jw.2 then run Ga h' else skip Ga h') (bif jw.2 then skip Gd h' else run Gd h')) λ h'=>match h' with
     | .t b' _ h2=>b=b'/\bif jw.2 then run Ga h2 else skip Ga h2
     | .f b' _ h2=>b=b'/\bif jw.2 then skip Gd h2 else run Gd h2
     | .br b' ht hf=>b=b'/\(∀p,bif jw.2 then run Ga (ht p)else skip Ga (ht p))/\∀p,bif jw.2 then skip Gd (hf p)else run Gd (hf p)
     |_=>Need 6 b
   |some (.tup [])=>next {s with tm:=dZ s.tm o.dst (Ge (.tup [])),us:=i::s.us} h K
   |_=>Need 7 t
  |none=>False

def SR.val {cx:Cx}{E:Env}{s:AS}{a:Act}{w:World}(h:SR cx E s a w){t:Nat}{d:D}(ht:s.tm.get t=Ge d):SR cx E {s with tm:=s.tm.set t (Ge d)} a w:=by
 refine{h with fr:=λ t' d' hd=>?_};rcases XH hd with⟨rfl,hv⟩|⟨_,hd⟩
 ·cases hv;exact h.fr t' _ ht
 ·exact h.fr t' d' hd
def SR.sub {cx:Cx}{E:Env}{s s2:AS}{a:Act}{w:World}(h:SR cx E s a w)(htm:s2.tm=s.tm)(hg:∀k x,s2.gat k=Ge x->s.gat k=Ge x)(hnx:s2.nx=s.nx)(hus:s2.us=s.us):SR cx E s2 a w/\Mut s s2 E E w w:=by
 refine⟨{h with
  fr:=λ t d hd=>h.fr t d (by rw[<-htm];exact hd)
  hp:=λ k g b hk=>h.hp k g b (AS.at_iff.2 (hg _ _ (AS.at_iff.1 hk)))
  lp:=λ k g b hk=>h.lp k g b (AS.lat_iff.2 (hg _ _ (AS.lat_iff.1 hk)))
  inj:=λ k k' g g' o o' hkk h1 h2=>h.inj k k' g g' o o' hkk (hg _ _ h1) (hg _ _ h2)
  low:=λ x ⟨k,g,o,hk,hx⟩=>h.low x ⟨k,g,o,hg _ _ hk,hx⟩
  nm:=λ g hg=>by rw[hnx,hus];exact h.nm g hg},⟨λ _ _ h _=>h,λ _ _ _=>rfl,λ x _ ⟨k,g,o,hk,hx⟩=>⟨k,g,o,hg _ _ hk,hx⟩⟩⟩
def vJ {cx:Cx}{E:Env}{a:Act}{w:World}{K:AS->Hn P->Prop}:∀(h:Hn P) (s:AS),SR cx E s a w->zP h s K->∃s2 h2,K s2 h2/\SR cx E s2 a w/\Mut s s2 E E w w/\s2.us=s.us:=by
 intro h
 induction h with
 |val t d d' p h ih=>
  intro s hs hv;subst p;obtain⟨h1,hv⟩:=hv;obtain⟨s2,h2,q1,q2,q3,q4⟩:=ih _ (hs.val h1) hv;exact⟨s2,h2,q1,q2,⟨q3.own,q3.heap,q3.old⟩,q4⟩
 |blk k g b b' p h ih=>
  intro s hs hv;subst p;obtain⟨h1,hv⟩:=hv;obtain⟨r1,r2⟩:=hs.sub (s2:={s with hp:=s.hp.set k (Ge (g,.b b))}) rfl (λ k' x hk=>by
   rcases XH hk with⟨rfl,e⟩|⟨_,hk⟩
   ·cases e;exact AS.at_iff.1 h1
   ·exact hk) rfl rfl
  obtain⟨s2,h2,q1,q2,q3,q4⟩:=ih _ r1 hv;exact⟨s2,h2,q1,q2,r2.trans q3 (Wl _),q4⟩
 |abs p=>exact p.elim
 |_=>intro s hs hv;exact⟨s,_,hv,hs,Mut.refl s E w,rfl⟩
def Be {xn:Nat}{K:AS->Hn P->Prop}:∀(h:Hn P) (s:AS),zP h s K->∃s2 h2,K s2 h2/\mz xn s s2:=by
 intro h
 induction h with
 |val t d d' p h ih=>
  intro s hv;subst p;obtain⟨h1,hv⟩:=hv;obtain⟨s2,h2,q1,q2⟩:=ih _ hv;exact⟨s2,h2,q1,mz.trans (λ cx E a w _ hs hu=>⟨E,hs.val h1,Stp.refl E w,⟨λ _ _ h _=>h,λ _ _ _=>rfl,λ _ _ h=>h⟩,hu⟩) q2⟩
 |blk k g b b' p h ih=>
  intro s hv;subst p;obtain⟨h1,hv⟩:=hv;obtain⟨s2,h2,q1,q2⟩:=ih _ hv;refine⟨s2,h2,q1,mz.trans (λ cx E a w _ hs hu=>?_) q2⟩;obtain⟨r1,r2⟩:=hs.sub (s2:={s with hp:=s.hp.set k (Ge (g,.b b))}) rfl (λ k' x hk=>by
   rcases XH hk with⟨rfl,e⟩|⟨_,hk⟩
   ·cases e;exact AS.at_iff.1 h1
   ·exact hk) rfl rfl
  exact⟨E,r1,Stp.refl E w,r2,hu⟩
 |abs p=>exact p.elim
 |_=>intro s hv;exact⟨s,_,hv,.refl s⟩
def tJ {xn:Nat}{K:AS->Hn P->Prop}:∀(h:Hn P) (s:AS),vH xn h s K->∃s2 h2,K s2 h2/\mz xn s s2:=by
 intro h
 induction h with
 |nils t k sz elem h ih=>
  intro s hv;obtain⟨h1,hv⟩:=hv;obtain⟨s2,h2,q1,q2⟩:=ih _ hv;exact⟨s2,h2,q1,(mz.nilS h1).trans q2⟩
 |nilc k0 g0 b j k sz elem h ih=>
  intro s hv;obtain⟨h1,h2,hv⟩:=hv;obtain⟨hc,hv⟩:=bC.1 hv;simp only[Wh,XX]at hc;obtain⟨⟨c1,c2⟩,c3⟩:=hc;obtain⟨s2,h3,q1,q2⟩:=ih _ hv;exact⟨s2,h3,q1,(mz.nilC h1 (λ e=>by subst e;simp at c1) c2 c3 h2).trans q2⟩
 |frz k g b k0 g0 b0 p h ih=>
  intro s hv;obtain⟨h1,h2,hv⟩:=hv;obtain⟨hc,hv⟩:=bC.1 hv;simp only[Wh,XX]at hc;obtain⟨c1,c3⟩:=hc;have e:=Wk c3;subst e;obtain⟨s2,h3,q1,q2⟩:=ih _ hv;exact⟨s2,h3,q1,(mz.frz h1 h2 (λ e=>by subst e;simp at c1) p).trans q2⟩
 |recv k t d d' p h ih=>
  intro s hv;subst p;obtain⟨q,hq,h1,hv⟩:=aQ.1 hv;obtain⟨s2,h2,q1,q2⟩:=ih _ hv;exact⟨s2,h2,q1,(mz.recS hq h1).trans q2⟩
 |abs p=>exact p.elim
 |_=>intro s hv;exact Be _ s hv
def n6 {cx:Cx}{E:Env}{a:Act}{w:World}{K:AS->Hn P->Prop}{h:Hn P}{s:AS}(hs:SR cx E s a w)(hv:JN h s K):∃s2 h2,K s2 h2/\SR cx E s2 a w/\Mut s s2 E E w w/\s2.us=s.us:=
 Hn.go_elim hv (λ h' hv=>⟨s,h',hv,hs,Mut.refl s E w,rfl⟩) λ h' hv=>vJ h' s hs hv

def tK {cx:Cx}{T:TT}{R:XC P}{F:Fence}{n kb:Nat}(hF:FOK F)(hT:T.ok P)(hR:Bb R){all:List Oper}{Q:Exit->Act->World->Prop}{K:AS->Hn P->Prop}:∀(l:List Oper) (i:Nat) (s:AS) (h:Hn P) (E:Env) (a:Act) (w:World),SR cx E s a w->(∀k∈s.us,k<i)->xL T R cx.nt kb all i l s h K->
  (∀s' h' E' a' w',K s' h'->SR cx E' s' a' w'->Stp E E' w w'->Mut s s' E E' w w'->(∀k∈s'.us,k<i+l.length)->Q .normal a' w')->wpListIn F n P all.toArray Q l a w
 |[],i,s,h,E,a,w,hs,hus,hv,hQ=>hQ s h E a w hv hs (Stp.refl E w) (Mut.refl s E w) (by simpa using hus)
 |o::r,i,s0,h0,E,a,w,hs0,hus0,hv,hQ=>by
  obtain⟨hd,hv⟩:=bC.1 hv;obtain⟨s,h,hv,hs,hmut0,hus1⟩:=n6 hs0 hv;have hus:∀k∈s.us,k<i:=by rw[hus1];exact hus0
  have hlen:i+(o::r).length=i+1+r.length:=by simp only[WQ];omega
  rw[hlen]at hQ;have hi:i∉s.us:=λ hh=>Nat.lt_irrefl _ (hus i hh)
  have hus':∀k∈i::s.us,k<i+1:=λ k hk=>by
   rcases List.mem_cons.1 hk with rfl|hk
   ·omega
   ·have:=hus k hk;omega
  have next:∀(s1:AS) (h1:Hn P) (E1:Env) (a1:Act) (w1:World),SR cx E1 s1 a1 w1->Stp E E1 w w1->Mut s s1 E E1 w w1->(∀k∈s1.us,k<i+1)->xL T R cx.nt kb all (i+1) r s1 h1 K->wpListIn F n P all.toArray Q r a1 w1:=λ s1 h1 E1 a1 w1 bB hst hmut hu1 hv1=>
   tK hF hT hR r (i+1) s1 h1 E1 a1 w1 bB hu1 hv1 λ s' h' E' a' w' hK hs' hst' hmut' hu'=>hQ s' h' E' a' w' hK hs' (hst.trans hst') ((hmut0.trans hmut (Wl _)).trans hmut' hst.size) hu'
  unfold xL.xLo at hv;unfold wpListIn
  cases hg:o.guard with
  |none=>
   rw[hg]at hv;simp only[YL,hg,if_true];exact pP hF hT hs hus hd (tI (G:=λ s'=>∃h',xL T R cx.nt kb all (i+1) r s' h' K) hR hv λ s' h' hx=>⟨h',hx⟩) λ s' E' a' w' ⟨h',hK⟩ hs' hst hmut hu'=>next s' h' E' a' w' hs' hst hmut hu' hK
  |some jw=>
   obtain⟨j,want⟩:=jw;rw[hg]at hv;dsimp only at hv
   split at hv
   case h_2=>exact hv.elim
   case h_1 t ht=>
   split at hv
   case h_3=>cases hv
   case h_2 hb=>
    have hy:=nV hs ht hb;simp only[YL,hg,hy];rw[ZE (by simp)];exact⟨λ f _=>hF.fn f,next _ h E _ w (cJ (s:={s with us:=i::s.us}) (hs.us i) hd (v:=Ge (.tup [])) nU) (Stp.refl E w) ⟨λ _ _ h _=>h,λ _ _ _=>rfl,λ _ _ h=>h⟩ hus' hv⟩
   case h_1 b hb=>
   have hy:=jO hs ht hb;simp only[YL,hg,hy];have run:∀c h,b=c->c=want->xO T R cx.nt kb i o {s with tm:=s.tm.set t (Ge (.v (.bool c)))} h (λ s' h'=>xL T R cx.nt kb all (i+1) r s' h' K)->(if(Ge b==Ge want)=Ga then o.wpIn F n P a w (wpListIn F n P all.toArray Q r) Q else(∀f,o.about P w a.eval=Ge f->F.fn f)/\wpListIn F n P all.toArray Q r (a.put o.dst undef) w):=λ c h hbc hcw hv=>by
    rw[ZF (by rw[hbc,hcw];simp)];exact pP hF hT (hs.know hb hbc) hus hd (tI (G:=λ s'=>∃h',xL T R cx.nt kb all (i+1) r s' h' K) hR hv λ s' h' hx=>⟨h',hx⟩) λ s' E' a' w' ⟨h',hK⟩ hs' hst hmut hu'=>next s' h' E' a' w' hs' hst ⟨hmut.own,hmut.heap,hmut.old⟩ hu' hK
   have skip:∀c h,b=c->c≠want->xL T R cx.nt kb all (i+1) r {s with tm:=dZ (s.tm.set t (Ge (.v (.bool c)))) o.dst (Ge (.tup [])),us:=i::s.us} h K->(if(Ge b==Ge want)=Ga then o.wpIn F n P a w (wpListIn F n P all.toArray Q r) Q else(∀f,o.about P w a.eval=Ge f->F.fn f)/\wpListIn F n P all.toArray Q r (a.put o.dst undef) w):=λ c h hbc hcw hv=>by
    rw[ZE (by rw[hbc];simpa using hcw)];exact⟨λ f _=>hF.fn f,next _ h E _ w (cJ (s:={s with tm:=s.tm.set t (Ge (.v (.bool c))),us:=i::s.us}) ((hs.know hb hbc).us i) hd (v:=Ge (.tup [])) nU) (Stp.refl E w) ⟨λ _ _ h _=>h,λ _ _ _=>rfl,λ _ _ h=>h⟩ hus' hv⟩
   cases b with
   |true=>
    refine Hn.go_elim hv (λ h1 hv=>?_) λ h1 hv=>?_
    ·have hv:=(ey.1 hv).1 rfl
     cases want with
     |true=>exact run Ga h1 rfl rfl hv
     |false=>exact skip Ga h1 rfl (by simp) hv
    ·split at hv
     ·obtain⟨_,hv⟩:=hv
      cases want with
      |true=>exact run Ga _ rfl rfl hv
      |false=>exact skip Ga _ rfl (by simp) hv
     ·rename_i b' p h2
      obtain⟨e,_⟩:=hv;rw[p]at e;cases e
     ·rename_i b' ht hf
      obtain⟨e,hv,_⟩:=hv;have hv:=hv e.symm
      cases want with
      |true=>exact run Ga _ rfl rfl hv
      |false=>exact skip Ga _ rfl (by simp) hv
     ·cases hv
   |false=>
    refine Hn.go_elim hv (λ h1 hv=>?_) λ h1 hv=>?_
    ·have hv:=(ey.1 hv).2 rfl
     cases want with
     |true=>exact skip Gd h1 rfl (by simp) hv
     |false=>exact run Gd h1 rfl rfl hv
    ·split at hv
     ·rename_i b' p h2
      obtain⟨e,_⟩:=hv;rw[p]at e;cases e
     ·obtain⟨_,hv⟩:=hv
      cases want with
      |true=>exact skip Gd _ rfl (by simp) hv
      |false=>exact run Gd _ rfl rfl hv
     ·rename_i b' ht hf
      obtain⟨e,_,hv⟩:=hv;have hv:=hv e.symm
      cases want with
      |true=>exact skip Gd _ rfl (by simp) hv
      |false=>exact run Gd _ rfl rfl hv
     ·cases hv

def M7 (K:AX->AS->Hn P->Prop)(s:AS)(h:Hn P):Option Code->Prop
 |none=>K .normal s h
 |some .ret=>K .ret s h
 |some (.exit id)=>K (.exit id) s h
 |_=>False
def JO (R:XC P)(rd:Bool)(nt xn kb:Nat)(c:Code):Nat->AS->Hn P->(AX->AS->Hn P->Prop)->Prop
 |0,_,_,_=>Need 8 ()
 |m+1,s,h,K=>R rd nt xn kb c s h λ e s' h'=>match e with
  | .normal=>JO R rd nt xn kb c m s' h' K
  |e=>K e s' h'
def n7 {R:XC P}(hR:Bb R){rd:Bool}{nt xn kb:Nat}{c:Code}{K:AX->AS->Hn P->Prop}:∀(m:Nat) (s:AS) (h:Hn P),JO R rd nt xn kb c m s h K->AWPr P rd nt xn c m s λ e s'=>∃h',K e s' h'
 |0,s,h,hv=>by cases hv
 |m+1,s,h,hv=>AWPr.step ((hR _ _ _ _ _ _ _ _ hv).ex λ e s' h' hv=>by
  cases e with
  |normal=>exact n7 hR m s' h' hv
  |exit id=>exact⟨h',hv⟩
  |ret=>exact⟨h',hv⟩)
def JP {α:Type}:List α->Bool
 |[]=>Ga
 |_=>Gd
def Bf (s:AS)(xn:Nat)(d:CutS)(X:Prop):Prop:=RS s (κE d.es) (γE d.es) d.tm/\RU s (κE d.es) (γE d.es) d.es/\ie (d.ok xn&&JP s.us) X
def ig {s:AS}{xn:Nat}{d:CutS}{X:Prop}(h:Bf s xn d X)(hr:ic d):CutE s xn d/\X:=by
 obtain⟨h1,h2,h3⟩:=h;obtain⟨h3,h4⟩:=bC.1 h3;rw[Wh]at h3;refine⟨⟨h1,h2,h3.1,hr,?_⟩,h4⟩
 cases hu:s.us with
 |nil=>rfl
 |cons x r=>rw[hu]at h3;cases h3.2

def SE (R:XC P)(m:Nat)(rd:Bool)(nt xn kb:Nat)(c:Code)(s:AS)(h:Hn P)(K:AX->AS->Hn P->Prop)(E:AS->Hn P->Prop):Prop:=
 h.goL (λ h'=>JO R rd nt xn kb c m s h' K) λ h'=>vH xn h' s λ s h'=>match h' with
  | .loop1 rd' nt' xn' c' d _ e1 s1 _ h2=>(rd,nt,xn)=(rd',nt',xn')/\c=c'/\Bf s xn d (K e1 s1 h2)
  | .loop2 rd' nt' xn' c' d _ e1 s1 e2 s2 _ h1 h2=>(rd,nt,xn)=(rd',nt',xn')/\c=c'/\Bf s xn d (K e1 s1 h1/\K e2 s2 h2)
  | .loopE rd' nt' xn' c' d _ es _ hs=>(rd,nt,xn)=(rd',nt',xn')/\c=c'/\Bf s xn d (tD es λ i x=>K (fF es i).e ((fF es i).S x).st (hs i x))
  | .two h1 _=>E s h1/\True
  |h'=>Need 12 (((rd,nt,xn),(c,s)),h')
def qg {R:XC P}(hR:Bb R){m:Nat}{rd:Bool}{nt xn kb:Nat}{c:Code}{s:AS}{h:Hn P}{K:AX->AS->Hn P->Prop}{E:AS->Hn P->Prop}(hE:∀s h,E s h->AWPl P rd nt xn c s λ e s'=>∃h',K e s' h')(hv:SE R m rd nt xn kb c s h K E):AWPl P rd nt xn c s λ e s'=>∃h',K e s' h':=by
 refine Hn.goL_elim hv (λ h1 hv=>?_) λ h1 hv=>?_
 ·exact AWPl.rounds (n7 hR m s h1 hv)
 ·obtain⟨s2,h2',hv,hret⟩:=tJ _ _ hv
  refine AWPl.ret hret ?_
  split at hv
  ·rename_i rd' nt' xn' c' d rows e1 s1 hl h2
   obtain⟨he,rfl,hv⟩:=hv
   cases he
   obtain⟨hc,hv⟩:=ig hv rows;refine AWPl.cutStart hc (hl.mono λ e s' ⟨q1,q2⟩=>?_);subst q1 q2;exact⟨_,hv⟩
  ·rename_i rd' nt' xn' c' d rows e1 s1 e2 s2 hl h1' h2
   obtain⟨he,rfl,hv⟩:=hv
   cases he
   obtain⟨hc,hv1,hv2⟩:=ig hv rows;refine AWPl.cutStart hc (hl.mono λ e s' hq=>?_);rcases hq with⟨q1,q2⟩|⟨q1,q2⟩
   ·subst q1 q2;exact⟨_,hv1⟩
   ·subst q1 q2;exact⟨_,hv2⟩
  ·rename_i rd' nt' xn' c' d rows es hl hs'
   obtain⟨he,rfl,hv⟩:=hv
   cases he
   obtain⟨hc,hv⟩:=ig hv rows;exact AWPl.cutStart hc (hl.mono λ e s' hq=>tF (G:=λ e s'=>∃h',K e s' h') hv (λ i x hx=>⟨_,hx⟩) hq)
  ·exact hE _ _ hv.1
  ·cases hv
section
variable {F:Fence} {n:Nat} {P:Program} {b:Frame} {a:Act} {k:List Item} {cs:List Frame} {w:World} {Q:Exit->Act->World->Prop}
def dQ {c:Code}:step P (lone (b.atR a (.code (.scope c)::k)) cs w)= .next (lone (b.atR a (.code c:: .inScope c::k)) cs w):=
 step_lone_go (by simp[stepG,stepG.exec,Frame.atR])
def pt {c:Code}:step P (lone (b.atR a (.inScope c::k)) cs w)= .next (lone (b.atR a k) cs w):=
 step_lone_go (by simp[stepG,stepG.exec,Frame.atR])
def JQ (Q:Exit->Act->World->Prop):Exit->Act->World->Prop
 | .goto _,_,_=>False
 |e,a,w=>Q e a w
def vK {c:Code}(h:c.wpIn F n P (JQ Q) a w):(Code.scope c).wpIn F n P Q a w:=by
 intro b k cs hro hb hr;have h0:(lone (b.atR a (.code (.scope c)::k)) cs w).fenced P F:=fenced_calm hb hr rfl;obtain⟨e,a₁,w₁,hq,harr⟩:=h b (.inScope c::k) cs hro hb hr
 cases e with
 |normal=>exact⟨.normal,a₁,w₁,hq,.head h0 dQ (StepsIn.trans harr (.one (fenced_calm hb hr rfl) pt))⟩
 |exit id=>
  have hx:exitTo id (.inScope c::k)=exitTo id k:=by simp[exitTo]
  exact⟨.exit id,a₁,w₁,hq,λ k' hk=>.head h0 dQ (harr.1 k' (by rw[hx];exact hk)),
   λ hr' hk=>let⟨k₁,h1,h2⟩:=harr.2 hr' (by rw[hx];exact hk);⟨k₁,h1,.head h0 dQ h2⟩⟩
 |goto l=>exact hq.elim
 |ret=>exact⟨_,a₁,w₁,hq,.of_steps (.one h0 dQ) harr⟩
 |panic ch=>exact⟨_,a₁,w₁,hq,.of_steps (.one h0 dQ) harr⟩
 |outgrown=>exact⟨_,a₁,w₁,hq,.of_steps (.one h0 dQ) harr⟩
end
def xC (P:Program)(T:TT):Nat->XC P
 |0,_,_,_,_,_,_,_,_=>Need 8 ()
 |f+1,rd,nt,xn,kb,code,s,h,K=>bif h.isAbs then True else match code with
  | .skip=>K .normal s h
  | .region _ ops d=>bif d then ie (AU (JK ops.toList []) 0 ops.toList) (JN h s λ s h=>xD T nt kb ops.toList (JK ops.toList []) 0 ops.toList s [] h λ s' h'=>vG (s'.nx+8*ops.size) λ nx=>K .normal {tm:=s'.tm,hp:=s'.hp,nx:=nx,us:=[]} h')
   else xL T (xC P T f) nt kb ops.toList 0 ops.toList s h λ s' h'=>vG (s'.nx+8*ops.size) λ nx=>K .normal {tm:=s'.tm,hp:=s'.hp,nx:=nx,us:=[]} h'
  | .seq x y=>xC P T f rd nt xn kb x s h λ e s' h'=>match e with
   | .normal=>xC P T f rd nt xn kb y s' h' K
   |e=>K e s' h'
  | .cond c x y=>match eG s c with
   |some (.v (.bool b))=>h.go (λ h'=>qf b (xC P T f rd nt xn kb x (gD s c Ga) h' K) (xC P T f rd nt xn kb y (gD s c Gd) h' K)) λ h'=>match h' with
    | .t b' _ h2=>b=b'/\xC P T f rd nt xn kb x (gD s c Ga) h2 K
    | .f b' _ h2=>b=b'/\xC P T f rd nt xn kb y (gD s c Gd) h2 K
    | .br b' ht hf=>b=b'/\(∀p,xC P T f rd nt xn kb x (gD s c Ga) (ht p) K)/\∀p,xC P T f rd nt xn kb y (gD s c Gd) (hf p) K
    |_=>Need 9 b
   |_=>Need 10 c
  | .block id c=>xC P T f rd nt xn kb c s h λ e s' h'=>match e with
   | .exit id'=>bif V9 id' id then K .normal s' h' else K (.exit id') s' h'
   |e=>K e s' h'
  | .exit id=>K (.exit id) s h
  | .ret=>K .ret s h
  | .rangeFunc g ps assign body=>ie (!rd) (match eG s g with
   |some (.fn (.func f') fi ca)=>Vb T (xC P T f) f' (fi++[.yl s.nx s.nx]++ca) (s.nx+8) (s.nx+8) (kb+8*(nt+2)) (s.hp.set s.nx (Ge (s.nx,.l {st:=.ready,pend:=z9,params:=ps,assign:=assign,body:=body,nt:=nt,tm:=s.tm}))) h λ _ s' h'=>
    recP s' s.nx s.nx (λ r=>!vA r.st) (λ r=>{r with st:=.exhausted}) λ r s2=>M7 K {tm:=s.tm,hp:=s2.hp,nx:=s2.nx,us:=[]} h' r.pend
   |_=>Need 11 g)
  | .loop c=>SE (xC P T f) f rd nt xn kb c s h K λ s h1=>xC P T f rd nt xn kb c s h1 λ e s' h'=>match e with
   | .normal=>SE (xC P T f) f rd nt xn kb c s' h' K λ s h'=>Need 8 (s,h')
   |e=>K e s' h'
  | .scope c=>xC P T f rd nt xn kb c s h K
  | .label _=>K .normal s h
  |_=>Need 13 h

def n8 {T:TT}(hT:T.ok P)(hfol:P.follows .mixedOrders=Ga):∀f,Bb (xC P T f)
 |0=>λ rd nt xn kb c s h K hv=>by cases hv
 |f+1=>λ rd nt xn kb code s h K hv=>by
  have ih:=n8 hT hfol f;unfold xC at hv;rw[Hn.isAbs_no,cond_false]at hv
  cases code with
  |skip=>exact⟨λ F n cx E a w Q hF hro hn hu hs hQ=>wpIn_skip (hQ .normal s E a w ⟨h,hv⟩ hu hs ((Stp.refl E w).x _) (Mut.refl s E w))⟩
  |exit id=>exact⟨λ F n cx E a w Q hF hro hn hu hs hQ=>wpIn_exit (hQ (.exit id) s E a w ⟨h,hv⟩ hu hs ((Stp.refl E w).x _) (Mut.refl s E w))⟩
  |label l=>exact⟨λ F n cx E a w Q hF hro hn hu hs hQ=>wpIn_label (hQ .normal s E a w ⟨h,hv⟩ hu hs ((Stp.refl E w).x _) (Mut.refl s E w))⟩
  |scope c=>
   refine⟨λ F n cx E a w Q hF hro hn hu hs hQ=>vK ((ih _ _ _ _ _ _ _ _ hv).run F n cx E a w _ hF hro hn hu hs λ e s' E' a' w' ⟨h',hK⟩ hu' hs' hst hmut=>?_)⟩
   cases e with
   |normal=>exact hQ .normal s' E' a' w' ⟨h',hK⟩ hu' hs' hst hmut
   |exit id=>exact hQ (.exit id) s' E' a' w' ⟨h',hK⟩ hu' hs' hst hmut
   |ret=>exact hQ .ret s' E' a' w' ⟨h',hK⟩ hu' hs' hst hmut
  |ret=>exact⟨λ F n cx E a w Q hF hro hn hu hs hQ=>wpIn_ret (hQ .ret s E a w ⟨h,hv⟩ hu hs ((Stp.refl E w).x _) (Mut.refl s E w))⟩
  |region id ops d=>
   cases d with
   |true=>
    obtain⟨hpr,hv⟩:=bC.1 hv;refine⟨λ F n cx E a w Q hF hro hn hu hs hQ=>?_⟩;obtain⟨s2,h2,hv,gu,hmut,hus⟩:=n6 hs hv;have hd:=iT _ _ _ _ _ hv;have hu2:s2.us=[]:=by rw[hus];exact hu
    refine(AWP.draw (rd:=rd) (nt:=nt) (kb:=kb) (xn:=xn) (id:=id) (ops:=ops) (K:=λ e s'=>∃h',K e s' h') hT hfol _ hpr ?_).run F n cx E a w Q hF hro hn hu2 gu λ e s' E' a' w' hK hu' hs' hst hmut'=>hQ e s' E' a' w' hK hu' hs' hst (hmut.trans hmut' (Wl _))
    exact fG _ _ _ _ hd λ s' ⟨h',hK⟩=>⟨h',nZ.1 hK⟩
   |false=>
    refine⟨λ F n cx E a w Q hF hro hn hu hs hQ=>?_⟩;subst hn;refine wpIn_region_list (tK (n:=n) hF hT ih ops.toList 0 s h E a w hs (by rw[hu];intro k hk;cases hk) hv λ s' h' E' a' w' hK hs' hst hmut hus=>?_);have hK:=nZ.1 hK;exact hQ .normal _ E' a' w' ⟨h',hK⟩ rfl (hs'.fin (by simpa using hus)) (hst.x _) ⟨hmut.own,hmut.heap,hmut.old⟩
  |seq x y=>
   refine⟨λ F n cx E a w Q hF hro hn hu hs hQ=>?_⟩;refine wpIn_seq ((ih _ _ _ _ _ _ _ _ hv).run F n cx E a w _ hF hro hn hu hs λ e s' E' a' w' ⟨h',hK⟩ hu' hs' hst hmut=>?_)
   cases e with
   |normal=>exact(ih _ _ _ _ _ _ _ _ hK).run F n cx E' a' w' Q hF hro hn hu' hs' λ e s2 E2 a2 w2 hK2 hu2 gu hst2 hmut2=>hQ e s2 E2 a2 w2 hK2 hu2 gu (hst.trans hst2) (hmut.trans hmut2 hst.size)
   |exit id=>exact hQ (.exit id) s' E' a' w' ⟨h',hK⟩ hu' hs' hst hmut
   |ret=>exact hQ .ret s' E' a' w' ⟨h',hK⟩ hu' hs' hst hmut
  |cond c x y=>
   dsimp only at hv
   split at hv
   case h_2=>cases hv
   case h_1 b hc=>
   have key:(b=Ga->∃h2,xC P T f rd nt xn kb x (gD s c Ga) h2 K)/\(b=Gd->∃h2,xC P T f rd nt xn kb y (gD s c Gd) h2 K):=by
    refine Hn.go_elim hv (λ h1 hv=>?_) λ h1 hv=>?_
    ·exact⟨λ hb=>⟨h1,(ey.1 hv).1 hb⟩,λ hb=>⟨h1,(ey.1 hv).2 hb⟩⟩
    ·split at hv
     ·rename_i b' p h2
      obtain⟨e,hv⟩:=hv;exact⟨λ _=>⟨_,hv⟩,λ hb=>by rw[hb,p]at e;cases e⟩
     ·rename_i b' p h2
      obtain⟨e,hv⟩:=hv;exact⟨λ hb=>(by rw[hb,p]at e;cases e),λ _=>⟨_,hv⟩⟩
     ·rename_i b' ht hf
      obtain⟨e,hv1,hv2⟩:=hv;exact⟨λ hb=>⟨_,hv1 (e.symm.trans hb)⟩,λ hb=>⟨_,hv2 (e.symm.trans hb)⟩⟩
     ·cases hv
   refine⟨λ F n cx E a w Q hF hro hn hu hs hQ=>?_⟩;have hr:=hs.eval hc;generalize huc:a.eval c=uc at hr
   cases hr
   refine wpIn_cond huc ?_
   cases b with
   |true=>
    obtain⟨h2,hx⟩:=key.1 rfl;exact(ih _ _ _ _ _ _ _ _ hx).run F n cx E a w Q hF hro hn (by rw[(rc _ _ _).1];exact hu) (hs.know' hc) λ e s2 E2 a2 w2 hK2 hu2 gu hst2 hmut2=>hQ e s2 E2 a2 w2 hK2 hu2 gu hst2 hmut2.know
   |false=>
    obtain⟨h2,hx⟩:=key.2 rfl;exact(ih _ _ _ _ _ _ _ _ hx).run F n cx E a w Q hF hro hn (by rw[(rc _ _ _).1];exact hu) (hs.know' hc) λ e s2 E2 a2 w2 hK2 hu2 gu hst2 hmut2=>hQ e s2 E2 a2 w2 hK2 hu2 gu hst2 hmut2.know
  |block id c=>
   refine⟨λ F n cx E a w Q hF hro hn hu hs hQ=>?_⟩;refine wpIn_block ((ih _ _ _ _ _ _ _ _ hv).run F n cx E a w _ hF hro hn hu hs λ e s' E' a' w' ⟨h',hK⟩ hu' hs' hst hmut=>?_)
   cases e with
   |normal=>exact hQ .normal s' E' a' w' ⟨h',hK⟩ hu' hs' hst hmut
   |ret=>exact hQ .ret s' E' a' w' ⟨h',hK⟩ hu' hs' hst hmut
   |exit id'=>
    simp only[AX.ex,Exit.inBlock];dsimp only at hK
    split
    ·rename_i e;subst e;simp only[Xk,cond_true]at hK;exact hQ .normal s' E' a' w' ⟨h',hK⟩ hu' hs' hst hmut
    ·rename_i e
     have:V9 id' id=false:=by
      cases hb:V9 id' id with
      |false=>rfl
      |true=>exact absurd (Wk hb) e
     rw[this]at hK;exact hQ (.exit id') s' E' a' w' ⟨h',hK⟩ hu' hs' hst hmut
  |rangeFunc g ps assign body=>
   obtain⟨h0,h1⟩:=bC.1 hv
   cases rd with
   |true=>cases h0
   |false=>
    split at h1
    case h_2=>cases h1
    case h_1 f' fi ca hg=>
    obtain⟨fn,hf,h1⟩:=aQ.1 h1;obtain⟨c,hb,h1⟩:=aQ.1 h1;obtain⟨hn,h1⟩:=bC.1 h1;refine AWP.range hT hg ⟨s.nx,fn,c,fn.results.toList,hf,hb,rfl,by simpa using hn,?_⟩;refine(ih _ _ _ _ _ _ _ _ h1).ex λ e s' h2 hv=>?_
    obtain⟨he,hv⟩:=bC.1 hv;refine⟨lc he,fH (kq hv) λ l ⟨_,hl⟩=>lf hl λ r s2 hx=>?_⟩
    cases hp:r.pend with
    |none=>rw[hp]at hx;exact⟨_,hx⟩
    |some c=>
     rw[hp]at hx
     cases c with
     |ret=>exact⟨_,hx⟩
     |exit id=>exact⟨_,hx⟩
     |_=>exact hx.elim
  |loop c=>
   refine(qg ih (λ s h hv=>AWPl.peel ((ih _ _ _ _ _ _ _ _ hv).mono λ e s' ⟨h',hv⟩=>?_)) hv).awp
   cases e with
   |normal=>exact qg ih (λ s h hv=>by cases hv) hv
   |exit id=>exact⟨h',hv⟩
   |ret=>exact⟨h',hv⟩
  |_=>cases hv
end
def RW (κ γ:Nat->Nat):List (Nat×D)->Prop
 |[]=>True
 |p::r=>Ge (db κ γ p.2)=Ge (db κ γ p.2)/\RW κ γ r
def lg (κ γ:Nat->Nat):∀l,RW κ γ l
 |[]=>trivial
 |_::r=>⟨rfl,lg κ γ r⟩
def Vc (κ γ:Nat->Nat)(e:Ent):Prop:=
 match e.o with
 | .b x=>Ge (e.g,cb κ γ x)=Ge (e.g,cb κ γ x)
 | .c x=>Ge (e.g,x)=Ge (e.g,x)
 | .r x=>Ge (e.g,x)=Ge (e.g,x)
 | .l st pend params assign body nt tm=>(e.g,st,pend,params,assign,body,nt)=(e.g,st,pend,params,assign,body,nt)/\RW κ γ tm
def SF (κ γ:Nat->Nat):rz->Prop
 |[]=>True
 |e::r=>Vc κ γ e/\SF κ γ r
def n9 (κ γ:Nat->Nat):∀l,SF κ γ l
 |[]=>trivial
 |e::r=>⟨by unfold Vc;split<;>first|rfl|exact⟨rfl,lg κ γ _⟩,n9 κ γ r⟩
def E6 (d:CutS)(X:Prop):Prop:=RW (κE d.es) (γE d.es) d.tm/\SF (κE d.es) (γE d.es) d.es/\X
def JR (κ γ:Nat->Nat):Gw->lM->Prop
 |g::gs,b::bs=>Ge (g,cb κ γ b)=Ge (g,cb κ γ b)/\JR κ γ gs bs
 |_,_=>True
def xj (κ γ:Nat->Nat):∀gs bs,JR κ γ gs bs
 |g::gs,b::bs=>⟨rfl,xj κ γ gs bs⟩
 |[],_=>trivial
 |_::_,[]=>trivial
def JS (s:AS)(κ γ:Nat->Nat):Gw->Gw->lM->Prop
 |k::ks,g::gs,b::bs=>s.at k=Ge (g,cb κ γ b)/\JS s κ γ ks gs bs
 |_,_,_=>True

def qh:∀(es:ua) (F:(i:Nat)->(fF es i).κ->Prop),(∀i x,F i x)->tD es F
 |[],_,_=>trivial
 |_::r,F,h=>⟨λ x=>h 0 x,qh r (λ i x=>F (i+1) x) λ i x=>h (i+1) x⟩
section
variable {P:Program}
def Hn.T:Hn P->Prop
 | .nil=>True
 | .s _ h=>h.T
 | .chk b _ h=>b=b/\h.T
 | .t b _ h=>b=b/\h.T
 | .f b _ h=>b=b/\h.T
 | .br b ht hf=>b=b/\(∀p,(ht p).T)/\∀p,(hf p).T
 | .opt o _ _ h=>o=o/\h.T
 | .byt cs _ _ h=>cs=cs/\h.T
 | .lst cs _ _ h=>cs=cs/\h.T
 | .two a b=>a.T/\b.T
 | .stab l h=>l.map (λ c=>(c,c))=l.map (λ c=>(c,c))/\h.T
 | .abs _=>True
 | .val _ d _ _ h=>Ge d=Ge d/\h.T
 | .blk _ g b _ _ h=>Ge (g,b)=Ge (g,b)/\h.T
 | .em _ ht hf=>(∀p,(ht p).T)/\∀p,(hf p).T
 | .recv _ _ d _ _ h=>Ge d=Ge d/\h.T
 | .nils _ _ _ _ h=>Ge jF=Ge jF/\h.T
 | .nilc _ g0 b _ _ _ _ h=>Ge (g0,b)=Ge (g0,b)/\Ge jF=Ge jF/\h.T
 | .frz _ g b _ g0 b0 _ h=>Ge (g,b)=Ge (g,b)/\Ge (g0,b0)=Ge (g0,b0)/\h.T
 | .call f0 _ _ b1 _ q _ _ b2 _ hin _ _ _ h=>f0=f0/\Ge (b1,q)=Ge (b1,q)/\Ge (b2,hin)=Ge (b2,hin)/\h.T
 | .loop1 rd nt xn c d _ _ _ _ h=>(rd,nt,xn)=(rd,nt,xn)/\c=c/\E6 d h.T
 | .loop2 rd nt xn c d _ _ _ _ _ _ h1 h2=>(rd,nt,xn)=(rd,nt,xn)/\c=c/\E6 d (h1.T/\h2.T)
 | .loopE rd nt xn c d _ es _ hs=>(rd,nt,xn)=(rd,nt,xn)/\c=c/\E6 d (tD es λ i x=>(hs i x).T)
 | .cut e d _ Q _=>e=e/\E6 d (Q=Q)
 | .out ks gs r bs R _=>qR (λ j=>ks.getD j 0) (λ j=>gs.getD j 0) bs r=qR (λ j=>ks.getD j 0) (λ j=>gs.getD j 0) bs r/\JR (λ j=>ks.getD j 0) (λ j=>gs.getD j 0) gs bs/\R=R
def Hn.T_ok:∀h:Hn P,h.T
 | .nil=>trivial
 | .s _ h=>h.T_ok
 | .chk _ _ h=>⟨rfl,h.T_ok⟩
 | .t _ _ h=>⟨rfl,h.T_ok⟩
 | .f _ _ h=>⟨rfl,h.T_ok⟩
 | .br _ ht hf=>⟨rfl,λ p=>(ht p).T_ok,λ p=>(hf p).T_ok⟩
 | .opt _ _ _ h=>⟨rfl,h.T_ok⟩
 | .byt _ _ _ h=>⟨rfl,h.T_ok⟩
 | .lst _ _ _ h=>⟨rfl,h.T_ok⟩
 | .two a b=>⟨a.T_ok,b.T_ok⟩
 | .stab _ h=>⟨rfl,h.T_ok⟩
 | .abs _=>trivial
 | .val _ _ _ _ h=>⟨rfl,h.T_ok⟩
 | .blk _ _ _ _ _ h=>⟨rfl,h.T_ok⟩
 | .em _ ht hf=>⟨λ p=>(ht p).T_ok,λ p=>(hf p).T_ok⟩
 | .recv _ _ _ _ _ h=>⟨rfl,h.T_ok⟩
 | .nils _ _ _ _ h=>⟨rfl,h.T_ok⟩
 | .nilc _ _ _ _ _ _ _ h=>⟨rfl,rfl,h.T_ok⟩
 | .frz _ _ _ _ _ _ _ h=>⟨rfl,rfl,h.T_ok⟩
 | .call _ _ _ _ _ _ _ _ _ _ _ _ _ _ h=>⟨rfl,rfl,rfl,h.T_ok⟩
 | .loop1 _ _ _ _ d _ _ _ _ h=>⟨rfl,rfl,lg _ _ _,n9 _ _ _,h.T_ok⟩
 | .loop2 _ _ _ _ d _ _ _ _ _ _ h1 h2=>⟨rfl,rfl,lg _ _ _,n9 _ _ _,h1.T_ok,h2.T_ok⟩
 | .loopE _ _ _ _ d _ es _ hs=>⟨rfl,rfl,lg _ _ _,n9 _ _ _,qh es _ λ i x=>(hs i x).T_ok⟩
 | .cut _ d _ _ _=>⟨rfl,lg _ _ _,n9 _ _ _,rfl⟩
 | .out _ _ _ _ _ _=>⟨rfl,xj _ _ _ _,rfl⟩

def cutK (xn:Nat)(Q:AX->AS->Prop)(e:AX)(s:AS)(h:Hn P):Prop:=
 h.go (λ h'=>Need 21 (e,s,h')) λ h'=>vH xn h' s λ s h=>match h with
  | .cut e' d _ Q' _=>e=e'/\Bf s xn d (Q=Q')
  |h'=>Need 21 (e,s,h')
def vL {xn:Nat}{Q:AX->AS->Prop}{e:AX}{s:AS}{h:Hn P}(hv:cutK xn Q e s h):∃(s2:AS) (d:CutS),mz xn s s2/\CutE s2 xn d/\Q e d.st:=by
 refine Hn.go_elim hv (λ h' hv=>by cases hv) λ h' hv=>?_
 obtain⟨s2,h2,hv,hs⟩:=tJ _ _ hv
 split at hv
 ·rename_i e' d rows Q' p
  obtain⟨rfl,hv⟩:=hv;obtain⟨hc,rfl⟩:=ig hv rows;exact⟨s2,d,hs,hc,p⟩
 ·cases hv

def SG (T:TT)(rs:List ResultVar)(al:Bool)(m n:Nat)(R:D->lM->Prop)(e:AX)(s:AS)(h:Hn P):Prop:=
 ie (Bc e) (Bd T s rs h λ l h=>h.go (λ h'=>Need 22 h') λ h'=>match h' with
  | .out ks gs r bs R' _=>tl l=qR (λ j=>ks.getD j 0) (λ j=>gs.getD j 0) bs r/\JS s (λ j=>ks.getD j 0) (λ j=>gs.getD j 0) ks gs bs/\ie (fC ks&&jp 0 m gs&&V9 bs.length n&&V9 ks.length n&&V9 gs.length n) (R=R')
  | .abs _=>True
  |_=>Need 23 (s,l))
def vM (al:Bool)(n:Nat):lM->Prop
 |[]=>True
 |b::r=>xh al n b=Ga/\vM al n r

def qi {al:Bool}{n:Nat}{κ γ:Nat->Nat}{s:AS}:∀{ks gs:Gw} {bs:lM},ks.length=bs.length->gs.length=bs.length->JS s κ γ ks gs bs->vM al n bs->EX al n κ γ s ks gs bs
 |[],[],[],_,_,_,_=>trivial
 |k::ks,g::gs,b::bs,h1,h2,h3,h4=>⟨h3.1,h4.1,qi (by simpa using h1) (by simpa using h2) h3.2 h4.2⟩
 |[],_::_,_,h1,h2,_,_=>by simp only[Yi,WQ]at h1 h2;omega
 |_::_,[],_,h1,h2,_,_=>by simp only[Yi,WQ]at h1 h2;omega
 |[],[],_::_,h1,_,_,_=>by simp at h1
 |_::_,_::_,[],h1,_,_,_=>by simp at h1

mutual
def oa {al:Bool}{κ γ:Nat->Nat}:∀(d:D),my al 0 d=Ga->db κ γ d=d
 | .v _,_=>rfl
 | .sl _ _ _ _,_=>rfl
 | .ep _ _,_=>rfl
 | .agg cs,h=>congrArg W6 (gE cs h)
 | .tup cs,h=>congrArg Xm (gE cs h)
 | .ifc t x,h=>congrArg (D.ifc t) (oa x h)
 | .fn f fi ca,h=>by
  have h:(ej al 0 fi&&ej al 0 ca)=true:=h;rw[Wh]at h;show D.fn f (fB κ γ fi) (fB κ γ ca)=_;rw[gE fi h.1,gE ca h.2]
 | .ref _ g _ _ _,h=>absurd (Wm h) (aae g)
 | .ptr _ g _,h=>absurd (Wm h) (aae g)
 | .yl _ g,h=>absurd (Wm h) (aae g)
def gE {al:Bool}{κ γ:Nat->Nat}:∀(l:GA),ej al 0 l=Ga->fB κ γ l=l
 |[],_=>rfl
 |d::r,h=>by
  have h:(my al 0 d&&ej al 0 r)=true:=h;rw[Wh]at h;show db κ γ d::fB κ γ r=_;rw[oa d h.1,gE r h.2]
end
def zT {al:Bool}{κ γ:Nat->Nat}{bs:lM}{r:D}(h:my al bs.length r=Ga):qR κ γ bs r=db κ γ r:=by
 cases bs with
 |nil=>exact(oa r h).symm
 |cons _ _=>rfl
mutual
def Bg {al:Bool}{n:Nat}:∀(d:D),d.pl=Ga->my al n d=Ga
 | .v _,_=>rfl
 | .agg cs,h=>xk cs h
 | .ifc _ x,h=>Bg x h
 | .sl ..,h=>by cases h
 | .ep ..,h=>by cases h
 | .tup ..,h=>by cases h
 | .fn ..,h=>by cases h
 | .ref ..,h=>by cases h
 | .ptr ..,h=>by cases h
 | .yl ..,h=>by cases h
def xk {al:Bool}{n:Nat}:∀(l:GA),xg l=Ga->ej al n l=Ga
 |[],_=>rfl
 |d::r,h=>by
  have h:(d.pl&&xg r)=true:=h;rw[Wh]at h;show(my al n d&&ej al n r)=Ga;rw[Bg d h.1,xk r h.2];rfl
end
def rh {α:Type}(f:α->D)(h:∀x,(f x).pl=Ga)(xs:List α):xg (xs.map f)=true:=jo.2 λ d hd=>by
 obtain⟨x,_,rfl⟩:=List.mem_map.1 hd;exact h x
def SpecH.run {al:Bool}{T:TT}(hT:T.ok P)(hfol:P.follows .mixedOrders=Ga){f:FuncId}{fn:Func}{c:Code}{rs:List ResultVar}{ds:GA}{hin:lM}{r:D}{bs:lM}(hf:P.funcs[f]? =Ge fn)(hb:fn.body=Ge c)(hrs:fn.results=⟨rs⟩)
  (hle:Wf hin.length bs.length=Ga) (hok:vM al bs.length bs) (hro:my al bs.length r=Ga) (fuel kb:Nat) (h0:∀R:D->lM->Prop,(∀r' bs',r'=r->bs'=bs->R r' bs')->Hn P)
  (hE:xC P T fuel Gd fn.ntmps hin.length kb c (s0 ds hin) (h0 (λ r' bs'=>r'=r/\bs'=bs) λ _ _ h1 h2=>⟨h1,h2⟩) (SG T rs al hin.length bs.length λ r' bs'=>r'=r/\bs'=bs)=(h0 (λ r' bs'=>r'=r/\bs'=bs) λ _ _ h1 h2=>⟨h1,h2⟩).T):SpecH al P f ds hin r bs:=by
 obtain⟨h,hh⟩:∃h,h=h0 (λ r' bs'=>r'=r/\bs'=bs) λ _ _ h1 h2=>⟨h1,h2⟩:=⟨_,rfl⟩
 rw[<-hh]at hE;clear hh h0;refine SpecH.of hT hf hb hrs hle ((n8 hT hfol fuel _ _ _ _ _ _ _ _ (hE.mpr h.T_ok)).ex λ e s' h' hv=>?_);obtain⟨he,hv⟩:=bC.1 hv;refine⟨lc he,fH (kq hv) λ l ⟨_,hv⟩=>?_⟩;refine Hn.go_elim hv (λ h' hv=>by cases hv) λ h' hv=>?_
 split at hv
 ·rename_i ks gs r' bs' R' p
  obtain⟨h1,h2,h3⟩:=hv;obtain⟨q3,q4⟩:=bC.1 h3;clear h3;subst q4;obtain⟨rfl,rfl⟩:=p;simp only[Wh]at q3;obtain⟨⟨⟨⟨a1,a2⟩,a4⟩,a5⟩,a6⟩:=q3;have a5:=Wk a5;have a6:=Wk a6;exact⟨ks,gs,qi a5 a6 h2 hok,a1,a2,(zT hro).symm.trans h1.symm,hro⟩
 ·rename_i p;exact p.elim
 ·cases hv

def kt (K:AX->AS->Prop):AX->AS->Prop
 | .normal,_=>False
 |e,s=>K e s
def AWPl.runLoop {T:TT}(hT:T.ok P)(hfol:P.follows .mixedOrders=Ga){rd:Bool}{nt xn:Nat}{c:Code}{K:AX->AS->Prop}{ι:Type}(S:ι->CutS)(μ:ι->Nat)(fuel kb:Nat)(h0:∀(i:ι) (Q:AX->AS->Prop),(∀i',μ i'<μ i->Q .normal (S i').st)->(∀e s,kt K e s->Q e s)->Hn P)
  (hE:∀i,xC P T fuel rd nt xn kb c (S i).st (h0 i (λ e s'=>(e= .normal/\∃i',s'=(S i').st/\μ i'<μ i)\/kt K e s') (λ i' hm=>.inl ⟨rfl,i',rfl,hm⟩) λ _ _ hk=>.inr hk) (cutK xn λ e s'=>(e= .normal/\∃i',s'=(S i').st/\μ i'<μ i)\/kt K e s')=
   (h0 i (λ e s'=>(e= .normal/\∃i',s'=(S i').st/\μ i'<μ i)\/kt K e s') (λ i' hm=>.inl ⟨rfl,i',rfl,hm⟩) λ _ _ hk=>.inr hk).T) (i0:ι):AWPl P rd nt xn c (S i0).st K:=
 AWPl.loopI (λ i=>(S i).st) (λ _=>rfl) μ (λ i=>(AWP.cutEndR (Q:=λ e s'=>(e= .normal/\∃i',s'=(S i').st/\μ i'<μ i)\/kt K e s') ((n8 hT hfol fuel _ _ _ _ _ _ _ _ ((hE i).mpr (Hn.T_ok _))).ex λ e s' h' hv=>vL hv)).mono λ e s' hq=>by
  cases e with
  |normal=>
   rcases hq with⟨_,hq⟩|hq
   ·exact hq
   ·exact hq.elim
  |exit id=>
   rcases hq with⟨hq,_⟩|hq
   ·cases hq
   ·exact hq
  |ret=>
   rcases hq with⟨hq,_⟩|hq
   ·cases hq
   ·exact hq) i0
end
def eH:Code->List Code
 | .seq x y=>eH x++eH y
 | .cond _ x y=>eH x++eH y
 | .block _ c=>eH c
 | .scope c=>eH c
 | .loop c=>c::eH c
 | .rangeFunc _ _ a b=>eH a++eH b
 |_=>[]
def aj {α:Type}{f:α->D}(xs:List α){e:Nat}(d:α)(h:e<xs.length):(xs.map f)[e]? =Ge (f (xs.getD e d)):=by
 rw[WB,Wa h,Wd,Wa h];rfl
def SH (cells:GA)(a b:Nat):dv cells a b=(cells.drop a).take b:=gz ..
def fv {x:Int}(h:-9223372036854775808<=x/\x<=9223372036854775807):au .i64 x=Ge (.v (.int .i64 x)):=by rw[aD,IntWalk.i64_in x h]
def gF {x:Int}(h:0<=x/\x<=255):au .u8 x=Ge (.v (.int .u8 x)):=by rw[aD,IntWalk.u8_in x h]
def ax {x:Int}(h:0<=x/\x<=4294967295):au .u32 x=Ge (.v (.int .u32 x)):=by rw[aD,IntWalk.u32_in x h]
def bq {x:Int}(h:0<=x/\x<=18446744073709551615):au .u64 x=Ge (.v (.int .u64 x)):=by rw[aD,IntWalk.u64_in x h]
def ri {α β:Type}(f:α->β)(xs:List α):(xs.map f).take xs.length=xs.map f:=by rw[<-(@Wj _ _ xs f),XF]
def E7 {k:IntKind}{m n x:Int}(h:x=min m n):mr k Gd m n=Ge (.v (.int k x)):=by
 rw[qJ,cond_false,show(if n<m then n else m)=x by split<;>omega]
def E8 {k:IntKind}{m n x:Int}(h:x=max m n):mr k Ga m n=Ge (.v (.int k x)):=by
 rw[qJ,cond_true,show(if n>m then n else m)=x by split<;>omega]
def zC.nilSplit {P:Program}{f:FuncId}{n size sz:Nat}{cells cells':GA}{t:TypeId}(h0:zC P f [.v (.slice z9 0 0)] (.v (.slice z9 0 0)) [])(h1:zC P f [.sl Ga n size cells] (.ref 0 0 0 n sz) [⟨cells',t,Ga⟩])
  (hc:cells=[]->cells'=[]):zC P f [.sl Gd n size cells] (.ref 0 0 0 n sz) [⟨cells',t,Ga⟩]:=by
 refine⟨h1.1,λ O φ0 w args hO hhb hinj hl ha=>?_⟩
 cases args with
 |nil=>cases hl
 |cons u r=>
  have hr:r=[]:=WY (by simpa using hl);subst hr;have hr:=ha 0 _ u rfl rfl
  cases hr with
  |sl _ _ _ _ a c us hlen hd h1' hn hs hcc hnil hr=>
  cases a with
  |none=>
   obtain⟨rfl,_⟩:=hnil rfl;have hn0:n=0:=Nat.le_zero.1 hcc.1;subst hn0;have hcl:cells=[]:=WY (by rw[hn,XQ]);refine(h0.2 O φ0 w [_] hO hhb hinj rfl λ j d u hj hu=>?_).mono ?_
   ·cases j with
    |zero=>simp at hj hu;subst hj hu;exact .v _ rfl
    |succ j=>simp at hj
   ·rintro e w' ⟨u,rfl,hb,φ,_,hrd,_⟩
    refine⟨u,rfl,hb,λ _=>z9,λ j hj=>(by cases hj),?_,λ j b hj=>?_,λ i j x _ _ _ h=>(by cases h),λ j x _ _ h=>(by cases h)⟩
    ·cases hrd with
     |v c h=>exact .refn 0 0 sz YS rfl
    ·cases j with
     |zero=>simp at hj;subst hj;rw[hc hcl];exact⟨⟨YS,rfl,rfl⟩,λ _=>rfl⟩
     |succ j=>simp at hj
  |some a=>
   refine h1.2 O φ0 w [_] hO hhb hinj rfl λ j d u hj hu=>?_
   cases j with
   |zero=>simp at hj hu;subst hj hu;exact .sl _ _ _ _ _ c us hlen hd h1' hn hs hcc (λ h=>by cases h) hr
   |succ j=>simp at hj
def bn {α:Type}(f:α->D)(h:∀x,(f x).closed=Ga)(xs:List α):ab (xs.map f)=true:=bp.2 λ d hd=>by
 obtain⟨x,_,rfl⟩:=List.mem_map.1 hd;exact h x
def RX:rz->List (Nat×Nat)->rz
 |e::r,p::l=>⟨e.k',e.g',p.1,p.2,e.o⟩::RX r l
 |r,_=>r
def CutS.re (c:CutS)(l:List (Nat×Nat)):CutS:=⟨c.tm,RX c.es l,c.nx⟩
def am (P:Program)(f n:Nat):Code:=(eH ((P.funcs[f]?.bind (·.body)).getD .skip)).getD n .skip
def dJ:Code->List (Array Tmp×Code×Code)
 | .seq x y=>dJ x++dJ y
 | .cond _ x y=>dJ x++dJ y
 | .block _ c=>dJ c
 | .scope c=>dJ c
 | .loop c=>dJ c
 | .rangeFunc _ ps a b=>(ps,a,b)::(dJ a++dJ b)
 |_=>[]
def rangeAt (P:Program)(f n:Nat):Array Tmp×Code×Code:=(dJ ((P.funcs[f]?.bind (·.body)).getD .skip)).getD n (#[],.skip,.skip)
def Bh:∀(es:rz) (l:List (Nat×Nat)),(RX es l).map (λ e=>(e.k',(e.g',e.o.ob)))=es.map λ e=>(e.k',(e.g',e.o.ob))
 |[],[]=>rfl
 |[],_::_=>rfl
 |_::_,[]=>rfl
 |e::r,p::l=>by simp only[RX,XB,Bh r l]
def Bi (d:CutS)(l:List (Nat×Nat)):(d.re l).st=d.st:=by unfold CutS.st CutS.re;simp only[Bh]
section
variable {P:Program}
def Nx {ι:Type}(S:ι->CutS)(μ:ι->Nat)(Q:AX->AS->Prop)(i:ι):Prop:=∀i',μ i'<μ i->Q .normal (S i').st
def Vd (es:ua)(Q:AX->AS->Prop):Prop:=∀e s,kt (tE es) e s->Q e s
def Hn.next {ι:Type}{S:ι->CutS}{Q:AX->AS->Prop}{μ:ι->Nat}{i:ι}(next:Nx S μ Q i)(i':ι)(h:μ i'<μ i)(l:List (Nat×Nat))(rows:ic ((S i').re l)):Hn P:=.cut .normal ((S i').re l) rows Q (by rw[Bi];exact next i' h)
def Hn.last {es:ua}{Q:AX->AS->Prop}(last:Vd es Q)(n:Nat)(x:(fF es n).κ)(h:gC (fF es n).e=Gd)(l:List (Nat×Nat))(rows:ic (((fF es n).S x).re l)):Hn P:=
 .cut (fF es n).e (((fF es n).S x).re l) rows Q (by
  rw[Bi];refine last _ _ ?_;have hk:=tG es n x
  cases he:(fF es n).e with
  |normal=>rw[he]at h;cases h
  |exit id=>rw[he]at hk;exact hk
  |ret=>rw[he]at hk;exact hk)
def Hn.inl {T:TT}(hT:T.ok P)(hfol:P.follows .mixedOrders=Ga)(rd:Bool)(nt xn:Nat)(c:Code){ι:Type}(S:ι->CutS)(μ:ι->Nat)(es:ua)(fuel kb:Nat)(h0:∀(i:ι) (Q:AX->AS->Prop),Nx S μ Q i->Vd es Q->Hn P)
  (hE:∀i,xC P T fuel rd nt xn kb c (S i).st (h0 i (λ e s'=>(e= .normal/\∃i',s'=(S i').st/\μ i'<μ i)\/kt (tE es) e s') (λ i' hm=>.inl ⟨rfl,i',rfl,hm⟩) λ _ _ hk=>.inr hk) (cutK xn λ e s'=>(e= .normal/\∃i',s'=(S i').st/\μ i'<μ i)\/kt (tE es) e s')=
   (h0 i (λ e s'=>(e= .normal/\∃i',s'=(S i').st/\μ i'<μ i)\/kt (tE es) e s') (λ i' hm=>.inl ⟨rfl,i',rfl,hm⟩) λ _ _ hk=>.inr hk).T) (i0:ι) (l:List (Nat×Nat)) (rows:ic ((S i0).re l)) (hs:(i:Nat)->(fF es i).κ->Hn P):Hn P:=
 .loopE rd nt xn c ((S i0).re l) rows es (by rw[Bi];exact AWPl.runLoop hT hfol S μ fuel kb h0 hE i0) hs
def bB {e:Endl}(h:e.κ->Hn P):(i:Nat)->(fF [e] i).κ->Hn P
 |0,x=>h x
 |_+1,x=>nomatch x
def gu {e1 e2:Endl}(h1:e1.κ->Hn P)(h2:e2.κ->Hn P):(i:Nat)->(fF [e1,e2] i).κ->Hn P
 |0,x=>h1 x
 |1,x=>h2 x
 |_+2,x=>nomatch x
def sR {e1 e2 e3:Endl}(h1:e1.κ->Hn P)(h2:e2.κ->Hn P)(h3:e3.κ->Hn P):(i:Nat)->(fF [e1,e2,e3] i).κ->Hn P
 |0,x=>h1 x
 |1,x=>h2 x
 |2,x=>h3 x
 |_+3,x=>nomatch x
def Hb {e1 e2 e3 e4:Endl}(h1:e1.κ->Hn P)(h2:e2.κ->Hn P)(h3:e3.κ->Hn P)(h4:e4.κ->Hn P):(i:Nat)->(fF [e1,e2,e3,e4] i).κ->Hn P
 |0,x=>h1 x
 |1,x=>h2 x
 |2,x=>h3 x
 |3,x=>h4 x
 |_+4,x=>nomatch x
end
def aB {k:IntKind}{v r:Int}(h:v=r):aX k v=Ge (.v (.int k r)):=by rw[bS,h]
def jr (n:Nat)(x:Int)(hx:0<=x):Wq n x=BitVec.ofNat n x.toNat:=by
 obtain⟨m,rfl⟩:=Xd hx;simp
def xl {n:Nat}{x y:Int}(hx:0<=x/\x.toNat<2^n)(hy:0<=y/\y.toNat<2^n):(Wq n x|||Wq n y).toNat=x.toNat|||y.toNat:=by
 rw[jr n x hx.1,jr n y hy.1,BitVec.toNat_or,Zu,Zu,XJ hx.2,XJ hy.2]
def tL {n:Nat}{x y:Int}(hx:0<=x/\x.toNat<2^n)(hy:0<=y/\y.toNat<2^n):(Wq n x&&&Wq n y).toNat=x.toNat&&&y.toNat:=by
 rw[jr n x hx.1,jr n y hy.1,BitVec.toNat_and,Zu,Zu,XJ hx.2,XJ hy.2]
def bT {x y:Int}(h:0<=x):x.tmod y=x%y:=Int.tmod_eq_emod_of_nonneg h
def ii {x y:Int}(h:0<=y):x.fdiv y=x/y:=Yf x h
def JT {x y:Nat}(m:Nat)(hx:x%2^m=0)(hy:y<2^m):x|||y=x+y:=by
 have e:x=2^m*(x/2^m):=by have:=Nat.div_add_mod x (2^m);omega
 rw[e,<-Y9 hy]
def tM {x y:Int}(hx:0<=x/\x<=255)(hy:0<=y/\y<=255):Wo .u8 ((Wq 8 x|||Wq 8 y).toNat:Int)=((x.toNat|||y.toNat:Nat):Int):=by
 rw[xl ⟨hx.1,by omega⟩ ⟨hy.1,by omega⟩];have:x.toNat|||y.toNat<2^8:=abk (by omega) (by omega)
 exact IntWalk.u8_in _ (by omega)
def tN (m:Nat)(N:Int){x y:Int}(hx:0<=x/\x<=255)(hy:0<=y/\y<=255)(hm:((2^m:Nat):Int)=N)(h1:x%N=0)(h2:y<N):Wo .u8 ((Wq 8 x|||Wq 8 y).toNat:Int)=x+y:=by
 rw[tM hx hy,JT m (by have e:=congrArg zL h1;rw[<-hm,<-Yk hx.1,<-aaz,Ya]at e;exact e) (by omega)];omega
def zU {x y:Int}(hx:0<=x/\x<=4294967295)(hy:0<=y/\y<=4294967295):Wo .u32 ((Wq 32 x|||Wq 32 y).toNat:Int)=((x.toNat|||y.toNat:Nat):Int):=by
 rw[xl ⟨hx.1,by omega⟩ ⟨hy.1,by omega⟩];have:x.toNat|||y.toNat<2^32:=abk (by omega) (by omega)
 exact IntWalk.u32_in _ (by omega)
def vN {x y:Int}(hx:0<=x/\x<=4294967295)(hy:0<=y/\y<=4294967295):Wo .u32 ((Wq 32 x&&&Wq 32 y).toNat:Int)=((x.toNat&&&y.toNat:Nat):Int):=by
 rw[tL ⟨hx.1,by omega⟩ ⟨hy.1,by omega⟩];have:x.toNat&&&y.toNat<=x.toNat:=Nat.and_le_left;exact IntWalk.u32_in _ (by omega)
def mf (m:Nat)(N:Int){x y:Int}(hx:0<=x/\x<=4294967295)(hy:0<=y/\y<=4294967295)(hN:y+1=N)(hm:((2^m:Nat):Int)=N):Wo .u32 ((Wq 32 x&&&Wq 32 y).toNat:Int)=x%N:=by
 rw[vN hx hy,show y.toNat=2^m-1 from by omega,ZS,<-hm];rw[aaz,Yk hx.1]
def vO {x y:Int}(hx:0<=x/\x<=18446744073709551615)(hy:0<=y/\y<=18446744073709551615):Wo .u64 ((Wq 64 x&&&Wq 64 y).toNat:Int)=((x.toNat&&&y.toNat:Nat):Int):=by
 rw[tL ⟨hx.1,by omega⟩ ⟨hy.1,by omega⟩];have:x.toNat&&&y.toNat<=x.toNat:=Nat.and_le_left;exact IntWalk.u64_in _ (by omega)
def mg (m:Nat)(N:Int){x y:Int}(hx:0<=x/\x<=18446744073709551615)(hy:0<=y/\y<=18446744073709551615)(hN:y+1=N)(hm:((2^m:Nat):Int)=N):Wo .u64 ((Wq 64 x&&&Wq 64 y).toNat:Int)=x%N:=by
 rw[vO hx hy,show y.toNat=2^m-1 from by omega,ZS,<-hm];rw[aaz,Yk hx.1]
def aT {x y:Int}(hx:0<=x/\x<=9223372036854775807)(hy:0<y):Wo .i64 (x.tdiv y)=x/y:=by
 rw[Int.tdiv_eq_ediv_of_nonneg hx.1];have h1:=Int.ediv_nonneg hx.1 (Int.le_of_lt hy);have h2:=Int.ediv_le_self y hx.1;exact IntWalk.i64_in _ (by omega)
def aq {A B:GA}{e:TypeId}{r:Bool}(h:A=B):V8 A e r=V8 B e r:=by rw[h]
def D.sim.slN {nn:Bool}{n n' sz:Nat}{cells cells':GA}(h1:n=n')(h2:cells=cells'):(Wu nn n sz cells).sim (.sl nn n' sz cells'):=by rw[h1,h2];exact D.sim.refl _
def ao {α:Type}{c:Bool}{a b:α}(h:c=Ga):cond c a b=a:=by rw[h];rfl
def vP {α:Type}{c:Bool}{a b:α}(h:c=Gd):cond c a b=b:=by rw[h];rfl
def oc (k:IntKind)(m n:Int):mr k Ga m n=Ge (.v (.int k (max m n))):=E8 rfl
def cT {b:Bool}(h:(!b)=Ga):b=false:=by cases b<;>simp_all
def cU {b:Bool}(h:(!b)=Gd):b=true:=by cases b<;>simp_all
def ij {a b:Bool}(h:(a&&b)=Ga):a=true:=by cases a<;>simp_all
def ez {a b:Bool}(h:(a&&b)=Ga):b=true:=by cases a<;>simp_all
def Hc {a b:Bool}(h:a=b):D.v (.bool a)=D.v (.bool b):=by rw[h]
def aA {a b:Bool}(h1:a=Ga)(h2:b=Ga):(a&&b)=true:=by rw[h1,h2];rfl
def dg {a b:Nat}(h:a=b):V9 a b=true:=by rw[h];exact Xk b
def dN (b:UInt8){m n:Int}(hm:m<=0)(hn:255<=n):m<=(b.toNat:Int)/\(b.toNat:Int)<=n:=by
 have:=b.toNat_lt;constructor<;>omega
def aF {k:IntKind}{a b:Int}(h:a=b):D.v (.int k a)=D.v (.int k b):=by rw[h]
def iU {α:Type}[Inhabited α]{l:List α}{i:Nat}(h:i<l.length):l.take (i+1)=l.take i++[l.getD i lb]:=by
 rw[List.take_add_one,Wa h];simp[h]
def E9 (x:Int):D.v (.int .u8 (IntKind.u8.wrap x))=dB (Xg (x%256).toNat):=by
 unfold dB;have h0:=Int.emod_nonneg x (show(256:Int)≠0 by decide);have h1:=Int.emod_lt_of_pos x (show(0:Int)<256 by decide);have e:IntKind.u8.wrap x=x%256:=rfl;have h:((Xg (x%256).toNat).toNat:Int)=x%256:=by
  rw[X6];omega
 rw[e,h]
def JU (b c:UInt8):D.v (.int .u8 (Wo .u8 ((b.toNat:Int)+(c.toNat:Int))))=dB (b+c):=by
 rw[E9]
 congr 1
 apply UInt8.toNat_inj.1;rw[X6,UInt8.toNat_add];omega
def Bj (b:UInt8):D.v (.int .u8 (Wo .u8 ((b.toNat:Int)+1)))=dB (b+1):=JU b 1
def xm {l:GA}(h:ab l=Ga)(n:Nat):ab (l.take n)=true:=bp.2 λ d hd=>bp.1 h d (List.mem_of_mem_take hd)
def xo {l:GA}(h:ab l=Ga)(n:Nat):ab (l.drop n)=true:=bp.2 λ d hd=>bp.1 h d (List.mem_of_mem_drop hd)
def aJ (f:UInt8->UInt8)(bs:Z4)(n:Nat):Z4:=(bs.take n).map f++bs.drop n
def ik (f:UInt8->UInt8)(bs:Z4)(n:Nat):(aJ f bs n).length=bs.length:=by simp[aJ];omega
def jP (f:UInt8->UInt8)(bs:Z4):aJ f bs 0=bs:=by simp[aJ]
def od (f:UInt8->UInt8)(bs:Z4)(n:Nat):(aJ f bs n).getD n lb=bs.getD n lb:=by
 unfold aJ;simp only[Wd]
 by_cases h:n<bs.length
 ·rw[WJ (by simp;omega)]
  simp only[Wj,Wi,Nat.min_eq_left (Nat.le_of_lt h),Xz,Xr,X4]
 ·rw[WL (by simp;omega),WL (by omega)]
def qj (f:UInt8->UInt8){bs:Z4}{n:Nat}(h:n<bs.length)(d:D)(hd:d=dB (f (bs.getD n lb))):ac ((aJ f bs n).map dB) n [d]=(aJ f bs (n+1)).map dB:=by
 subst hd;unfold ac aJ;have hl:((bs.take n).map f).length=n:=by simp;omega
 rw[iU h];simp only[W4,aaA,ZT,Wj,hl,Wi,W7];have e1:(Yg dB (Yg f (WS n bs))).take n=Yg dB (Yg f (WS n bs)):=WN (by simp;omega);have e2:(Yg dB (Yg f (WS n bs))).drop (n+1)=[]:=Xv (by simp;omega);have hm:min n bs.length=n:=by omega
 simp only[e1,e2,hm,Xz,List.take_zero,Xn,YG,WI];simp[List.drop_drop,Nat.add_comm]
def M8 (bs:Z4)(n:Nat):ab ((bs.map dB).take n)=true:=xm (aR bs) n
def M9 (bs:Z4)(n:Nat):ab ((bs.map dB).drop n)=true:=xo (aR bs) n
def Fa (c:Bool)(a b:GA):ab (cond c a b)=cond c (ab a) (ab b):=by cases c<;>rfl
def Bk (a b:GA):ab (a++b)=(ab a&&ab b):=by
 induction a with
 |nil=>rfl
 |cons x a ih=>show(x.closed&&ab (a++b))=_;rw[ih,<-Bool.and_assoc];rfl
def fI {α:Type}[BEq α][LawfulBEq α]{a b:α}(h:(a !=b)=Ga):a≠b:=by simpa using h
def fJ {α:Type}[BEq α][LawfulBEq α]{a b:α}(h:(a !=b)=Gd):a=b:=by simpa using h
def ak {α:Type}[BEq α][LawfulBEq α]{a b:α}(h:(a==b)=Gd):a≠b:=by simpa using h
def gG (l:Z4):(WZ l.toArray).toList=l:=by rw[ByteArray.toList_eq]
def zV (a b:Z4):WZ a.toArray++WZ b.toArray=WZ (a++b).toArray:=by
 apply ByteArray.ext;simp
def Fb (a:Z4):(WZ a.toArray).size=a.length:=rfl
def vQ {α:Type}[Inhabited α]{f:α->GA}{k:Nat}(hk:∀x,(f x).length=k):∀{xs:List α} {i j:Nat},i<xs.length->j<k->(xs.flatMap f)[i*k+j]? =(f (xs.getD i lb))[j]?
 |[],i,j,h,_=>by simp at h
 |x::xs,0,j,h,hj=>by
  rw[XE,XQ,WE,WO (by rw[hk];exact hj)];rfl
 |x::xs,i+1,j,h,hj=>by
  rw[XE,WJ (by rw[hk,Xt];omega),hk];have e:(i+1)*k+j-k=i*k+j:=by rw[Xt];omega
  rw[e,vQ hk (by simpa using h) hj];rfl
def cR {α:Type}[Inhabited α]{f:α->GA}{k:Nat}(hk:∀x,(f x).length=k){xs:List α}{i n j:Nat}{d:D}(h:i<xs.length)(e:n=i*k+j)(hj:(f (xs.getD i lb))[j]? =Ge d):(xs.flatMap f)[n]? =Ge d:=by
 have hlt:j<k:=by rw[<-hk (xs.getD i lb)];exact(List.getElem?_eq_some_iff.1 hj).1
 rw[e,vQ hk h hlt];exact hj
def bg {α:Type}{f:α->GA}{k:Nat}(hk:∀x,(f x).length=k):∀(xs:List α),(xs.flatMap f).length=xs.length*k
 |[]=>by simp
 |x::xs=>by rw[XE,Wc,hk,bg hk xs,WQ,Xt];omega
def aI {α:Type}[Inhabited α]{f:α->GA}{k:Nat}(hk:∀x,(f x).length=k){xs:List α}{i n:Nat}(h:i<xs.length)(e:n=i*k):((xs.flatMap f).drop n).take k=f (xs.getD i lb):=by
 apply Xe;intro j;rw[Xa]
 by_cases hj:j<k
 ·rw[ZF hj,Xr,e,vQ hk h hj]
 ·rw[ZE hj,WL (by rw[hk];omega)]
def ar (bs:Z4)(off m:Nat):(bif V9 off 0&&V9 m (bs.map dB).length then bs.map dB else((bs.map dB).drop off).take m)=((bs.drop off).take m).map dB:=by
 cases h:V9 off 0&&V9 m (bs.map dB).length with
 |true=>
  have h1:=Wk (ij h);have h2:=Wk (ez h);subst h1 h2;simp
 |false=>rw[cond_false,List.map_take,List.map_drop]
def D.sim.nil {sz:Nat}(h:0<sz):(D.v (.slice z9 0 0)).sim (.sl Gd 0 sz []):=λ E w u hr=>by
 cases hr with
 |v=>exact .sl Gd 0 sz [] z9 0 [] rfl (by simp) (by simp) (by simp) h ⟨Wl _,W5 _⟩ (λ _=>⟨rfl,rfl⟩) (.inl rfl)
def D.sim.slc {nn:Bool}{n n' sz:Nat}{cells cells':GA}(h1:n=n')(h2:dr cells cells'):(Wu nn n sz cells).sim (.sl Gd n' sz cells'):=by
 subst h1;intro E w u h;obtain⟨e,g⟩:=h2.get
 cases h with
 |sl _ _ _ _ a c us hlen hd h1 hn hs hc h0 hr=>
  refine .sl Gd n sz cells' a c us (by rw[hlen,e]) (λ i d' u a1 a2=>?_) h1 (by rw[<-e,hn]) hs hc (λ h=>⟨(h0 h).1,rfl⟩) hr;obtain⟨d,b1,b2⟩:=g i d' a1;exact b2 _ _ _ (hd i d u b1 a2)
def cm {α:Type}{f:α->GA}(h:∀x,ab (f x)=Ga):∀l:List α,ab (l.flatMap f)=Ga
 |[]=>rfl
 |x::l=>by rw[XE,Bk,h x,cm h l];rfl
def cV {α:Type}{f:α->GA}(h:∀x,xg (f x)=Ga)(l:List α):xg (l.flatMap f)=true:=jo.2 λ d hd=>by
 obtain⟨t,_,hd⟩:=List.mem_flatMap.1 hd;exact jo.1 (h t) d hd
def rj {α:Type}{f:α->GA}{k:Nat}(hk:∀x,(f x).length=k):∀(xs:List α) (i:Nat),(xs.flatMap f).take (i*k)=(xs.take i).flatMap f
 |[],i=>by simp
 |x::xs,0=>by simp
 |x::xs,i+1=>by
  rw[XE,List.take_succ_cons,XE,aaA,hk,WN (by rw[hk,Xt];omega),show(i+1)*k-k=i*k from by rw[Xt];omega,rj hk xs i]
def xp {α:Type}{f:α->GA}{k:Nat}(hk:∀x,(f x).length=k):∀(xs:List α) (i:Nat),(xs.flatMap f).drop (i*k)=(xs.drop i).flatMap f
 |[],i=>by simp
 |x::xs,0=>by simp
 |x::xs,i+1=>by
  rw[XE,List.drop_succ_cons,ZT,hk,Xv (by rw[hk,Xt];omega),show(i+1)*k-k=i*k from by rw[Xt];omega,xp hk xs i];rfl
def Na {α:Type}{f:α->GA}{k:Nat}(hk:∀x,(f x).length=k)(xs:List α)(o m:Nat):((xs.flatMap f).drop (o*k)).take (m*k)=((xs.drop o).take m).flatMap f:=by rw[xp hk,rj hk]
def eZ {α:Type}{f:α->GA}{k:Nat}(hk:∀x,(f x).length=k)(xs:List α)(off m o n:Nat)(h1:off=o*k)(h2:n=m*k):(bif V9 off 0&&V9 n (xs.flatMap f).length then xs.flatMap f else((xs.flatMap f).drop off).take n)=((xs.drop o).take m).flatMap f:=by
 have e:=gz (xs.flatMap f) off n;unfold dv at e;rw[e,h1,h2,Na hk]
def ku {α:Type}{f:α->GA}{c:List α}{l:GA}{t:α}{y:TypeId}{r:Bool}(h:l=f t):(⟨c.flatMap f++l,y,r⟩:Blk)=⟨(c++[t]).flatMap f,y,r⟩:=by rw[h,Xj];simp
def Nb (b:UInt8):(dB b).closed=true:=rfl
attribute [simp] gG zV Fb
attribute [simp] cQ gW zv mS aV cY bk nH RQ U7 SH ab D.closed aR M8 M9 Fa Bk xm xo cm Nb bR bK ri
def Hn.cl {P:Program}(f:FuncId)(al:Bool)(fp:Gw){q hin:_}{r:D}{bs:lM}(h:CallOk al P f q hin r bs)(nx:Hn P):Hn P:=.call f al fp Ga rfl q q (dr.refl q) Ga rfl hin r bs h nx
def Hn.op {P:Program}(x:Int)(h:-9223372036854775808<=x/\x<=9223372036854775807)(nx:Hn P):Hn P:=.opt (au .i64 x) (.v (.int .i64 x)) (fv h) nx
def Hn.bd {P:Program}(p:Prop)[Decidable p](f:decide p=Ga->p->Hn P)(g:decide p=Gd->¬p->Hn P):Hn P:=.br (decide p) (λ h=>f h (of_decide_eq_true h)) (λ h=>g h (of_decide_eq_false h))
def Hn.ow {P:Program}(x:Int)(nx:Hn P)(h:-9223372036854775808<=x/\x<=9223372036854775807:=by omega):Hn P:=.opt (au .i64 x) (.v (.int .i64 x)) (fv h) nx
def Hn.K {P:Program}(n:Nat)(b:Bool)(p:b=Ga)(h:Hn P):Hn P:=.s n (.chk b p h)
def Hn.O {P:Program}(n:Nat)(o:Option D)(d:D)(p:o=Ge d)(h:Hn P):Hn P:=.s n (.opt o d p h)
def Hn.V {P:Program}(n:Nat)(t:Nat)(d d':D)(p:d=d')(h:Hn P):Hn P:=.s n (.val t d d' p h)
def Hn.F {P:Program}(n:Nat)(b:Bool)(p:b=Gd)(h:Hn P):Hn P:=.s n (.f b p h)
def Hn.E {P:Program}(n:Nat)(b:Bool)(p:b=Ga)(h:Hn P):Hn P:=.s n (.t b p h)
def Hn.R {P:Program}(n:Nat)(b:Bool)(p:b=Ga->Hn P)(h:b=Gd->Hn P):Hn P:=.s n (.br b p h)
def Hn.U {P:Program}(n:Nat)(k g:Gw)(r:D)(b:lM)(R:D->lM->Prop)(p:R r b):Hn P:=.s n (.out k g r b R p)
def Hn.W {P:Program}(n:Nat)(x:Int)(h:Hn P)(p:-9223372036854775808<=x/\x<=9223372036854775807:=by omega):Hn P:=.s n (.ow x h p)
def Hn.I {P:Program}(n:Nat)(x:Int)(p:-9223372036854775808<=x/\x<=9223372036854775807)(h:Hn P):Hn P:=.s n (.op x p h)
def Hn.B {P:Program}(n:Nat)(p:Prop)[Decidable p](f:decide p=Ga->p->Hn P)(g:decide p=Gd->¬p->Hn P):Hn P:=.s n (.bd p f g)
def Hn.C {P:Program}(n:Nat)(f:FuncId)(al:Bool)(l:Gw){q b:_}{r:D}{c:lM}(p:CallOk al P f q b r c)(h:Hn P):Hn P:=.s n (.cl f al l p h)
def Hn.M {P:Program}(n:Nat)(k g:Nat)(b b':Blk)(p:b=b')(h:Hn P):Hn P:=.s n (.blk k g b b' p h)
def Hn.L {P:Program}(n:Nat)(f:FuncId)(al:Bool)(l:Gw)(b:Bool)(p:b=Ga)(q:GA){c:GA}(e:dr q c){d r g:_}(i:CallOk al P f c d r g)(h:Hn P):Hn P:=.s n (.call f al l b p q c e Ga rfl d r g i h)
def Hn.Y {P:Program}(n:Nat)(k g:Gw)(r:D)(b:lM){R:D->lM->Prop}{q c:_}(o:∀x y,x=q->y=c->R x y)(p:r=q:=by with_reducible rfl)(h:b=c:=by with_reducible rfl):Hn P:=.s n (.out k g r b R (o r b p h))
end Go.Vx
namespace Go.Proofs.YtefjnofhgkjpmaaGreat
open Go.Vx

def Ve:TI:=⟨.int .i64,.int .i64 0,1,8,Gd⟩
def MI:TI:=⟨.int .i64,.int .i64 0,1,8,Gd⟩
def Vf:TI:=⟨.bool,.bool Gd,1,1,Gd⟩
def zW:TI:=⟨.int .u8,.int .u8 0,1,1,Gd⟩
def Vg:TI:=⟨.string,.string ⟨#[]⟩,1,16,Gd⟩
def Nc:TI:=⟨.int .u64,.int .u64 0,1,8,Gd⟩
def Nd:TI:=⟨.pointer 302,.pointer z9,1,8,Gd⟩
def Nf:TI:=⟨.pointer 305,.pointer z9,1,8,Gd⟩
def Ng:TI:=⟨.pointer 313,.pointer z9,1,8,Gd⟩
def Nh:TI:=⟨.interface #[],.nilIface,1,16,Gd⟩
def Ni:TI:=⟨.int .i32,.int .i32 0,1,4,Gd⟩
def Nj:TI:=⟨.struct #[⟨"Size",3,0,Gd, "", "",0⟩,⟨"Chain",3,1,Gd, "", "",8⟩,⟨"Most",3,2,Gd, "", "",16⟩,⟨"Lazy",4,3,Gd, "", "",24⟩],.agg #[.int .i64 0,.int .i64 0,.int .i64 0,.bool Gd],4,32,Ga⟩
def Nk:TI:=⟨.struct #[⟨"Size",3,0,Gd, "", "",0⟩,⟨"Chain",3,1,Gd, "", "",8⟩,⟨"Most",3,2,Gd, "", "",16⟩,⟨"Lazy",4,3,Gd, "", "",24⟩],.agg #[.int .i64 0,.int .i64 0,.int .i64 0,.bool Gd],4,32,Ga⟩
def Nl:TI:=⟨.slice 5,.slice z9 0 0,1,24,Gd⟩
def Nn:TI:=⟨.struct #[⟨"Bytes",24,0,Gd, "", "",0⟩,⟨"Bits",3,1,Gd, "", "",24⟩],.agg #[.slice z9 0 0,.int .i64 0],2,32,Gd⟩
def No:TI:=⟨.struct #[⟨"Bytes",24,0,Gd, "", "",0⟩,⟨"Bits",3,1,Gd, "", "",24⟩],.agg #[.slice z9 0 0,.int .i64 0],2,32,Gd⟩
def Np:TI:=⟨.struct #[⟨"Style",23,0,Gd, "", "",0⟩,⟨"Hist",24,4,Gd, "", "",32⟩,⟨"Wait",24,5,Gd, "", "",56⟩,⟨"Pen",26,6,Gd, "", "",80⟩,⟨"Over",4,8,Gd, "", "",112⟩],.agg #[.int .i64 0,.int .i64 0,.int .i64 0,.bool Gd,.slice z9 0 0,.slice z9 0 0,.slice z9 0 0,.int .i64 0,.bool Gd],9,120,Gd⟩
def Nq:TI:=⟨.struct #[⟨"Style",23,0,Gd, "", "",0⟩,⟨"Hist",24,4,Gd, "", "",32⟩,⟨"Wait",24,5,Gd, "", "",56⟩,⟨"Pen",26,6,Gd, "", "",80⟩,⟨"Over",4,8,Gd, "", "",112⟩],.agg #[.int .i64 0,.int .i64 0,.int .i64 0,.bool Gd,.slice z9 0 0,.slice z9 0 0,.slice z9 0 0,.int .i64 0,.bool Gd],9,120,Gd⟩
def Nr:TI:=⟨.int .i64,.int .i64 0,1,8,Gd⟩
def Ns:TI:=⟨.slice 56,.slice z9 0 0,1,24,Gd⟩
def Nt:TI:=⟨.struct #[⟨"Flush",4,0,Gd, "", "",0⟩,⟨"Text",24,1,Gd, "", "",8⟩],.agg #[.bool Gd,.slice z9 0 0],2,32,Gd⟩
def Nu:TI:=⟨.struct #[⟨"Flush",4,0,Gd, "", "",0⟩,⟨"Text",24,1,Gd, "", "",8⟩],.agg #[.bool Gd,.slice z9 0 0],2,32,Gd⟩
def Nv:TI:=⟨.pointer 68,.pointer z9,1,8,Gd⟩
def Nw:TI:=⟨.struct #[⟨"Press",28,0,Ga, "", "",0⟩,⟨"out",24,9,Gd, "", "bellows/press",120⟩],.agg #[.int .i64 0,.int .i64 0,.int .i64 0,.bool Gd,.slice z9 0 0,.slice z9 0 0,.slice z9 0 0,.int .i64 0,.bool Gd,.slice z9 0 0],10,144,Gd⟩
def Ny:TI:=⟨.slice 119,.slice z9 0 0,1,24,Gd⟩
def Nz:TI:=⟨.pointer 95,.pointer z9,1,8,Gd⟩
def NA:TI:=⟨.struct #[⟨"b",24,0,Gd, "", "bellows/plain",0⟩,⟨"at",3,1,Gd, "", "bellows/plain",24⟩,⟨"e",31,2,Gd, "", "bellows/plain",32⟩],.agg #[.slice z9 0 0,.int .i64 0,.int .i64 0],3,40,Gd⟩
def Hd:TI:=⟨.pointer 123,.pointer z9,1,8,Gd⟩
def He:TI:=⟨.slice 64,.slice z9 0 0,1,24,Gd⟩
def Hf:TI:=⟨.struct #[⟨"Lit",5,0,Gd, "", "",0⟩,⟨"Dist",3,1,Gd, "", "",8⟩,⟨"Long",3,2,Gd, "", "",16⟩],.agg #[.int .u8 0,.int .i64 0,.int .i64 0],3,24,Ga⟩
def Hg:TI:=⟨.struct #[⟨"Lit",5,0,Gd, "", "",0⟩,⟨"Dist",3,1,Gd, "", "",8⟩,⟨"Long",3,2,Gd, "", "",16⟩],.agg #[.int .u8 0,.int .i64 0,.int .i64 0],3,24,Ga⟩
def Hh:TI:=⟨.slice 126,.slice z9 0 0,1,24,Gd⟩
def Hi:TI:=⟨.struct #[⟨"l",121,0,Gd, "", "bellows/block",0⟩],.agg #[.slice z9 0 0],1,24,Gd⟩
def Hj:TI:=⟨.int .u32,.int .u32 0,1,4,Gd⟩
def Hk:TI:=⟨.struct #[⟨"v",124,0,Gd, "", "bellows/block",0⟩,⟨"n",3,1,Gd, "", "bellows/block",8⟩],.agg #[.int .u32 0,.int .i64 0],2,16,Ga⟩
def Hl:TI:=⟨.array 3 5,.agg #[.int .u8 0,.int .u8 0,.int .u8 0],3,3,Ga⟩
def Hm:TI:=⟨.struct #[⟨"Size",3,0,Gd, "", "",0⟩,⟨"Bytes",24,1,Gd, "", "",8⟩],.agg #[.int .i64 0,.slice z9 0 0],2,32,Gd⟩
def Ho:TI:=⟨.slice 169,.slice z9 0 0,1,24,Gd⟩
def Hp:TI:=⟨.slice 24,.slice z9 0 0,1,24,Gd⟩
def Hq:TI:=⟨.array 16 3,.agg #[.int .i64 0,.int .i64 0,.int .i64 0,.int .i64 0,.int .i64 0,.int .i64 0,.int .i64 0,.int .i64 0,.int .i64 0,.int .i64 0,.int .i64 0,.int .i64 0,.int .i64 0,.int .i64 0,.int .i64 0,.int .i64 0],16,128,Ga⟩
def Hr:TI:=⟨.slice 3,.slice z9 0 0,1,24,Gd⟩
def Hs:TI:=⟨.struct #[⟨"Count",151,0,Gd, "", "",0⟩,⟨"Syms",152,16,Gd, "", "",128⟩],.agg #[.int .i64 0,.int .i64 0,.int .i64 0,.int .i64 0,.int .i64 0,.int .i64 0,.int .i64 0,.int .i64 0,.int .i64 0,.int .i64 0,.int .i64 0,.int .i64 0,.int .i64 0,.int .i64 0,.int .i64 0,.int .i64 0,.slice z9 0 0],17,152,Gd⟩
def Ht:TI:=⟨.pointer 163,.pointer z9,1,8,Gd⟩
def Hu:TI:=⟨.struct #[⟨"Pen",26,0,Ga, "", "",0⟩],.agg #[.slice z9 0 0,.int .i64 0],2,32,Gd⟩
def Hv:TI:=⟨.struct #[⟨"V",124,0,Gd, "", "",0⟩,⟨"N",3,1,Gd, "", "",8⟩],.agg #[.int .u32 0,.int .i64 0],2,16,Ga⟩
def Hw:TI:=⟨.struct #[⟨"Lit",5,0,Gd, "", "",0⟩,⟨"Dist",3,1,Gd, "", "",8⟩,⟨"Long",3,2,Gd, "", "",16⟩],.agg #[.int .u8 0,.int .i64 0,.int .i64 0],3,24,Ga⟩
def Hx:TI:=⟨.array 286 3,.agg (aag 286 (.int .i64 0)),286,2288,Ga⟩
def Hy:TI:=⟨.array 30 3,.agg #[.int .i64 0,.int .i64 0,.int .i64 0,.int .i64 0,.int .i64 0,.int .i64 0,.int .i64 0,.int .i64 0,.int .i64 0,.int .i64 0,.int .i64 0,.int .i64 0,.int .i64 0,.int .i64 0,.int .i64 0,.int .i64 0,.int .i64 0,.int .i64 0,.int .i64 0,.int .i64 0,.int .i64 0,.int .i64 0,.int .i64 0,.int .i64 0,.int .i64 0,.int .i64 0,.int .i64 0,.int .i64 0,.int .i64 0,.int .i64 0],30,240,Ga⟩
def Hz:TI:=⟨.slice 187,.slice z9 0 0,1,24,Gd⟩
def HA:TI:=⟨.array 19 3,.agg #[.int .i64 0,.int .i64 0,.int .i64 0,.int .i64 0,.int .i64 0,.int .i64 0,.int .i64 0,.int .i64 0,.int .i64 0,.int .i64 0,.int .i64 0,.int .i64 0,.int .i64 0,.int .i64 0,.int .i64 0,.int .i64 0,.int .i64 0,.int .i64 0,.int .i64 0],19,152,Ga⟩
def HC:TI:=⟨.struct #[⟨"Sym",3,0,Gd, "", "",0⟩,⟨"Extra",3,1,Gd, "", "",8⟩],.agg #[.int .i64 0,.int .i64 0],2,16,Ga⟩
def HD:TI:=⟨.slice 210,.slice z9 0 0,1,24,Gd⟩
def HE:TI:=⟨.func #[3] #[3,3] Gd,.nilFunc,1,8,Gd⟩
def HF:TI:=⟨.int .u64,.int .u64 0,1,8,Gd⟩
def qk:TI:=⟨.struct #[⟨"Bits",124,0,Gd, "", "",0⟩,⟨"Long",5,1,Gd, "", "",4⟩],.agg #[.int .u32 0,.int .u8 0],2,8,Ga⟩
def HG:TI:=⟨.int .u64,.int .u64 0,1,8,Gd⟩
def HH:TI:=⟨.slice 225,.slice z9 0 0,1,24,Gd⟩
def xq:TI:=⟨.slice 231,.slice z9 0 0,1,24,Gd⟩
def HI:TI:=⟨.struct #[⟨"weight",3,0,Gd, "", "bellows/build",0⟩,⟨"pair",4,1,Gd, "", "bellows/build",8⟩],.agg #[.int .i64 0,.bool Gd],2,16,Ga⟩
def HJ:TI:=⟨.array 17 124,.agg #[.int .u32 0,.int .u32 0,.int .u32 0,.int .u32 0,.int .u32 0,.int .u32 0,.int .u32 0,.int .u32 0,.int .u32 0,.int .u32 0,.int .u32 0,.int .u32 0,.int .u32 0,.int .u32 0,.int .u32 0,.int .u32 0,.int .u32 0],17,68,Ga⟩
def HK:TI:=⟨.struct #[⟨"bits",3,0,Gd, "", "bellows/reach",0⟩,⟨"least",3,1,Gd, "", "bellows/reach",8⟩,⟨"many",3,2,Gd, "", "bellows/reach",16⟩],.agg #[.int .i64 0,.int .i64 0,.int .i64 0],3,24,Ga⟩
def HL:TI:=⟨.slice 248,.slice z9 0 0,1,24,Gd⟩
def HM:TI:=⟨.struct #[⟨"first",3,0,Gd, "", "bellows/reach",0⟩,⟨"symbols",250,1,Gd, "", "bellows/reach",8⟩],.agg #[.int .i64 0,.slice z9 0 0],2,32,Gd⟩
def HN:TI:=⟨.array 29 3,.agg #[.int .i64 0,.int .i64 0,.int .i64 0,.int .i64 0,.int .i64 0,.int .i64 0,.int .i64 0,.int .i64 0,.int .i64 0,.int .i64 0,.int .i64 0,.int .i64 0,.int .i64 0,.int .i64 0,.int .i64 0,.int .i64 0,.int .i64 0,.int .i64 0,.int .i64 0,.int .i64 0,.int .i64 0,.int .i64 0,.int .i64 0,.int .i64 0,.int .i64 0,.int .i64 0,.int .i64 0,.int .i64 0,.int .i64 0],29,232,Ga⟩
def HO:TI:=⟨.slice 291,.slice z9 0 0,1,24,Gd⟩
def HP:TI:=⟨.struct #[⟨"Weight",3,0,Gd, "", "",0⟩,⟨"Of",152,1,Gd, "", "",8⟩],.agg #[.int .i64 0,.slice z9 0 0],2,32,Gd⟩
def Tl:List (Nat×TI):=[(2,Ve),(3,MI),(4,Vf),(5,zW),(9,Vg),(12,Nc),(15,Nd),(16,Nf),(17,Ng),(20,Nh),(21,Ni),(22,Nj),(23,Nk),(24,Nl),(25,Nn),(26,No),(27,Np),(28,Nq),(31,Nr),(53,Ns),(55,Nt),(56,Nu),(64,Nv),(68,Nw),(82,Ny),(90,Nz),(95,NA),(105,Hd),(111,He),(118,Hf),(119,Hg),(121,Hh),(123,Hi),(124,Hj),(126,Hk),(129,Hl),(132,Hm),(135,Ho),(149,Hp),(151,Hq),(152,Hr),(154,Hs),(161,Ht),(163,Hu),(169,Hv),(175,Hw),(176,Hx),(177,Hy),(182,Hz),(185,HA),(187,HC),(189,HD),(196,HE),(204,HF),(210,qk),(217,HG),(224,HH),(225,xq),(231,HI),(234,HJ),(248,HK),(250,HL),(252,HM),(256,HN),(286,HO),(291,HP)]
def T:TT:=(.n (.n (.n (.n (.n (.n .e (Ge Nr) (.n .e (Ge NA) .e)) (Ge Nd) (.n .e z9 (.n (.n .e (Ge Hw) .e) (Ge He) .e))) z9 (.n (.n (.n (.n .e (Ge Ho) .e) z9 .e) z9 (.n .e z9 (.n .e (Ge HI) .e))) (Ge Nk) (.n (.n (.n .e (Ge Hq) .e) z9 .e) (Ge Nt) (.n .e (Ge Hg) .e)))) (Ge MI) (.n (.n (.n .e z9 (.n (.n (.n .e (Ge HP) .e) (Ge Hu) .e) z9 .e)) z9 .e) z9 (.n .e (Ge Np) (.n .e z9 (.n (.n .e (Ge HC) .e) (Ge Hi) .e))))) z9 (.n (.n (.n (.n (.n (.n .e (Ge Hl) .e) z9 .e) z9 (.n (.n .e (Ge Ht) .e) z9 (.n .e (Ge xq) .e))) (Ge Ng) (.n .e z9 (.n (.n .e (Ge Hy) .e) z9 .e))) (Ge Vg) (.n (.n .e z9 (.n (.n .e (Ge Hv) .e) (Ge Hd) .e)) (Ge Nn) (.n (.n .e z9 (.n .e (Ge HG) .e)) z9 (.n (.n .e (Ge HA) .e) (Ge Hh) .e)))) (Ge zW) (.n (.n .e (Ge Ni) (.n (.n (.n .e (Ge Hp) .e) z9 .e) (Ge Ns) .e)) z9 (.n .e z9 (.n .e z9 (.n (.n .e (Ge HD) .e) z9 .e)))))) z9 (.n (.n (.n (.n (.n (.n (.n (.n .e (Ge HN) .e) z9 .e) (Ge Nv) .e) z9 (.n .e z9 (.n .e (Ge HH) .e))) (Ge Nf) (.n .e z9 (.n (.n .e (Ge Hx) .e) z9 .e))) z9 (.n .e (Ge Nl) (.n (.n (.n .e (Ge Hr) .e) z9 .e) (Ge Nu) (.n .e z9 (.n .e (Ge HK) .e))))) (Ge Vf) (.n (.n (.n (.n (.n .e (Ge Hm) .e) (Ge Nw) (.n .e (Ge HE) .e)) z9 .e) (Ge Nh) .e) (Ge Nc) (.n (.n (.n .e z9 (.n .e (Ge HF) .e)) z9 .e) (Ge Nq) (.n .e z9 (.n .e (Ge Hj) (.n .e (Ge HM) .e)))))) (Ge Ve) (.n (.n (.n .e z9 (.n (.n .e (Ge Ny) (.n .e (Ge qk) .e)) z9 .e)) z9 (.n (.n .e z9 (.n .e z9 (.n .e (Ge HJ) .e))) (Ge No) (.n (.n (.n .e (Ge Hs) .e) (Ge Nz) .e) z9 (.n .e z9 (.n .e (Ge HL) .e))))) z9 (.n (.n .e (Ge Nj) (.n .e z9 (.n (.n .e (Ge Hz) .e) (Ge Hf) .e))) z9 (.n .e z9 (.n (.n (.n (.n .e (Ge HO) .e) z9 .e) z9 .e) z9 (.n .e (Ge Hk) .e)))))))
set_option maxRecDepth 100000 in
def T_ok:TT.ok CK T:=by
 refine TT.ok_ofL (l:=Tl) ?_ (by kernel_rfl)
 repeat(first|refine⟨SA (by kernel_rfl) (by kernel_rfl) rfl,?_⟩|refine⟨M5 (by kernel_rfl) (by kernel_rfl) rfl (by kernel_rfl) (by kernel_rfl) (by kernel_rfl),?_⟩)
 trivial
def ae:Tryz.prog.follows .mixedOrders=true:=by kernel_rfl
open Go.RowKit Go.Bw
abbrev zN (n:Nat):D:=.v (.int .i64 (n:Int))
abbrev zI (x:Int):D:=.v (.int .i64 x)
abbrev zS:D:=.v (.slice z9 0 0)
abbrev ah (n:Nat):D:=.v (.int .u32 (n:Int))
abbrev cK (n:Nat):D:=.v (.int .u8 (n:Int))
abbrev uI (x:Int):D:=.v (.int .u32 x)
abbrev bI (x:Int):D:=.v (.int .u8 x)
def zX {p:Prop}[Decidable p](h:decide p=Ga):p:=of_decide_eq_true h
def zY {p:Prop}[Decidable p](h:decide p=Gd):¬p:=of_decide_eq_false h
def qr {d:D}{p:Prop}(h:p):D.sim d d/\p:=⟨.refl _,h⟩
def kr(h:p:=by kernel_rfl):=h
abbrev S0:=SpecH Gd CK
abbrev S1:=SpecH Ga CK
def SpR {al:Bool}:=@SpecH.run CK al T T_ok ae
def Q197:ap CK 197:=.of Tryz.func197 rfl rfl
def Q20:ap CK 20:=.of Tryz.func20 rfl rfl
def Q80:ap CK 80:=.of Tryz.func80 rfl rfl
def Q112:ap CK 112:=.of Tryz.func112 rfl rfl
def Q131:ap CK 131:=.of Tryz.func131 rfl rfl
def Q99:ap CK 99:=.of Tryz.func99 rfl rfl
def Q47:ap CK 47:=.of Tryz.func47 rfl rfl
def Q48:ap CK 48:=.of Tryz.func48 rfl rfl
def Q59:ap CK 59:=.of Tryz.func59 rfl rfl
def Q62:ap CK 62:=.of Tryz.func62 rfl rfl
def Q61:ap CK 61:=.of Tryz.func61 rfl rfl
def Q60:ap CK 60:=.of Tryz.func60 rfl rfl
def Q15:ap CK 15:=.of Tryz.func15 rfl rfl
def Q201:ap CK 201:=.of Tryz.func201 rfl rfl
def Q108:ap CK 108:=.of Tryz.func108 rfl rfl
def Q109:ap CK 109:=.of Tryz.func109 rfl rfl
def Q68:ap CK 68:=.of Tryz.func68 rfl rfl
def Q136:ap CK 136:=.of Tryz.func136 rfl rfl
def Q135:ap CK 135:=.of Tryz.func135 rfl rfl
def wr(h:p:=by with_reducible rfl):=h
def om(h:p:=by omega):=h
def aG(h:p:=by assumption):=h
def ro(h:p:=by repeat' first|exact trivial|exact rfl|exact(λ _=>aR _)|exact(λ _=>by assumption)|exact(λ _=>bn _ (λ _=>rfl) _)|exact(λ _=>cm (λ _=>rfl) _)|(intro h;cases h;done)|(intro _;rfl)|(intro _;exact ct _ (bn _ (λ _=>rfl) _))|exact iS _ (bn _ (λ _=>rfl) _)|refine And.intro ?_ ?_|refine ew ?_ ?_|(intro _;refine cq ?_ ?_)|refine cq ?_ ?_|(intro _;refine fE ?_ ?_)|exact ct _ (bn _ (λ _=>rfl) _)|exact bn _ (λ _=>rfl) _):=h
def JV:ap CK 10:=.of Tryz.func10 rfl rfl
def JW:ap CK 11:=.of Tryz.func11 rfl rfl
def HQ:ap CK 12:=.of Tryz.func12 rfl rfl
def VX:ap CK 13:=.of Tryz.func13 rfl rfl
def RY:ap CK 14:=.of Tryz.func14 rfl rfl
def NB:ap CK 16:=.of Tryz.func16 rfl rfl
def Fc:ap CK 17:=.of Tryz.func17 rfl rfl
def RZ:ap CK 18:=.of Tryz.func18 rfl rfl
def R6:ap CK 19:=.of Tryz.func19 rfl rfl
def NC:ap CK 29:=.of Tryz.func29 rfl rfl
def SI:ap CK 31:=.of Tryz.func31 rfl rfl
def R7:ap CK 32:=.of Tryz.func32 rfl rfl
def R8:ap CK 39:=.of Tryz.func39 rfl rfl
def JX:ap CK 43:=.of Tryz.func43 rfl rfl
def R9:ap CK 44:=.of Tryz.func44 rfl rfl
def HR:ap CK 56:=.of Tryz.func56 rfl rfl
def Vh:ap CK 63:=.of Tryz.func63 rfl rfl
def Vi:ap CK 64:=.of Tryz.func64 rfl rfl
def Vj:ap CK 65:=.of Tryz.func65 rfl rfl
def VY:ap CK 79:=.of Tryz.func79 rfl rfl
def Vk:ap CK 81:=.of Tryz.func81 rfl rfl
def Sa:ap CK 86:=.of Tryz.func86 rfl rfl
def Vl:ap CK 97:=.of Tryz.func97 rfl rfl
def VZ:ap CK 98:=.of Tryz.func98 rfl rfl
def ND:ap CK 100:=.of Tryz.func100 rfl rfl
def NE:ap CK 101:=.of Tryz.func101 rfl rfl
def NF:ap CK 102:=.of Tryz.func102 rfl rfl
def Bl:ap CK 105:=.of Tryz.func105 rfl rfl
def SJ:ap CK 111:=.of Tryz.func111 rfl rfl
def SK:ap CK 113:=.of Tryz.func113 rfl rfl
def NG:ap CK 117:=.of Tryz.func117 rfl rfl
def SL:ap CK 128:=.of Tryz.func128 rfl rfl
def NH:ap CK 129:=.of Tryz.func129 rfl rfl
def NI:ap CK 130:=.of Tryz.func130 rfl rfl
def NJ:ap CK 132:=.of Tryz.func132 rfl rfl
def NK:ap CK 133:=.of Tryz.func133 rfl rfl
def SM:ap CK 134:=.of Tryz.func134 rfl rfl
def SN:ap CK 138:=.of Tryz.func138 rfl rfl
def SO:ap CK 139:=.of Tryz.func139 rfl rfl
def SP:ap CK 141:=.of Tryz.func141 rfl rfl
def vR:ap CK 142:=.of Tryz.func142 rfl rfl
def vS:ap CK 143:=.of Tryz.func143 rfl rfl
def JY:ap CK 144:=.of Tryz.func144 rfl rfl
def SQ:ap CK 147:=.of Tryz.func147 rfl rfl
def SS:ap CK 148:=.of Tryz.func148 rfl rfl
def fa:ap CK 152:=.of Tryz.func152 rfl rfl
def SU:ap CK 155:=.of Tryz.func155 rfl rfl
def SV:ap CK 160:=.of Tryz.func160 rfl rfl
def SW:ap CK 163:=.of Tryz.func163 rfl rfl
def NL:ap CK 164:=.of Tryz.func164 rfl rfl
def SX:ap CK 165:=.of Tryz.func165 rfl rfl
def SY:ap CK 168:=.of Tryz.func168 rfl rfl
def SZ:ap CK 170:=.of Tryz.func170 rfl rfl
def Bm:ap CK 175:=.of Tryz.func175 rfl rfl
def S4:ap CK 176:=.of Tryz.func176 rfl rfl
def S5:ap CK 186:=.of Tryz.func186 rfl rfl
def S6:ap CK 187:=.of Tryz.func187 rfl rfl
def S7:ap CK 188:=.of Tryz.func188 rfl rfl
def S8:ap CK 189:=.of Tryz.func189 rfl rfl
def S9:ap CK 193:=.of Tryz.func193 rfl rfl
def Ta:ap CK 198:=.of Tryz.func198 rfl rfl
end Go.Proofs.YtefjnofhgkjpmaaGreat
namespace Go.Proofs.YtefjnofhgkjpmaaGreat
open Go.RowKit Go.Bw Go.Vx
open List (length getD map take drop flatMap replicate)
namespace Vp
def wB (c:GA)(n z:Nat):Bool:=Ga&&Wf (0+n*z) (v0 c)&&Ga&&ab (bif Ga&&V9 (n*z) (v0 c)then c else wx (n*z) (drop 0 c))
abbrev wD (c:GA)(n z:Nat):D:=Wu (Wf 1 n) n z (bif Ga&&V9 (n*z) (v0 c)then c else wx (n*z) (drop 0 c))
abbrev iD (i:Int):D:=.v (.int .i64 i)
abbrev aP:D:=.v (.slice z9 0 0)
abbrev uD (n:Nat):D:=.v (.int .u32 (n:Int))
abbrev nD (n:Nat):D:=.v (.int .i64 (n:Int))
abbrev bD (b:Bool):D:=.v (.bool b)
abbrev fK (n:Nat):D:=.v (.int .u8 (n:Int))
def lk {α β:Type}(b:List β)(x:α):α:=match b with
 |[]=>x
 |_::_=>x
def aM {α β:Type}(b:List β)(x:α):lk b x=x:=by cases b<;>rfl
def lh (b:Z4)(p:Nat):Nat:=(b.getD (p/8) lb).toNat/2^(p%8)%2
def NM (b:Z4)(p:Nat):Nat->Nat
 |0=>0
 |n+1=>NM b p n+2^n*lh b (p+n)
def Tb (b:Z4)(p m:Nat):Nat:=lk b (if 8*b.length<p+m then 0 else NM b p m)
def V0 (b:Z4)(p m:Nat):Nat:=lk b (if 8*b.length<p+m then 10 else 0)
def bj:Z4->Nat
 |[]=>0
 |x::r=>(if x.toNat=0 then 0 else 2^(15-x.toNat))+bj r
def bA:Z4->Nat
 |[]=>0
 |x::r=>(if x.toNat=0 then 0 else 1)+bA r
def ek (l:Z4)(most:Nat):Bool:=l.any λ x=>Ao (most<x.toNat)
def zZ (a c:Z4):bj (a++c)=bj a+bj c:=by
 induction a with
 |nil=>simp[bj]
 |cons x r ih=>rw[YO,bj,bj,ih];omega
def z0 (a c:Z4):bA (a++c)=bA a+bA c:=by
 induction a with
 |nil=>simp[bA]
 |cons x r ih=>rw[YO,bA,bA,ih];omega
def Bn (l:Z4):bA l<=l.length:=by
 induction l with
 |nil=>exact Wl _
 |cons x r ih=>rw[bA,WQ];split<;>omega
def Bo (l:Z4):bj l<=l.length*32768:=by
 induction l with
 |nil=>exact Wl _
 |cons x r ih=>
  rw[bj,WQ];have:2^(15-x.toNat)<=2^15:=Xh (by decide) om
  split<;>omega
def qm {l:Z4}{i:Nat}(h:i<l.length):l.take (i+1)=l.take i++[l.getD i lb]:=iU h
def il {l:Z4}{i:Nat}(h:i<l.length):bj (l.take (i+1))=bj (l.take i)+(if(l.getD i lb).toNat=0 then 0 else 2^(15-(l.getD i lb).toNat)):=by
 rw[qm h,zZ];rfl
def jQ {l:Z4}{i:Nat}(h:i<l.length):bA (l.take (i+1))=bA (l.take i)+(if(l.getD i lb).toNat=0 then 0 else 1):=by
 rw[qm h,z0];rfl
def vT (l:Z4)(most:Nat):Nat:=
 if 320<l.length then 4 else if ek l most=Ga then 2 else if 32768<bj l then 30
 else if bj l=32768\/bA l=0\/bA l=1/\bj l=16384 then 0 else 31
def dC (l:Z4)(most:Nat):Nat:=lk l (vT l most)
def kv (l:Z4)(most:Nat):dC l most=vT l most:=aM _ _
def xu {l:Z4}{most i:Nat}(h:i<l.length)(h2:most<(l.getD i lb).toNat):ek l most=true:=by
 unfold ek;rw[aay];refine⟨l.getD i lb,?_,decide_eq_true h2⟩;rw[Wd,Wa h];exact Xf h
def mW {l:Z4}{most:Nat}(h:∀i,i<l.length->(l.getD i lb).toNat<=most):ek l most=false:=by
 unfold ek;rw[List.any_eq_false];intro x hx;obtain⟨i,hi⟩:=Xo hx;have hlt:=(List.getElem?_eq_some_iff.1 hi).1;have:=h i hlt;rw[Wd,hi]at this;simpa using this
def f6 {l:Z4}{most:Nat}(h:ek l most=Gd){i:Nat}(hi:i<l.length):(l.getD i lb).toNat<=most:=by
 rcases WR most (l.getD i lb).toNat with q|q
 ·rw[xu hi q]at h;cases h
 ·exact q
def gg {l:Z4}{most:Nat}(h:dC l most=0):l.length<=320/\ek l most=Gd/\bj l<=32768:=by
 rw[kv]at h;unfold vT at h
 split at h
 ·cases h
 ·split at h
  ·cases h
  ·split at h
   ·cases h
   ·refine⟨by omega,by simp_all,by omega⟩
def fb (l:Z4)(n k:Nat):Gw:=(Xp k).filter λ i=>Ao ((l.getD i lb).toNat=n)
def tO (l:Z4):Nat->Gw
 |0=>[]
 |n+1=>tO l n++(if n=0 then[]else fb l n l.length)
def Bp (l:Z4)(n:Nat):Nat:=if n=0 then 0 else(fb l n l.length).length
def aS (l:Z4)(n:Nat):Nat:=lk l (Bp l n)
def dR (l:Z4):Gw:=lk l (tO l 16)
def Vn (f:Nat->Nat):GA:=[nD (f 0),nD (f 1),nD (f 2),nD (f 3),nD (f 4),nD (f 5),nD (f 6),nD (f 7),nD (f 8),nD (f 9),nD (f 10),nD (f 11),nD (f 12),nD (f 13),nD (f 14),nD (f 15)]
def NN (m:Nat)(l:Z4):GA:=Vn (aS l)++[.sl Gd m 1 ((dR l).map nD)]
abbrev HS (m:Nat)(l:Z4):D:=.agg (NN m l)
def fw (l:Z4)(n k:Nat):fb l n (k+1)=fb l n k++(if(l.getD k lb).toNat=n then[k]else[]):=by
 unfold fb;rw[Y0,List.filter_append]
 congr 1
 rw[List.filter_cons,List.filter_nil]
 by_cases h:(l.getD k lb).toNat=n
 ·rw[ZF h,ZF (decide_eq_true h)]
 ·rw[ZE h,ZE (by simpa using h)]
def rl (l:Z4)(n k:Nat):(fb l n k).length<=k:=by
 unfold fb;exact Ww (List.length_filter_le _ _) (by simp)
def Bq {l:Z4}{n k i:Nat}:i∈fb l n k↔i<k/\(l.getD i lb).toNat=n:=by
 unfold fb;simp
def oe (l:Z4)(n:Nat):aS l n=Bp l n:=aM _ _
@[simp] def og (xs:Gw):ab (xs.map nD)=true:=bn _ (λ _=>rfl) xs
def rb (s:Nat):Nat:=if s=16 then 2 else if s=17 then 3 else if s=18 then 7 else 0
def p2 (s:Nat):Nat:=2^rb s
structure Rn where
 s:Nat
 x:Nat
 deriving Inhabited
abbrev nl:=List Rn
abbrev dh (r:Rn):GA:=[nD r.s,nD r.x]
def xv (s:Nat):p2 s<=128/\rb s<=7:=by unfold p2 rb;split;decide;split;decide;split<;>decide
def NO (s:Nat)(h:s<=18):S0 113 [nD s] [] (.tup [nD (rb s),iD 0]) []:=SpR Tryz.func113 rfl rfl rfl trivial rfl 1000 64 (λ R ok=>.F 13 (Ao (18<(s:Int))) (by(refine decide_eq_false ?_;(omega)))<|.R 4 ((s:Int)==16) (λ p0=>have Z9:=eq_of_beq p0;.U 2 [] [] (Xm [zI 2,zI 0]) [] R (ok _ _ (by((have hs:s=16:=by omega);subst hs;rfl)) wr)) (λ p0=>have Z9:=ak p0;.R 4 ((s:Int)==17) (λ p1=>have Z8:=eq_of_beq p1;.U 2 [] [] (Xm [zI 3,zI 0]) [] R (ok _ _ (by((have hs:s=17:=by omega);subst hs;rfl)) wr)) (λ p1=>have Z8:=ak p1;.R 4 ((s:Int)==18) (λ p2=>have Z7:=eq_of_beq p2;.U 2 [] [] (Xm [zI 7,zI 0]) [] R (ok _ _ (by((have hs:s=18:=by omega);subst hs;rfl)) wr)) (λ p2=>have Z7:=ak p2;.U 2 [] [] (Xm [zI 0,zI 0]) [] R (ok _ _ (by(rw[show rb s=0 from by unfold rb;rw[ZE om,ZE om,ZE om]];rfl)) wr))))) kr
structure Sy where
 bits:Nat
 least:Nat
 many:Nat
 deriving Inhabited
abbrev a9:=List Sy
abbrev js (s:Sy):GA:=[nD s.bits,nD s.least,nD s.many]
def ay:a9:=[⟨0,3,1⟩,⟨0,4,1⟩,⟨0,5,1⟩,⟨0,6,1⟩,⟨0,7,1⟩,⟨0,8,1⟩,⟨0,9,1⟩,⟨0,10,1⟩,⟨1,11,2⟩,⟨1,13,2⟩,⟨1,15,2⟩,⟨1,17,2⟩,⟨2,19,4⟩,⟨2,23,4⟩,⟨2,27,4⟩,⟨2,31,4⟩,⟨3,35,8⟩,⟨3,43,8⟩,⟨3,51,8⟩,⟨3,59,8⟩,⟨4,67,16⟩,⟨4,83,16⟩,⟨4,99,16⟩,⟨4,115,16⟩,⟨5,131,32⟩,⟨5,163,32⟩,⟨5,195,32⟩,⟨5,227,31⟩,⟨0,258,1⟩]
def aK:a9:=[⟨0,1,1⟩,⟨0,2,1⟩,⟨0,3,1⟩,⟨0,4,1⟩,⟨1,5,2⟩,⟨1,7,2⟩,⟨2,9,4⟩,⟨2,13,4⟩,⟨3,17,8⟩,⟨3,25,8⟩,⟨4,33,16⟩,⟨4,49,16⟩,⟨5,65,32⟩,⟨5,97,32⟩,⟨6,129,64⟩,⟨6,193,64⟩,⟨7,257,128⟩,⟨7,385,128⟩,⟨8,513,256⟩,⟨8,769,256⟩,⟨9,1025,512⟩,⟨9,1537,512⟩,⟨10,2049,1024⟩,⟨10,3073,1024⟩,⟨11,4097,2048⟩,⟨11,6145,2048⟩,⟨12,8193,4096⟩,⟨12,12289,4096⟩,⟨13,16385,8192⟩,⟨13,24577,8192⟩]
def Fe (T:a9)(hT:T=ay):S0 160 [] [] (.agg [iD 257,.ref 0 0 0 29 3]) [⟨T.flatMap js, 248,Ga⟩]:=SpR Tryz.func160 rfl rfl rfl ⟨cV (λ _=>rfl) _,trivial⟩ rfl 4000 64 (λ R ok=>.U 1376 [5080] [5080] (W6 [zI 257,Wb 0 0 0 29 3]) [V8 [zI 0,zI 3,zI 1,zI 0,zI 4,zI 1,zI 0,zI 5,zI 1,zI 0,zI 6,zI 1,zI 0,zI 7,zI 1,zI 0,zI 8,zI 1,zI 0,zI 9,zI 1,zI 0,zI 10,zI 1,zI 1,zI 11,zI 2,zI 1,zI 13,zI 2,zI 1,zI 15,zI 2,zI 1,zI 17,zI 2,zI 2,zI 19,zI 4,zI 2,zI 23,zI 4,zI 2,zI 27,zI 4,zI 2,zI 31,zI 4,zI 3,zI 35,zI 8,zI 3,zI 43,zI 8,zI 3,zI 51,zI 8,zI 3,zI 59,zI 8,zI 4,zI 67,zI 16,zI 4,zI 83,zI 16,zI 4,zI 99,zI 16,zI 4,zI 115,zI 16,zI 5,zI 131,zI 32,zI 5,zI 163,zI 32,zI 5,zI 195,zI 32,zI 5,zI 227,zI 31,zI 0,zI 258,zI 1] 248 Ga] R (ok _ _ wr (by(subst hT;rfl)))) kr
def JZ (T:a9)(hT:T=aK):S0 163 [] [] (.agg [iD 0,.ref 0 0 0 30 3]) [⟨T.flatMap js, 248,Ga⟩]:=SpR Tryz.func163 rfl rfl rfl ⟨cV (λ _=>rfl) _,trivial⟩ rfl 4000 64 (λ R ok=>.U 1562 [5768] [5768] (W6 [zI 0,Wb 0 0 0 30 3]) [V8 [zI 0,zI 1,zI 1,zI 0,zI 2,zI 1,zI 0,zI 3,zI 1,zI 0,zI 4,zI 1,zI 1,zI 5,zI 2,zI 1,zI 7,zI 2,zI 2,zI 9,zI 4,zI 2,zI 13,zI 4,zI 3,zI 17,zI 8,zI 3,zI 25,zI 8,zI 4,zI 33,zI 16,zI 4,zI 49,zI 16,zI 5,zI 65,zI 32,zI 5,zI 97,zI 32,zI 6,zI 129,zI 64,zI 6,zI 193,zI 64,zI 7,zI 257,zI 128,zI 7,zI 385,zI 128,zI 8,zI 513,zI 256,zI 8,zI 769,zI 256,zI 9,zI 1025,zI 512,zI 9,zI 1537,zI 512,zI 10,zI 2049,zI 1024,zI 10,zI 3073,zI 1024,zI 11,zI 4097,zI 2048,zI 11,zI 6145,zI 2048,zI 12,zI 8193,zI 4096,zI 12,zI 12289,zI 4096,zI 13,zI 16385,zI 8192,zI 13,zI 24577,zI 8192] 248 Ga] R (ok _ _ wr (by(subst hT;rfl)))) kr
def Ex(h:p:=by(refine aF ?_;(omega))):=h
def J0(h:p:=by(simp only[bg (k:=2) (λ(x:Rn)=>(rfl:(dh x).length=2)),Nat.beq_refl,Bool.true_and,Bool.and_true];refine Nat.ble_eq_true_of_le ?_;(omega))):=h
def J1(h:p:=by(rw[List.length_append];rfl)):=h
def J2(h:p:=by(rw[List.length_append];simp only[List.length_singleton];(omega))):=h
def NP(h:p:=by((refine aA ?_ ?_)<;>(repeat' (first|(refine aA ?_ ?_)|(with_reducible rfl)|(refine decide_eq_true ?_)|(refine Nat.ble_eq_true_of_le ?_)|(refine dg ?_)))<;>(omega))):=h
def Sb(h:p:=by show n-(a+1)<n-a;clear ZB ZD;omega):=h
def Tc(h:p:=by(simp;have h9:=iE (l:=l) (a:=a) om;omega)):=h
def Td(h:p:=by(have h9:=iE (l:=l) (a:=a) om;omega)):=h
def Te(h:p:=by(simp only[Nat.mul_one]at *;have h9:=iE (l:=l) (a:=a) om;exact NR hR om om om om)):=h
def sS (l:Z4)(a:Nat):Nat->Nat->Nat
 |0,n=>n
 |f+1,n=>if a+n<l.length/\l.getD (a+n) lb=l.getD a lb then sS l a f (n+1)else n
def bG (l:Z4)(a:Nat):Nat:=lk l (sS l a l.length 0)
def vU (l:Z4)(a:Nat):bG l a=sS l a l.length 0:=aM _ _
def NQ {l:Z4}{a f n T:Nat}(hR:sS l a f n=T)(hf:l.length<=a+n+f)(h:a+n<l.length)(h2:l.getD (a+n) lb=l.getD a lb):sS l a (f-1) (n+1)=T:=by
 obtain⟨g,rfl⟩:∃g,f=g+1:=⟨f-1,by omega⟩
 rw[<-hR];exact(ZF ⟨h,h2⟩).symm
def J3 {l:Z4}{a f n T:Nat}(hR:sS l a f n=T)(h:¬(a+n<l.length/\l.getD (a+n) lb=l.getD a lb)):n=T:=by
 rw[<-hR];cases f with
 |zero=>rfl
 |succ f=>exact(ZE h).symm
def Br {x y:UInt8}(h:((x.toNat:Nat):Int)=((y.toNat:Nat):Int)):x=y:=UInt8.toNat_inj.1 om
def HT {l:Z4}{a f n T u v:Nat}(hR:sS l a f n=T)(hf:l.length<=a+n+f)(h:a+n<l.length)(hu:u=a+n)(hv:v=a)(h2:(((l.getD u lb).toNat:Nat):Int)=(((l.getD v lb).toNat:Nat):Int)):sS l a (f-1) (n+1)=T:=by
 subst hu hv;exact NQ hR hf h (Br h2)
def HU {l:Z4}{a f n T u v:Nat}(hR:sS l a f n=T)(hu:u=a+n)(hv:v=a)(h2:(((l.getD u lb).toNat:Nat):Int)≠(((l.getD v lb).toNat:Nat):Int)):n=T:=by
 subst hu hv;exact J3 hR (λ q=>h2 (by rw[q.2]))
def HV {l:Z4}{a:Nat}:∀(f n:Nat),a+n<=l.length->n<=sS l a f n/\a+sS l a f n<=l.length
 |0,n,h=>⟨Wl _,h⟩
 |f+1,n,h=>by
  rw[sS];split
  ·next q=>have:=HV (l:=l) (a:=a) f (n+1) om;omega
  ·exact⟨Wl _,h⟩
def iE {l:Z4}{a:Nat}(h:a<l.length):1<=bG l a/\a+bG l a<=l.length:=by
 rw[vU];obtain⟨f,hf⟩:∃f,l.length=f+1:=⟨l.length-1,by omega⟩
 rw[hf,sS,ZF ⟨by omega,by rw[X4]⟩];have:=HV (l:=l) (a:=a) f (0+1) om;omega
def jG (l:Z4):Nat->Nat->nl
 |0,_=>[]
 |f+1,a=>if l.length<=a then[]
  else if(l.getD a lb).toNat=0/\11<=bG l a then⟨18,min (bG l a) 138-11⟩::jG l f (a+min (bG l a) 138)
  else if(l.getD a lb).toNat=0/\3<=bG l a then⟨17,bG l a-3⟩::jG l f (a+bG l a)
  else if 0<(l.getD a lb).toNat/\0<a/\(l.getD (a-1) lb).toNat=(l.getD a lb).toNat/\3<=bG l a then⟨16,min (bG l a) 6-3⟩::jG l f (a+min (bG l a) 6)
  else⟨(l.getD a lb).toNat,0⟩::jG l f (a+1)
def xw (l:Z4):nl:=lk l (jG l l.length 0)
def rm (l:Z4):xw l=jG l l.length 0:=aM _ _
section
variable {l:Z4} {f a:Nat} {o T:List Rn}
def Ff (hR:o++jG l f a=T)(h:l.length<=a):o=T:=by
 rw[<-hR];cases f with
 |zero=>exact(Xn _).symm
 |succ f=>rw[jG,ZF h];exact(Xn _).symm
def Tf (hR:o++jG l f a=T)(hf:l.length<=a+f)(h:a<l.length)(h0:(l.getD a lb).toNat=0)(h1:11<=bG l a):(o++[⟨18,min (bG l a) 138-11⟩])++jG l (f-1) (a+min (bG l a) 138)=T:=by
 obtain⟨g,rfl⟩:∃g,f=g+1:=⟨f-1,by omega⟩
 rw[<-hR,jG,ZE om,ZF ⟨h0,h1⟩,WI];rfl
def Tg (hR:o++jG l f a=T)(hf:l.length<=a+f)(h:a<l.length)(h0:(l.getD a lb).toNat=0)(h1:¬11<=bG l a)(h2:3<=bG l a):(o++[⟨17,bG l a-3⟩])++jG l (f-1) (a+bG l a)=T:=by
 obtain⟨g,rfl⟩:∃g,f=g+1:=⟨f-1,by omega⟩
 rw[<-hR,jG,ZE om,ZE (λ q=>h1 q.2),ZF ⟨h0,h2⟩,WI];rfl
def Th (hR:o++jG l f a=T)(hf:l.length<=a+f)(h:a<l.length)(h0:0<(l.getD a lb).toNat)(ha:0<a)(h1:(l.getD (a-1) lb).toNat=(l.getD a lb).toNat)(h2:3<=bG l a):(o++[⟨16,min (bG l a) 6-3⟩])++jG l (f-1) (a+min (bG l a) 6)=T:=by
 obtain⟨g,rfl⟩:∃g,f=g+1:=⟨f-1,by omega⟩
 rw[<-hR,jG,ZE om,ZE (λ q=>by omega),ZE (λ q=>by omega),ZF ⟨h0,ha,h1,h2⟩,WI];rfl
def NR (hR:o++jG l f a=T)(hf:l.length<=a+f)(h:a<l.length)(h0:¬((l.getD a lb).toNat=0/\3<=bG l a))(h1:¬(0<(l.getD a lb).toNat/\0<a/\(l.getD (a-1) lb).toNat=(l.getD a lb).toNat/\3<=bG l a)):(o++[⟨(l.getD a lb).toNat,0⟩])++jG l (f-1) (a+1)=T:=by
 obtain⟨g,rfl⟩:∃g,f=g+1:=⟨f-1,by omega⟩
 rw[<-hR,jG,ZE om,ZE (λ q=>h0 ⟨q.1,by omega⟩),ZE h0,ZE h1,WI];rfl
end
def NS {o:nl}{x:Rn}:(o++[x]).flatMap dh=o.flatMap dh++[nD x.s,nD x.x]:=by rw[Xj];rfl
def Fg (l:Z4)(n:Nat)(hn:n=l.length)(hn2:n<=320)(a:Nat)(ha:a<n):S0 147 [nD a,.ep [.sl Gd n 1 (l.map dB)] 0] [] (nD (bG l a)) []:=SpR Tryz.func147 rfl rfl rfl trivial rfl 1000 64 (λ R ok=>.s 1<|Hn.inl T_ok ae Gd 26 0 (am Tryz.prog 147 0) (λ(x:(i:Nat)×'(f:Nat)×'(hi:a+i<=n)×'(hf:n<=a+i+f)×'(hR:sS l a f i=bG l a)×'Unit)=>match x with|⟨i,f,hi,hf,hR,_⟩=>CutS.mk [(0,zN a),(1,D.ep [Wu Gd n 1 (wo dB l)] 0),(3,nD i)] [] 0) (λ(x:(i:Nat)×'(f:Nat)×'(hi:a+i<=n)×'(hf:n<=a+i+f)×'(hR:sS l a f i=bG l a)×'Unit)=>match x with|⟨i,f,hi,hf,hR,_⟩=>n-i) [⟨Unit,.exit 0,λ()=>CutS.mk [(0,zN a),(1,D.ep [Wu Gd n 1 (wo dB l)] 0),(3,nD (bG l a))] [] 0⟩] 1000 64 (fun|⟨i,f,hi,hf,hR,_⟩,Q,ZB,ZD=>.W 5 (a+i)<|.B 8 ((a:Int)+i<n) (λ p0 Z9=>.W 9 (a+i)<|.K 2 (Ga&&Ao ((a:Int)+i<n)&&Ga) NP<|.O 3 ((wo dB l)[zL ((a:Int)+i)*1]?) (dB (wm l (zL ((a:Int)+i)*1) lb)) (aj _ _ om)<|.K 8 (Ga&&Ao ((a:Int)<n)&&Ga) NP<|.O 3 ((wo dB l)[a*1]?) (dB (wm l (a*1) lb)) (aj _ _ om)<|.R 4 ((↑(V7 (wm l (zL ((a:Int)+i)*1) lb)):Int)==(↑(V7 (wm l (a*1) lb)):Int)) (λ p1=>have Z8:=eq_of_beq p1;.W 3 (i+1)<|.V 1 3 (zI (i+1)) (zN (i+1)) Ex<|Hn.next ZB ⟨(i+1),(f-1),om,om,(by(exact HT (u:=((a:Int)+i).toNat*1) (v:=a*1) hR om om om om om)),⟨⟩⟩ (by show n-(i+1)<n-i;clear ZB ZD;omega) [] ro) (λ p1=>have Z8:=ak p1;.val 3 (zN i) (zN (bG l a)) (by(rw[HU (u:=((a:Int)+i).toNat*1) (v:=a*1) hR om om om]))<|Hn.last ZD 0 (():Unit) rfl [] ro)) (λ p0 Z9=>.V 22 3 (zN i) (zN (bG l a)) (by(rw[J3 hR om]))<|Hn.last ZD 0 (():Unit) rfl [] ro)) (fun|⟨i,f,hi,hf,hR,_⟩=>by kernel_rfl) ⟨(0),(n),om,om,(by(rw[hn];exact(vU l a).symm)),⟨⟩⟩ [] ro (bB (fun|()=>.Y 2 [] [] (zN (bG l a)) [] ok))) kr
def NT (n k:Nat):mr .i64 Gd (n:Int) (k:Int)=Ge (nD (min n k)):=E7 om
def kw (l:Z4):∀(f a:Nat),(jG l f a).length<=f
 |0,_=>Wl _
 |f+1,a=>by
  rw[jG]
  split
  ·exact W5 _
  ·split
   ·exact YN (kw l f _)
   ·split
    ·exact YN (kw l f _)
    ·split
     ·exact YN (kw l f _)
     ·exact YN (kw l f _)
def Ti (l:Z4)(n:Nat)(hn:n=l.length)(hn2:n<=320)(ho:∀i,i<n->(l.getD i lb).toNat<=15)(T:nl)(hT:xw l=T):S0 110 [.sl Gd n 1 (l.map dB)] [] (.tup [.ref 0 0 0 T.length 2,iD 0]) [⟨T.flatMap dh, 187,Ga⟩]:=SpR Tryz.func110 rfl rfl rfl ⟨cV (λ _=>rfl) _,trivial⟩ rfl 1000 64 (λ R ok=>.F 10 (Ao (320<(n:Int))) (by(refine decide_eq_false ?_;(omega)))<|.s 5<|Hn.inl T_ok ae Gd 101 0 (am Tryz.prog 110 0) (λ(x:(i:Nat)×'(hi:i<=n)×'Unit)=>match x with|⟨i,hi,_⟩=>CutS.mk [(1,WA 0 0 0),(2,aP),(13,Wu Gd n 1 (wo dB l)),(14,zN n),(15,nD i)] [⟨0,0,0,0,.b ⟨[Wu Gd n 1 (wo dB l)],24,Gd⟩⟩] 8) (λ(x:(i:Nat)×'(hi:i<=n)×'Unit)=>match x with|⟨i,hi,_⟩=>n-i) [⟨Unit,.exit 0,λ()=>CutS.mk [(1,WA 0 0 0),(2,aP),(13,Wu Gd n 1 (wo dB l)),(14,zN n),(15,nD n)] [⟨0,0,0,0,.b ⟨[Wu Gd n 1 (wo dB l)],24,Gd⟩⟩] 8⟩] 1000 64 (fun|⟨i,hi,_⟩,Q,ZB,ZD=>.B 2 ((i:Int)<n) (λ p0 Z9=>.K 1 (Ga&&Ao ((i:Int)<n)&&Ga) NP<|.O 2 ((wo dB l)[i*1]?) (dB (wm l (i*1) lb)) (aj _ _ om)<|.F 4 (Ao (15<(↑(V7 (wm l (i*1) lb)):Int))) (by(refine decide_eq_false ?_;have h9:=ho (i*1) om;omega))<|.W 2 (i+1)<|.V 1 15 (zI (i+1)) (zN (i+1)) Ex<|Hn.next ZB ⟨(i+1),om,⟨⟩⟩ (by show n-(i+1)<n-i;clear ZB ZD;omega) [(0,0)] ro) (λ p0 Z9=>.val 15 (zN i) (zN n) Ex<|Hn.last ZD 0 (():Unit) rfl [(0,0)] ro)) (fun|⟨i,hi,_⟩=>by kernel_rfl) ⟨(0),om,⟨⟩⟩ [(0,0)] ro (bB (fun|()=>.s 3<|.nils 2 32 2 187<|Hn.inl T_ok ae Gd 101 0 (am Tryz.prog 110 1) (λ(x:(a:Nat)×'(f:Nat)×'(o:nl)×'(ha:a<=n)×'(hf:n<=a+f)×'(hq:o.length<=a)×'(hR:o++jG l f a=T)×'Unit)=>match x with|⟨a,f,o,ha,hf,hq,hR,_⟩=>CutS.mk [(1,WA 0 0 0),(2,(Wb 8 8 (0) (o.length) 2)),(6,D.fn (Fn.func 147) [] [WA 0 0 0]),(7,nD a)] [⟨0,0,0,0,.b ⟨[Wu Gd n 1 (wo dB l)],24,Gd⟩⟩,⟨8,8,32,32,.b ⟨o.flatMap dh,187,Ga⟩⟩] 16) (λ(x:(a:Nat)×'(f:Nat)×'(o:nl)×'(ha:a<=n)×'(hf:n<=a+f)×'(hq:o.length<=a)×'(hR:o++jG l f a=T)×'Unit)=>match x with|⟨a,f,o,ha,hf,hq,hR,_⟩=>n-a) [⟨Unit,.exit 2,λ()=>CutS.mk [(1,WA 0 0 0),(2,(Wb 8 8 (0) (T.length) 2)),(6,D.fn (Fn.func 147) [] [WA 0 0 0])] [⟨0,0,0,0,.b ⟨[Wu Gd n 1 (wo dB l)],24,Gd⟩⟩,⟨8,8,32,32,.b ⟨T.flatMap dh,187,Ga⟩⟩] 16⟩] 1000 64 (fun|⟨a,f,o,ha,hf,hq,hR,_⟩,Q,ZB,ZD=>.B 7 ((a:Int)<n) (λ p1 Z8=>.C 4 147 Gd [] (.fn SQ (@Fg (l) (n) om om (a) om))<|.K 5 (Ga&&Ao ((a:Int)<n)&&Ga) NP<|.O 2 ((wo dB l)[a*1]?) (dB (wm l (a*1) lb)) (aj _ _ om)<|.I 1 (↑(V7 (wm l (a*1) lb)):Int) (by(exact dN _ (by decide) (by decide)))<|.R 7 ((↑(V7 (wm l (a*1) lb)):Int)==0) (λ p2=>have Z7:=eq_of_beq p2;.B 5 (11<=(↑(bG l a):Int)) (λ p3 Z6=>.O 2 (mr Wv Gd (↑(bG l a):Int) (↑138:Int)) (nD (min (bG l a) 138)) (@NT (bG l a) 138)<|.W 5 ((↑(min (bG l a) 138):Int)-11)<|.K 5 (Ga&&V9 (v0 o*2) (v0 (v8 dh o))&&Ga&&Ga&&Ga&&Ga&&Wf ((v0 o+1)*16) 140737488355328) J0<|.W 5 (a+(↑(min (bG l a) 138):Int))<|.V 1 2 (Wb 248 248 0 (v0 o+1) 2) (Wb 248 248 0 (v0 (o++[Rn.mk 18 (min (bG l a) 138-11)])) 2) J1<|.val 7 (zI (a+(↑(min (bG l a) 138):Int))) (zN (a+min (bG l a) 138)) Ex<|.blk 248 248 (V8 (v8 dh o++[zI 18,zI ((↑(min (bG l a) 138):Int)-11)]) 187 Ga) (V8 (v8 dh (o++[Rn.mk 18 (min (bG l a) 138-11)])) 187 Ga) Tc<|Hn.next ZB ⟨(a+min (bG l a) 138),(f-1),(o++[⟨18,min (bG l a) 138-11⟩]),Td,om,J2,(by(simp only[Wx]at *;have h9:=iE (l:=l) (a:=a) om;exact Tf hR om om om om)),⟨⟩⟩ (by show n-(a+min (bG l a) 138)<n-a;clear ZB ZD;omega) [(0,0),(248,248)] ro) (λ p3 Z6=>.E 5 ((↑(V7 (wm l (a*1) lb)):Int)==0) p2<|.B 5 (3<=(↑(bG l a):Int)) (λ p4 Z5=>.W 4 ((↑(bG l a):Int)-3)<|.K 5 (Ga&&V9 (v0 o*2) (v0 (v8 dh o))&&Ga&&Ga&&Ga&&Ga&&Wf ((v0 o+1)*16) 140737488355328) J0<|.W 5 (a+(↑(bG l a):Int))<|.V 1 2 (Wb 280 280 0 (v0 o+1) 2) (Wb 280 280 0 (v0 (o++[Rn.mk 17 (bG l a-3)])) 2) J1<|.val 7 (zI (a+(↑(bG l a):Int))) (zN (a+bG l a)) Ex<|.blk 280 280 (V8 (v8 dh o++[zI 17,zI ((↑(bG l a):Int)-3)]) 187 Ga) (V8 (v8 dh (o++[Rn.mk 17 (bG l a-3)])) 187 Ga) Tc<|Hn.next ZB ⟨(a+bG l a),(f-1),(o++[⟨17,bG l a-3⟩]),Td,om,J2,(by(simp only[Wx]at *;have h9:=iE (l:=l) (a:=a) om;exact Tg hR om om om om om)),⟨⟩⟩ (by show n-(a+bG l a)<n-a;clear ZB ZD;omega) [(0,0),(280,280)] ro) (λ p4 Z5=>.F 5 (Ao (0<(↑(V7 (wm l (a*1) lb)):Int))) (by(refine decide_eq_false ?_;(omega)))<|.K 37 (Ga&&V9 (v0 o*2) (v0 (v8 dh o))&&Ga&&Ga&&Ga&&Ga&&Wf ((v0 o+1)*16) 140737488355328) J0<|.W 5 (a+1)<|.V 1 2 (Wb 448 448 0 (v0 o+1) 2) (Wb 448 448 0 (v0 (o++[Rn.mk (V7 (wm l a lb)) 0])) 2) J1<|.val 7 (zI (a+1)) (zN (a+1)) Ex<|.blk 448 448 (V8 (v8 dh o++[zN (V7 (wm l (a*1) lb)),zI 0]) 187 Ga) (V8 (v8 dh (o++[Rn.mk (V7 (wm l a lb)) 0])) 187 Ga) (by(simp;done))<|Hn.next ZB ⟨(a+1),(f-1),(o++[⟨(l.getD a lb).toNat,0⟩]),om,om,J2,Te,⟨⟩⟩ Sb [(0,0),(448,448)] ro))) (λ p2=>have Z7:=ak p2;.F 10 ((↑(V7 (wm l (a*1) lb)):Int)==0) p2<|.E 10 (Ao (0<(↑(V7 (wm l (a*1) lb)):Int))) (by(refine decide_eq_true ?_;(omega)))<|.B 6 (0<(a:Int)) (λ p5 p5f=>.W 7 (a-1)<|.K 2 (Ao (0<=(a:Int)-1)&&Ao ((a:Int)-1<n)&&Ga) NP<|.O 3 ((wo dB l)[zL ((a:Int)-1)*1]?) (dB (wm l (zL ((a:Int)-1)*1) lb)) (aj _ _ om)<|.I 2 (↑(V7 (wm l (zL ((a:Int)-1)*1) lb)):Int) (by(exact dN _ (by decide) (by decide)))<|.R 8 ((↑(V7 (wm l (zL ((a:Int)-1)*1) lb)):Int)==(↑(V7 (wm l (a*1) lb)):Int)) (λ p6=>have p6f:=eq_of_beq p6;.B 5 (3<=(↑(bG l a):Int)) (λ p7 p7f=>.O 2 (mr Wv Gd (↑(bG l a):Int) (↑6:Int)) (nD (min (bG l a) 6)) (@NT (bG l a) 6)<|.W 5 ((↑(min (bG l a) 6):Int)-3)<|.K 5 (Ga&&V9 (v0 o*2) (v0 (v8 dh o))&&Ga&&Ga&&Ga&&Ga&&Wf ((v0 o+1)*16) 140737488355328) J0<|.W 5 (a+(↑(min (bG l a) 6):Int))<|.V 1 2 (Wb 472 472 0 (v0 o+1) 2) (Wb 472 472 0 (v0 (o++[Rn.mk 16 (min (bG l a) 6-3)])) 2) J1<|.val 7 (zI (a+(↑(min (bG l a) 6):Int))) (zN (a+min (bG l a) 6)) Ex<|.blk 472 472 (V8 (v8 dh o++[zI 16,zI ((↑(min (bG l a) 6):Int)-3)]) 187 Ga) (V8 (v8 dh (o++[Rn.mk 16 (min (bG l a) 6-3)])) 187 Ga) Tc<|Hn.next ZB ⟨(a+min (bG l a) 6),(f-1),(o++[⟨16,min (bG l a) 6-3⟩]),Td,om,J2,(by(simp only[Wx]at *;have h9:=iE (l:=l) (a:=a) om;exact Th hR om om om om (by rw[show((a:Int)-1).toNat=a-1 from by omega]at *;omega) om)),⟨⟩⟩ (by show n-(a+min (bG l a) 6)<n-a;clear ZB ZD;omega) [(0,0),(472,472)] ro) (λ p7 p7f=>.K 8 (Ga&&V9 (v0 o*2) (v0 (v8 dh o))&&Ga&&Ga&&Ga&&Ga&&Wf ((v0 o+1)*16) 140737488355328) J0<|.W 5 (a+1)<|.V 1 2 (Wb 448 448 0 (v0 o+1) 2) (Wb 448 448 0 (v0 (o++[Rn.mk (V7 (wm l a lb)) 0])) 2) J1<|.val 7 (zI (a+1)) (zN (a+1)) Ex<|.blk 448 448 (V8 (v8 dh o++[zN (V7 (wm l (a*1) lb)),zI 0]) 187 Ga) (V8 (v8 dh (o++[Rn.mk (V7 (wm l a lb)) 0])) 187 Ga) (by(simp;done))<|Hn.next ZB ⟨(a+1),(f-1),(o++[⟨(l.getD a lb).toNat,0⟩]),om,om,J2,Te,⟨⟩⟩ Sb [(0,0),(448,448)] ro)) (λ p6=>have p6f:=ak p6;.K 13 (Ga&&V9 (v0 o*2) (v0 (v8 dh o))&&Ga&&Ga&&Ga&&Ga&&Wf ((v0 o+1)*16) 140737488355328) J0<|.W 5 (a+1)<|.V 1 2 (Wb 448 448 0 (v0 o+1) 2) (Wb 448 448 0 (v0 (o++[Rn.mk (V7 (wm l a lb)) 0])) 2) J1<|.val 7 (zI (a+1)) (zN (a+1)) Ex<|.blk 448 448 (V8 (v8 dh o++[zN (V7 (wm l (a*1) lb)),zI 0]) 187 Ga) (V8 (v8 dh (o++[Rn.mk (V7 (wm l a lb)) 0])) 187 Ga) (by(simp;done))<|Hn.next ZB ⟨(a+1),(f-1),(o++[⟨(l.getD a lb).toNat,0⟩]),om,om,J2,(by(simp only[Wx]at *;have h9:=iE (l:=l) (a:=a) om;rw[show((a:Int)-1).toNat=a-1 from by omega]at *;exact NR hR om om om om)),⟨⟩⟩ Sb [(0,0),(448,448)] ro)) (λ p5 p5f=>.K 31 (Ga&&V9 (v0 o*2) (v0 (v8 dh o))&&Ga&&Ga&&Ga&&Ga&&Wf ((v0 o+1)*16) 140737488355328) J0<|.W 5 (a+1)<|.V 1 2 (Wb 448 448 0 (v0 o+1) 2) (Wb 448 448 0 (v0 (o++[Rn.mk (V7 (wm l a lb)) 0])) 2) J1<|.val 7 (zI (a+1)) (zN (a+1)) Ex<|.blk 448 448 (V8 (v8 dh o++[zN (V7 (wm l (a*1) lb)),zI 0]) 187 Ga) (V8 (v8 dh (o++[Rn.mk (V7 (wm l a lb)) 0])) 187 Ga) (by(simp;done))<|Hn.next ZB ⟨(a+1),(f-1),(o++[⟨(l.getD a lb).toNat,0⟩]),om,om,J2,Te,⟨⟩⟩ Sb [(0,0),(448,448)] ro))) (λ p1 Z8=>.val 2 (Wb 8 8 0 (v0 o) 2) (Wb 8 8 0 (v0 T) 2) (by(rw[Ff hR om]))<|.blk 8 8 (V8 (v8 dh o) 187 Ga) (V8 (v8 dh T) 187 Ga) (by(rw[Ff hR om]))<|Hn.last ZD 0 (():Unit) rfl [(0,0),(8,8)] ro)) (fun|⟨a,f,o,ha,hf,hq,hR,_⟩=>by kernel_rfl) ⟨(0),(n),([]),om,om,(by(simp;done)),(by(rw[hn];exact(rm l).symm.trans hT)),⟨⟩⟩ [(0,0),(32,32)] ro (bB (fun|()=>.Y 3 [8] [8] (Xm [Wb 0 0 0 (v0 T) 2,zI 0]) [V8 (v8 dh T) 187 Ga] ok))))) kr
def Ew (T:a9)(f:Int)(s:Nat):Nat:=if f<=s/\s<f+T.length then 0 else 90
def bi (T:a9):Prop:=∀i,(T.getD i lb).bits<=13/\(T.getD i lb).least<=100000/\(T.getD i lb).many<=100000
def tP {T:a9}(h:T.all (λ y=>Ao (y.bits<=13)&&Ao (y.least<=100000)&&Ao (y.many<=100000))=Ga):bi T:=λ i=>by
 rw[Wd]
 cases hq:T[i]? with
 |none=>exact⟨W5 _,W5 _,W5 _⟩
 |some y=>
  have:=List.all_eq_true.1 h y (Xy hq);simp only[Wh,decide_eq_true_eq]at this;exact⟨this.1.1,this.1.2,this.2⟩
def NU {x:Int}(h:-9223372036854775808<=x/\x<=9223372036854775807):IntKind.i64.wrap x=x:=by
 have h2:=fv (x:=x) h;rw[aD]at h2;injection h2 with h3;injection h3 with h4;injection h4
def cH:bi ay:=tP (by decide)
def di:bi aK:=tP (by decide)
def Tj(h:p:=by(have q:=Tk hR om om rfl om om;have h9:=hz i;subst q;refine aF ?_;omega)):=h
def NV (s:Sy)(n:Nat):Bool:=Ao (s.least<=n/\n<s.least+s.many)
def qn (T:a9)(n:Nat):Nat->Nat->Nat
 |0,i=>i
 |f+1,i=>if NV (T.getD i lb) n=Ga then i else qn T n f (i+1)
def ai (T:a9)(n:Nat):Nat:=lk T (qn T n T.length 0)
def fL (T:a9)(n:Nat):ai T n=qn T n T.length 0:=aM _ _
def HW {T:a9}{n:Nat}:∀(f i:Nat),i<=qn T n f i
 |0,_=>Wl _
 |f+1,i=>by
  rw[qn];split
  ·exact Wl _
  ·exact Nat.le_of_succ_le (HW f (i+1))
def Tk {T:a9}{n f i I u:Nat}(hR:qn T n f i=I)(hf:T.length<=i+f)(hi:i<T.length)(hu:u=i)(h1:(T.getD u lb).least<=n)(h2:n<(T.getD u lb).least+(T.getD u lb).many):i=I:=by
 subst hu;obtain⟨g,rfl⟩:∃g,f=g+1:=⟨f-1,by omega⟩
 rw[<-hR,qn,ZF (show NV (T.getD u lb) n=Ga from decide_eq_true ⟨h1,h2⟩)]
def Fh {T:a9}{n f i I u:Nat}(hR:qn T n f i=I)(hf:T.length<=i+f)(hi:i<T.length)(hu:u=i)(h:¬((T.getD u lb).least<=n/\n<(T.getD u lb).least+(T.getD u lb).many)):qn T n (f-1) (i+1)=I/\i+1<=I:=by
 subst hu;obtain⟨g,rfl⟩:∃g,f=g+1:=⟨f-1,by omega⟩
 rw[qn,ZE (λ q:NV (T.getD u lb) n=Ga=>h (of_decide_eq_true q))]at hR;exact⟨hR,by rw[<-hR];exact HW g (u+1)⟩
def tQ {T:a9}{n:Nat}:∀(f i:Nat),qn T n f i<i+f->(T.getD (qn T n f i) lb).least<=n/\n<(T.getD (qn T n f i) lb).least+(T.getD (qn T n f i) lb).many
 |0,i,h=>absurd h (by rw[qn];omega)
 |f+1,i,h=>by
  rw[qn]at h ⊢
  by_cases q:NV (T.getD i lb) n=Ga
  ·rw[ZF q];exact of_decide_eq_true q
  ·rw[ZE q]at h ⊢;exact tQ f (i+1) om
def Tm:a9->Nat->Nat->Bool
 |[],a,b=>V9 a b
 |s::l,a,b=>V9 s.least a&&Tm l (a+s.many) b
def Bs {n b:Nat}(T:a9):∀(f i a:Nat),i+f=T.length->Tm (T.drop i) a b=Ga->a<=n->n<b->qn T n f i<i+f
 |0,i,a,h,hc,h1,h2=>by
  rw[Xv om]at hc;have:=Wk hc;omega
 |f+1,i,a,h,hc,h1,h2=>by
  rw[List.drop_eq_getElem_cons (by omega:i<T.length),Tm,Wh]at hc;have e:T.getD i lb=T[i]'om:=by rw[Wd,Wa om];rfl
  have hl:=Wk hc.1;rw[qn,e]
  by_cases q:NV (T[i]'om) n=Ga
  ·rw[ZF q];omega
  ·rw[ZE q]
   have q2:=of_decide_eq_false (Bool.eq_false_iff.2 q);have:=Bs (n:=n) (b:=b) T f (i+1) (a+(T[i]'om).many) om hc.2 om h2;omega
def Bt (T:a9)(k:Nat)(hk:k=T.length)(hk2:k<=64)(hz:bi T)(b:Nat)(hb:b<=257)(n:Nat)(hn:n<=40000)(I:Nat)(hI:ai T n=I)(hIk:I<k):S0 173 [.agg [nD b,.sl Gd k 3 (T.flatMap js)],nD n] [] (.tup [nD (b+I),nD (T.getD I lb).bits,nD (n-(T.getD I lb).least),iD 0]) []:=SpR Tryz.func173 rfl rfl rfl trivial rfl 1000 64 (λ R ok=>.s 14<|Hn.inl T_ok ae Gd 42 0 (am Tryz.prog 173 0) (λ(x:(i:Nat)×'(f:Nat)×'(hi:i<=k)×'(hf:k<=i+f)×'(hR:qn T n f i=I)×'(hi2:i<=I)×'Unit)=>match x with|⟨i,f,hi,hf,hR,hi2,_⟩=>CutS.mk [(1,zN n),(2,WA 0 0 0),(11,Wu Gd k 3 (v8 js T)),(12,zN k),(13,nD i)] [⟨0,0,0,0,.b ⟨[zN b,Wu Gd k 3 (v8 js T)],252,Gd⟩⟩] 8) (λ(x:(i:Nat)×'(f:Nat)×'(hi:i<=k)×'(hf:k<=i+f)×'(hR:qn T n f i=I)×'(hi2:i<=I)×'Unit)=>match x with|⟨i,f,hi,hf,hR,hi2,_⟩=>k-i) [⟨Unit,.ret,λ()=>CutS.mk [(4,nD (b+I)),(5,nD (T.getD I lb).bits),(6,nD (n-(T.getD I lb).least)),(7,iD 0)] [⟨0,0,0,0,.b ⟨[zN b,Wu Gd k 3 (v8 js T)],252,Gd⟩⟩] 8⟩] 1000 64 (fun|⟨i,f,hi,hf,hR,hi2,_⟩,Q,ZB,ZD=>.E 2 (Ao ((i:Int)<k)) (by(refine decide_eq_true ?_;(omega)))<|.K 2 (Ga&&Ao ((i:Int)<k)&&Ga) (by((refine aA ?_ ?_)<;>(repeat' (first|(refine aA ?_ ?_)|(with_reducible rfl)|(refine decide_eq_true ?_)|(refine We ?_)|(refine dg ?_)))<;>(omega)))<|.K 2 (Wf (i*3+3) (v0 (v8 js T))) (by(rw[bg (k:=3) (λ _=>rfl)];refine We ?_;(omega)))<|.lst (wx 3 (drop (i*3) (v8 js T))) ([zN (Sy.bits (wm T i lb)),zN (Sy.least (wm T i lb)),zN (Sy.many (wm T i lb))]) (aI (k:=3) (i:=i) (λ _=>rfl) om om)<|.B 17 ((↑(Sy.least (wm T i lb)):Int)<=(n:Int)) (λ p0 Z9=>.I 19 ((↑(Sy.least (wm T i lb)):Int)+(↑(Sy.many (wm T i lb)):Int)) (by(have h9:=hz i;omega))<|.B 4 ((n:Int)<(↑(Sy.least (wm T i lb)):Int)+(↑(Sy.many (wm T i lb)):Int)) (λ p1 Z8=>.W 10 (b+i)<|.W 15 (n-(↑(Sy.least (wm T i lb)):Int))<|.V 4 4 (zI (b+i)) (zN (b+I)) Tj<|.val 5 (zN (Sy.bits (wm T i lb))) (zN (Sy.bits (wm T I lb))) Tj<|.val 6 (zI (n-(↑(Sy.least (wm T i lb)):Int))) (zN (n-Sy.least (wm T I lb))) Tj<|Hn.last ZD 0 (():Unit) rfl [(0,0)] ro) (λ p1 Z8=>.W 2 (i+1)<|.V 1 13 (zI (i+1)) (zN (i+1)) (by(refine aF ?_;(omega)))<|Hn.next ZB ⟨(i+1),(f-1),om,om,(by(exact(Fh hR om om rfl om).1)),(by(exact(Fh hR om om rfl om).2)),⟨⟩⟩ (by show k-(i+1)<k-i;clear ZB ZD;omega) [(0,0)] ro)) (λ p0 Z9=>.W 16 (i+1)<|.V 1 13 (zI (i+1)) (zN (i+1)) (by(refine aF ?_;(omega)))<|Hn.next ZB ⟨(i+1),(f-1),om,om,(by(exact(Fh hR om om rfl om).1)),(by(exact(Fh hR om om rfl om).2)),⟨⟩⟩ (by show k-(i+1)<k-i;clear ZB ZD;omega) [(0,0)] ro)) (fun|⟨i,f,hi,hf,hR,hi2,_⟩=>by kernel_rfl) ⟨(0),(k),om,om,(by(rw[hk];exact(fL T n).symm.trans hI)),om,⟨⟩⟩ [(0,0)] ro (bB (fun|()=>.out [] [] (Xm [zN (b+I),zN (Sy.bits (wm T I lb)),zN (n-Sy.least (wm T I lb)),zI 0]) [] R (ok _ _ wr wr)))) kr
def J4 (T:a9)(hT:T=ay)(hl:T.length=29)(hz:bi T)(n:Nat)(hn:n<=40000)(I:Nat)(hI:ai T n=I)(hIk:I<29):S0 142 [nD n] [] (.tup [nD (257+I),nD (T.getD I lb).bits,nD (n-(T.getD I lb).least),iD 0]) []:=SpR Tryz.func142 rfl rfl rfl trivial rfl 1000 64 (λ R ok=>.C 5 160 Gd [] (.fn SV (@Fe (T) aG))<|.L 2 173 Gd [] (Ga&&(Ga&&(Ga&&Wf 87 (v0 (v8 js T))&&Ga&&ab (bif Ga&&V9 87 (v0 (v8 js T))then v8 js T else wx 87 (drop 0 (v8 js T))))&&Ga)&&Ga) (by(have q:ab (T.flatMap js)=true:=cm (f:=js) (λ _=>rfl) T;rw[bg (f:=js) (k:=3) (λ _=>rfl),hl];simp only[show Wf 87 (29*3)=Ga from rfl,show V9 87 (29*3)=Ga from rfl,WV,cond_true,q])) ([W6 [zI 257,Wu Ga 29 3 (bif Ga&&V9 87 (v0 (v8 js T))then v8 js T else wx 87 (drop 0 (v8 js T)))],zN n]) (by exact(And.intro (D.sim.agg (qr (And.intro (D.sim.slw rfl (ao (by(have q:ab (T.flatMap js)=true:=cm (f:=js) (λ _=>rfl) T;rw[bg (f:=js) (k:=3) (λ _=>rfl),hl];simp only[show Wf 87 (29*3)=Ga from rfl,show V9 87 (29*3)=Ga from rfl,WV,cond_true,q]))|>.trans rfl)) trivial))) (qr trivial))) (CallOk.fn (ap.of Tryz.func173 rfl rfl) (@Bt (T) (29) om om om (257) (by(simp;done)) (n) om (I) aG om))<|.Y 12 [] [] (Xm [zN (257+I),zN (Sy.bits (wm T I lb)),zN (n-Sy.least (wm T I lb)),zI 0]) [] ok) kr
def NW (T:a9)(hT:T=aK)(hl:T.length=30)(hz:bi T)(n:Nat)(hn:n<=40000)(I:Nat)(hI:ai T n=I)(hIk:I<30):S0 143 [nD n] [] (.tup [nD (0+I),nD (T.getD I lb).bits,nD (n-(T.getD I lb).least),iD 0]) []:=SpR Tryz.func143 rfl rfl rfl trivial rfl 1000 64 (λ R ok=>.C 5 163 Gd [] (.fn SW (@JZ (T) aG))<|.L 2 173 Gd [] (Ga&&(Ga&&(Ga&&Wf 90 (v0 (v8 js T))&&Ga&&ab (bif Ga&&V9 90 (v0 (v8 js T))then v8 js T else wx 90 (drop 0 (v8 js T))))&&Ga)&&Ga) (by(have q:ab (T.flatMap js)=true:=cm (f:=js) (λ _=>rfl) T;rw[bg (f:=js) (k:=3) (λ _=>rfl),hl];simp only[show Wf 90 (30*3)=Ga from rfl,show V9 90 (30*3)=Ga from rfl,WV,cond_true,q])) ([W6 [zI 0,Wu Ga 30 3 (bif Ga&&V9 90 (v0 (v8 js T))then v8 js T else wx 90 (drop 0 (v8 js T)))],zN n]) (by exact(And.intro (D.sim.agg (qr (And.intro (D.sim.slw rfl (ao (by(have q:ab (T.flatMap js)=true:=cm (f:=js) (λ _=>rfl) T;rw[bg (f:=js) (k:=3) (λ _=>rfl),hl];simp only[show Wf 90 (30*3)=Ga from rfl,show V9 90 (30*3)=Ga from rfl,WV,cond_true,q]))|>.trans rfl)) trivial))) (qr trivial))) (CallOk.fn (ap.of Tryz.func173 rfl rfl) (@Bt (T) (30) om om om (0) (by(simp;done)) (n) om (I) aG om))<|.Y 12 [] [] (Xm [zN (0+I),zN (Sy.bits (wm T I lb)),zN (n-Sy.least (wm T I lb)),zI 0]) [] ok) kr
def tR(h:p:=by(refine aF ?_;rw[kv];unfold vT;(repeat' split)<;>first|omega|(simp_all;done))):=h
def To {x:Int}(h:-9223372036854775808<=x/\x<=9223372036854775807):IntKind.i64.wrap x=x:=by
 have h2:=fv (x:=x) h;rw[aD]at h2;injection h2 with h3;injection h3 with h4;injection h4
def xy {l:Z4}{i m:Nat}(ho:∀j,j<i->(l.getD j lb).toNat<=m)(h:¬((m:Nat):Int)<(((l.getD (i*1) lb).toNat:Nat):Int)):∀j,j<i+1->(l.getD j lb).toNat<=m:=λ j hj=>by
 rcases WR j i with q|q
 ·exact ho j q
 ·have q2:j=i:=by omega
  subst q2;rw[Wx]at h;omega
def Tp {l:Z4}{i:Nat}(h:i<l.length)(hN:l.length<=1000000)(h1:0<(l.getD (i*1) lb).toNat)(h2:(l.getD (i*1) lb).toNat<=15):D.v (.int .i64 (IntKind.i64.wrap (((bj (l.take i):Nat):Int)+IntKind.i64.wrap (2^min (15-(((l.getD (i*1) lb).toNat:Nat):Int)).toNat 64*1))))=D.v (.int .i64 ((bj (l.take (i+1)):Nat):Int)):=by
 refine aF ?_;rw[Wx]at *;rw[il h];generalize(l.getD i lb).toNat=x at *;have hk:=Bo (l.take i);rw[Wi]at hk;rw[ZE om,show min (15-(x:Int)).toNat 64=15-x from by omega];have hp:2^(15-x)<=2^15:=Xh (by decide) om;have e:(2:Int)^(15-x)*1=((2^(15-x):Nat):Int):=by push_cast;omega
 rw[e];generalize 2^(15-x)=Z at *;rw[To (x:=((Z:Nat):Int)) om,To om];omega
def NX {l:Z4}{i:Nat}(h:i<l.length)(h1:¬(0:Int)<(((l.getD (i*1) lb).toNat:Nat):Int)):bj (l.take (i+1))=bj (l.take i)/\bA (l.take (i+1))=bA (l.take i):=by
 rw[Wx]at h1;rw[il h,jQ h,ZF om,ZF om];exact⟨rfl,rfl⟩
def Tq {l:Z4}{i:Nat}(h:i<l.length)(hN:l.length<=1000000)(h1:0<(l.getD (i*1) lb).toNat):D.v (.int .i64 (IntKind.i64.wrap (((bA (l.take i):Nat):Int)+1)))=D.v (.int .i64 ((bA (l.take (i+1)):Nat):Int)):=by
 refine aF ?_;rw[Wx]at *;rw[jQ h,ZE om];have hk:=Bn (l.take i);rw[Wi]at hk;rw[To om];omega
def J5 (l:Z4)(n:Nat)(hn:n=l.length)(hN:n<=1000000)(m:Nat)(hm:1<=m/\m<=15):S0 148 [.sl Gd n 1 (l.map dB),nD m] [] (nD (dC l m)) []:=SpR Tryz.func148 rfl rfl rfl trivial rfl 1000 64 (λ R ok=>.F 6 (Ao ((m:Int)<1)) (by(refine decide_eq_false ?_;(omega)))<|.F 4 (Ao (15<(m:Int))) (by(refine decide_eq_false ?_;(omega)))<|.B 4 (320<(n:Int)) (λ p0 Z9=>.U 1 [] [] (zI 4) [] R (ok _ _ tR wr)) (λ p0 Z9=>.s 5<|Hn.inl T_ok ae Gd 52 0 (am Tryz.prog 148 0) (λ(x:(i:Nat)×'(hi:i<=n)×'(ho:∀j,j<i->(l.getD j lb).toNat<=m)×'Unit)=>match x with|⟨i,hi,ho,_⟩=>CutS.mk [(1,zN m),(5,nD (bj (l.take i))),(6,nD (bA (l.take i))),(18,Wu Gd n 1 (wo dB l)),(19,zN n),(20,nD i)] [] 0) (λ(x:(i:Nat)×'(hi:i<=n)×'(ho:∀j,j<i->(l.getD j lb).toNat<=m)×'Unit)=>match x with|⟨i,hi,ho,_⟩=>n-i) [⟨(ho2:ek l m=Gd)×'Unit,.exit 0,λ x=>match x with|⟨ho2,_⟩=>CutS.mk [(1,zN m),(5,nD (bj l)),(6,nD (bA l)),(18,Wu Gd n 1 (wo dB l)),(19,zN n)] [] 0⟩,⟨(ho3:ek l m=Ga)×'Unit,.ret,λ x=>match x with|⟨ho3,_⟩=>CutS.mk [(4,iD 2)] [] 0⟩] 1000 64 (fun|⟨i,hi,ho,_⟩,Q,ZB,ZD=>.B 2 ((i:Int)<n) (λ p1 Z8=>.K 1 (Ga&&Ao ((i:Int)<n)&&Ga) (by((refine aA ?_ ?_)<;>(repeat' (first|(refine aA ?_ ?_)|(with_reducible rfl)|(refine decide_eq_true ?_)|(refine We ?_)|(refine dg ?_)))<;>(omega)))<|.O 2 ((wo dB l)[i*1]?) (dB (wm l (i*1) lb)) (aj _ _ om)<|.I 3 (↑(V7 (wm l (i*1) lb)):Int) (by(exact dN _ (by decide) (by decide)))<|.B 3 ((m:Int)<(↑(V7 (wm l (i*1) lb)):Int)) (λ p2 Z7=>.s 1<|Hn.last ZD 1 (⟨(by(exact xu (i:=i*1) (by(omega)) (by(omega)))),⟨⟩⟩:(ho3:ek l m=Ga)×'Unit) rfl [] ro) (λ p2 Z7=>.B 3 (0<(↑(V7 (wm l (i*1) lb)):Int)) (λ p3 Z6=>.O 4 (au .u8 (15-(↑(V7 (wm l (i*1) lb)):Int))) (bI (15-(↑(V7 (wm l (i*1) lb)):Int))) (gF om)<|.K 1 (Ao (0<=15-(↑(V7 (wm l (i*1) lb)):Int))) (by(refine decide_eq_true ?_;(omega)))<|.opt (au .i64 (2^min (zL (15-(↑(V7 (wm l (i*1) lb)):Int))) 64*1)) (zI (Wo Wv (2^min (zL (15-(↑(V7 (wm l (i*1) lb)):Int))) 64*1))) (aD _ _)<|.O 2 (au .i64 ((↑(bj (wx i l)):Int)+Wo Wv (2^min (zL (15-(↑(V7 (wm l (i*1) lb)):Int))) 64*1))) (zI (Wo Wv ((↑(bj (wx i l)):Int)+Wo Wv (2^min (zL (15-(↑(V7 (wm l (i*1) lb)):Int))) 64*1)))) (aD _ _)<|.O 4 (au .i64 ((↑(bA (wx i l)):Int)+1)) (zI (Wo Wv ((↑(bA (wx i l)):Int)+1))) (aD _ _)<|.W 3 (i+1)<|.V 1 5 (zI (Wo Wv ((↑(bj (wx i l)):Int)+Wo Wv (2^min (zL (15-(↑(V7 (wm l (i*1) lb)):Int))) 64*1)))) (zN (bj (wx (i+1) l))) (by(exact Tp (by(omega)) (by(omega)) (by(omega)) (by(omega))))<|.val 6 (zI (Wo Wv ((↑(bA (wx i l)):Int)+1))) (zN (bA (wx (i+1) l))) (by(exact Tq (by(omega)) (by(omega)) (by(omega))))<|.val 20 (zI (i+1)) (zN (i+1)) (by(refine aF ?_;(omega)))<|Hn.next ZB ⟨(i+1),om,(by(exact xy ho (by(omega)))),⟨⟩⟩ (by show n-(i+1)<n-i;clear ZB ZD;omega) [] ro) (λ p3 Z6=>.W 2 (i+1)<|.V 1 5 (zN (bj (wx i l))) (zN (bj (wx (i+1) l))) (by(rw[(NX (l:=l) (i:=i) (by(omega)) (by(omega))).1]))<|.val 6 (zN (bA (wx i l))) (zN (bA (wx (i+1) l))) (by(rw[(NX (l:=l) (i:=i) (by(omega)) (by(omega))).2]))<|.val 20 (zI (i+1)) (zN (i+1)) (by(refine aF ?_;(omega)))<|Hn.next ZB ⟨(i+1),om,(by(exact xy ho (by(omega)))),⟨⟩⟩ (by show n-(i+1)<n-i;clear ZB ZD;omega) [] ro))) (λ p1 Z8=>.val 5 (zN (bj (wx i l))) (zN (bj l)) (by(rw[WN (by(omega))]))<|.val 6 (zN (bA (wx i l))) (zN (bA l)) (by(rw[WN (by(omega))]))<|Hn.last ZD 0 (⟨(by(exact mW (λ j hj=>ho j (by(omega))))),⟨⟩⟩:(ho2:ek l m=Gd)×'Unit) rfl [] ro)) (fun|⟨i,hi,ho,_⟩=>by kernel_rfl) ⟨(0),om,om,⟨⟩⟩ [] ro (gu (fun|⟨ho2,_⟩=>.B 4 (32768<(↑(bj l):Int)) (λ p4 Z5=>.U 1 [] [] (zI 30) [] R (ok _ _ tR wr)) (λ p4 Z5=>.R 4 ((↑(bj l):Int)==32768) (λ p5=>have p5f:=eq_of_beq p5;.U 2 [] [] (zI 0) [] R (ok _ _ tR wr)) (λ p5=>have p5f:=ak p5;.R 4 ((↑(bA l):Int)==0) (λ p6=>have p6f:=eq_of_beq p6;.U 2 [] [] (zI 0) [] R (ok _ _ tR wr)) (λ p6=>have p6f:=ak p6;.R 5 ((↑(bA l):Int)==1) (λ p7=>have p7f:=eq_of_beq p7;.R 5 ((↑(bj l):Int)==16384) (λ p8=>have p8f:=eq_of_beq p8;.U 1 [] [] (zI 0) [] R (ok _ _ tR wr)) (λ p8=>have p8f:=ak p8;.U 1 [] [] (zI 31) [] R (ok _ _ tR wr))) (λ p7=>have p7f:=ak p7;.U 6 [] [] (zI 31) [] R (ok _ _ tR wr)))))) (fun|⟨ho3,_⟩=>.out [] [] (zI 2) [] R (ok _ _ tR wr))))) kr
def Sc(h:p:=by(refine decide_eq_true ?_;have h7:=AB l v i;have h6:=AB l v (i+1);omega)):=h
def Ts(h:p:=by clear ZB ZD;(simp_all<;>omega)):=h
def Vq(h:p:=by(simp only[List.length_map,Nat.mul_one,Nat.beq_refl,Bool.true_and,Bool.and_true];have h7:=AB l v i;have h6:=AB l v (i+1);refine Nat.ble_eq_true_of_le ?_;omega)):=h
def Vr(h:p:=by(have h7:=AB l v i;have h6:=AB l v (i+1);refine Kb ?_ ?_<;>omega)):=h
def dw:GB->Nat
 |[]=>0
 |b::r=>b.toNat+2*dw r
def gH:∀l:GB,dw l<2^l.length
 |[]=>YS
 |b::r=>by
  have h:=gH r;have h2:b.toNat<=1:=aaa b;rw[WQ,XO,dw];omega
def li:∀a b:GB,dw (a++b)=dw a+2^a.length*dw b
 |[],b=>by simp[dw]
 |x::r,b=>by
  have h:=li r b;rw[YO,dw,dw,h,WQ,XO,YM,<-XS,Yb 2 (2^r.length),Nat.add_assoc]
def xz (l:GB)(i:Nat):UInt8:=Xg (dw ((l.drop (8*i)).take 8))
def pk (l:GB):Z4:=lk l ((Xp ((l.length+7)/8)).map (xz l))
def Bu (l:GB):pk l=(Xp ((l.length+7)/8)).map (xz l):=aM _ _
def ag (l:GB):(pk l).length=(l.length+7)/8:=by rw[Bu,Wj,XY]
def iV {l:GB}{i:Nat}(h:i<(l.length+7)/8):(pk l)[i]? =Ge (xz l i):=by
 rw[Bu,WB,Xx h];rfl
def vV (l:GB)(i:Nat):dw ((l.drop (8*i)).take 8)<256:=by
 have h:=gH ((l.drop (8*i)).take 8);have h2:2^((l.drop (8*i)).take 8).length<=2^8:=Xh (by decide) (by rw[Wi];omega);omega
def lj {a b:GB}(h:a.length%8=0):pk (a++b)=pk a++pk b:=by
 apply Xe;intro i;rcases WR i ((a.length+7)/8)with q|q
 ·rw[WO (by rw[ag];exact q),iV q,iV (by rw[Wc];omega)]
  unfold xz;rw[YY om,Yn (by rw[Wy];omega)]
 ·rw[WJ (by rw[ag];exact q),ag]
  rcases WR (i-(a.length+7)/8) ((b.length+7)/8)with r|r
  ·rw[iV r,iV (by rw[Wc];omega)]
   unfold xz;rw[show 8*i=a.length+8*(i-(a.length+7)/8)from by omega,ZT];have e:WT (a.length+8*(i-(a.length+7)/8)) a=[]:=Xv om;rw[e,YG,Nat.add_sub_cancel_left]
  ·rw[WL (by rw[ag,Wc];omega),WL (by rw[ag];exact r)]
def kx {l:GB}{n:Nat}(h:8*n<=l.length):pk (l.drop (8*n))=(pk l).drop n/\pk (l.take (8*n))=(pk l).take n:=by
 have e:=lj (a:=l.take (8*n)) (b:=l.drop (8*n)) (by rw[Wi];omega);rw[Yp]at e;have hl:(pk (l.take (8*n))).length=n:=by rw[ag,Wi];omega
 constructor
 ·have q:=congrArg (WT n) e
  rw[YY om,show WT n (pk (WS (8*n) l))=[]from Xv om,YG]at q;exact q.symm
 ·have q:=congrArg (WS n) e
  rw[Yn om,show WS n (pk (WS (8*n) l))=pk (WS (8*n) l)from WN om]at q;exact q.symm
def J6 {l:GB}(h0:0<l.length)(h:l.length<=8):pk l=[Xg (dw l)]:=by
 rw[Bu,show(l.length+7)/8=1 from by omega];show[xz l 0]=_;unfold xz;rw[Nat.mul_zero,XR,WN h]
def HX {l:GB}{b:Bool}(h:l.length%8≠0):(pk l).length=l.length/8+1/\pk (l++[b])=(pk l).set (l.length/8) (Xg (((pk l).getD (l.length/8) lb).toNat+2^(l.length%8)*b.toNat)):=by
 refine⟨by rw[ag];omega,?_⟩;have hd:=kx (l:=l) (n:=l.length/8) om;have e:l=l.take (8*(l.length/8))++l.drop (8*(l.length/8)):=(Yp _ _).symm;generalize hA:l.take (8*(l.length/8))=A at *;generalize hB:l.drop (8*(l.length/8))=B at *;have lA:A.length=8*(l.length/8):=by rw[<-hA,Wi];omega
 have lB:B.length=l.length%8:=by rw[<-hB,Wy];omega
 have p1:pk l=pk A++pk B:=by
  conv=>lhs;rw[e]
  exact lj om
 have p2:pk (l++[b])=pk A++pk (B++[b]):=by
  conv=>lhs;rw[e,WI]
  exact lj om
 have l1:(pk A).length=l.length/8:=by rw[ag];omega
 have b1:=J6 (l:=B) om om;have b2:=J6 (l:=B++[b]) (by rw[Wc];omega) (by rw[Wc,W7];omega);have hb:dw B<256:=by
  have h3:=gH B;have h4:2^B.length<=2^8:=Xh (by decide) om;omega
 rw[p1,p2,b1,b2,Y6 _ _ om,l1,Xz,Wd,WJ om,l1,Xz];show _++_=_++[_];have hz:dw [b]=b.toNat:=by simp[dw]
 rw[li,hz,lB];show _=_++[Xg ((Xg (dw B)).toNat+_)];rw[X6,show dw B%2^8=dw B from XJ hb]
def Bv {l:GB}{b:Bool}(h:l.length%8=0):(pk l).length=l.length/8/\pk (l++[b])=pk l++[Xg b.toNat]:=by
 refine⟨by rw[ag];omega,?_⟩;rw[lj h,J6 (l:=[b]) (by simp) (by simp)];simp[dw]
def nb (v n:Nat):GB:=lk [()] ((Xp n).map λ i=>v.testBit i)
def tS (v n:Nat):nb v n=(Xp n).map λ i=>v.testBit i:=aM _ _
def ln (v n:Nat):(nb v n).length=n:=by rw[tS,Wj,XY]
def mX (v n:Nat):nb v (n+1)=nb v n++[v.testBit n]:=by rw[tS,tS,Y0,W4];rfl
def Aa (v:Nat):nb v 0=[]:=tS v 0
def tT (v:Nat):∀n,dw (nb v n)=v%2^n
 |0=>by rw[Aa];simp[dw,Nat.mod_one]
 |n+1=>by
  rw[mX,li,ln,tT v n];have e:dw [v.testBit n]=v/2^n%2:=by
   rw[Nat.testBit_eq_decide_div_mod_eq];have:=Nat.mod_lt (v/2^n) (show 0<2 by decide)
   by_cases h:v/2^n%2=1
   ·rw[h];rfl
   ·rw[show v/2^n%2=0 from by omega];rfl
  rw[e,XO,Nat.mod_mul]
def J7 (B:Z4)(k:Nat):GB:=lk B ((Xp k).map λ i=>(B.getD (i/8) lb).toNat.testBit (i%8))
def Bx (B:Z4)(k:Nat):J7 B k=(Xp k).map λ i=>(B.getD (i/8) lb).toNat.testBit (i%8):=aM _ _
def jt (B:Z4)(k:Nat):(J7 B k).length=k:=by rw[Bx,Wj,XY]
def By {B:Z4}{k:Nat}(hl:B.length=(k+7)/8)(ht:k%8≠0->(B.getD (k/8) lb).toNat<2^(k%8)):pk (J7 B k)=B:=by
 apply Xe;intro i;rcases WR i ((k+7)/8)with q|q
 ·rw[iV (by rw[jt];exact q),Wa om]
  congr 1
  unfold xz;have e:(WT (8*i) (J7 B k)).take 8=nb (B.getD i lb).toNat (min 8 (k-8*i)):=by
   apply Xe;intro j;rw[Xa,Xr,Bx,tS,WB,WB]
   by_cases hj:j<min 8 (k-8*i)
   ·rw[ZF om,Xx om,Xx hj]
    show Ge ((B.getD ((8*i+j)/8) lb).toNat.testBit ((8*i+j)%8))=Ge ((B.getD i lb).toNat.testBit j);rw[show(8*i+j)/8=i from by omega,show(8*i+j)%8=j from by omega]
   ·rw[WL (l:=Xp (min 8 (k-8*i))) (by simpa using hj)]
    split
    ·rw[WL (by simp;omega)];rfl
    ·rfl
  rw[e,tT];have hx:B[i]=B.getD i lb:=by rw[Wd,Wa om];rfl
  rw[hx];have hb:=(B.getD i lb).toNat_lt;apply UInt8.toNat_inj.1;rw[X6];rcases WR (k-8*i) 8 with r|r
  ·have hk:i=k/8:=by omega
   have h1:=ht om;rw[<-hk]at h1;rw[show min 8 (k-8*i)=k%8 from by omega,XJ h1,XJ hb]
  ·rw[show min 8 (k-8*i)=8 from by omega,XJ (show(B.getD i lb).toNat<2^8 from hb),XJ hb]
 ·rw[WL (by rw[ag,jt];exact q),WL om]
def J8 {l:GB}{m:Nat}(hm:m=(pk l).length)(h:0<((l.length:Nat):Int)%8):¬0<((((pk l).getD (((m:Int)-1).toNat*1) lb).toNat:Nat):Int).fdiv (2^min (((l.length:Nat):Int)%8).toNat 8):=by
 rw[ag]at hm;rw[show(((m:Int)-1).toNat*1)=l.length/8 from by omega,show min (((l.length:Nat):Int)%8).toNat 8=l.length%8 from by omega,Wd,iV om];show¬0<(((xz l (l.length/8)).toNat:Nat):Int).fdiv _;have hb:=gH ((l.drop (8*(l.length/8))).take 8);rw[Wi,Wy,show min 8 (l.length-8*(l.length/8))=l.length%8 from by omega]at hb;have hc:=vV l (l.length/8);unfold xz;rw[X6,XJ hc,show(2:Int)^(l.length%8)=((2^(l.length%8):Nat):Int)from by push_cast;rfl,Yf _ (YQ _),<-YV,ZU hb];decide
def J9 {B:Z4}{k:Nat}(hl:B.length=(k+7)/8)(h:k%8≠0->¬0<(((B.getD (((B.length:Nat):Int)-1).toNat lb).toNat:Nat):Int).fdiv (2^min ((k:Int)%8).toNat 8)):pk (J7 B k)=B:=by
 refine By hl λ q=>?_
 have h:=h q;rw[show(((B.length:Nat):Int)-1).toNat=k/8 from by omega,show min ((k:Int)%8).toNat 8=k%8 from by omega,show(2:Int)^(k%8)=((2^(k%8):Nat):Int)from by push_cast;rfl,Yf _ (YQ _),<-YV]at h;have h0:(B.getD (k/8) lb).toNat/2^(k%8)=0:=by
  generalize(B.getD (k/8) lb).toNat/2^(k%8)=Z at h ⊢;omega
 rcases WR (B.getD (k/8) lb).toNat (2^(k%8))with r|r
 ·exact r
 ·have:=Nat.div_pos r (Yr _);omega
def HY {B:Z4}{m:Nat}{k:Int}(hm:m=B.length)(hN:∀l:GB,l.length<=8388608->¬(k=l.length/\B=pk l))(h0:¬k<0)(h1:¬8388608<k)(h2:(m:Int)=(k+7)/8)(h3:¬0<k%8\/¬0<(((B.getD (((m:Int)-1).toNat*1) lb).toNat:Nat):Int).fdiv (2^min (k%8).toNat 8)):False:=by
 obtain⟨j,rfl⟩:=Xd (show 0<=k by omega);subst hm;rw[Wx]at h3;refine hN (J7 B j) (by rw[jt];omega) ⟨by rw[jt],(J9 om (λ q=>?_)).symm⟩;rcases h3 with h3|h3
 ·omega
 ·exact h3
abbrev vW (m:Nat)(l:GB):D:=.agg [.sl Gd m 1 ((pk l).map dB),nD l.length]
def Fi:S0 56 [aP] [] aP []:=SpR Tryz.func56 rfl rfl rfl trivial rfl 1000 64 (λ R ok=>.Y 6 [] [] (zS) [] ok) kr
def Bz (bs:Z4)(hn:bs.length<=10000000):S0 56 [.sl Ga bs.length 1 (bs.map dB)] [] (.ref 0 0 0 bs.length 1) [⟨bs.map dB, 5,Ga⟩]:=SpR Tryz.func56 rfl rfl rfl ⟨aH _,trivial⟩ rfl 1000 64 (λ R ok=>.K 9 (Ga&&Wf ((0+v0 bs)*1) 140737488355328) (by(refine We ?_;(omega)))<|.U 1 [40] [40] (Wb 0 0 0 (0+v0 bs) 1) [V8 (wo dB bs) 5 Ga] R (ok _ _ (by(simp;done)) wr)) kr
def iF (bs:Z4)(n:Nat)(h1:n=bs.length)(hn:n<=10000000):S0 56 [.sl Gd n 1 (bs.map dB)] [] (.ref 0 0 0 n 1) [⟨bs.map dB, 5,Ga⟩]:=by
 subst h1;exact zC.nilSplit Fi (Bz bs hn) id
def oh (l:GB)(m:Nat)(hm:m=(pk l).length)(hl:l.length<=8388608):S0 43 [vW m l] [] (iD 0) []:=by
 have h9:=ag l;refine SpR Tryz.func43 rfl rfl rfl trivial rfl 1000 64 (λ R ok=>.F 26 (Ao (8388608<(↑(v0 l):Int))) (by(refine decide_eq_false ?_;(omega)))<|.W 19 ((↑(v0 l):Int)+7)<|.O 3 (aX Wv (Wo Wv (XD ((↑(v0 l):Int)+7) 8))) (zI (((↑(v0 l):Int)+7)/8)) (aB (@aT  ((↑(v0 l):Int)+7) (8) om om))<|.F 4 ((m:Int) !=((↑(v0 l):Int)+7)/8) (by(simp <;>(omega)))<|.O 8 (aX Wv (XG (↑(v0 l):Int) 8)) (zI ((↑(v0 l):Int)%8)) (aB (@bT  ((↑(v0 l):Int)) (8) om))<|.B 6 (0<(↑(v0 l):Int)%8) (λ p0 Z9=>.W 19 (m-1)<|.K 2 (Ao (0<=(m:Int)-1)&&Ao ((m:Int)-1<m)&&Ga) NP<|.O 3 ((wo dB (pk l))[zL ((m:Int)-1)*1]?) (dB (wm (pk l) (zL ((m:Int)-1)*1) lb)) (aj _ _ om)<|.O 5 (aX aal (Xl (↑(V7 (wm (pk l) (zL ((m:Int)-1)*1) lb)):Int) (2^min (zL ((↑(v0 l):Int)%8)) 8))) (bI (Xl (↑(V7 (wm (pk l) (zL ((m:Int)-1)*1) lb)):Int) (2^min (zL ((↑(v0 l):Int)%8)) 8))) (bS _ _)<|.B 4 (0<Xl (↑(V7 (wm (pk l) (zL ((m:Int)-1)*1) lb)):Int) (2^min (zL ((↑(v0 l):Int)%8)) 8)) (λ p1 Z8=>.abs (by(exact absurd aG (J8 hm om)))) (λ p1 Z8=>.Y 1 [] [] (zI 0) [] ok)) (λ p0 Z9=>.Y 23 [] [] (zI 0) [] ok)) kr
def Ka (B:Z4)(m:Nat)(hm:m=B.length)(hM:m<=100000000)(k:Int)(hN:∀l:GB,l.length<=8388608->¬(k=l.length/\B=pk l)):S0 43 [.agg [.sl Gd m 1 (B.map dB),iD k]] [] (iD 8) []:=SpR Tryz.func43 rfl rfl rfl trivial rfl 1000 64 (λ R ok=>.B 13 (k<0) (λ p0 Z9=>.Y 25 [] [] (zI 8) [] ok) (λ p0 Z9=>.B 12 (8388608<k) (λ p1 Z8=>.Y 17 [] [] (zI 8) [] ok) (λ p1 Z8=>.W 19 (k+7)<|.O 3 (aX Wv (Wo Wv (XD (k+7) 8))) (zI ((k+7)/8)) (aB (@aT  (k+7) (8) om om))<|.R 4 ((m:Int) !=(k+7)/8) (λ p2=>have Z7:=fI p2;.Y 1 [] [] (zI 8) [] ok) (λ p2=>have Z7:=fJ p2;.O 8 (aX Wv (XG k 8)) (zI (k%8)) (aB (@bT  (k) (8) om))<|.B 6 (0<k%8) (λ p3 Z6=>.W 19 (m-1)<|.K 2 (Ao (0<=(m:Int)-1)&&Ao ((m:Int)-1<m)&&Ga) NP<|.O 3 ((wo dB B)[zL ((m:Int)-1)*1]?) (dB (wm B (zL ((m:Int)-1)*1) lb)) (aj _ _ om)<|.K 4 (Ao (0<=k%8)) (by(refine decide_eq_true ?_;(omega)))<|.opt (aX aal (Xl (↑(V7 (wm B (zL ((m:Int)-1)*1) lb)):Int) (2^min (zL (k%8)) 8))) (bI (Xl (↑(V7 (wm B (zL ((m:Int)-1)*1) lb)):Int) (2^min (zL (k%8)) 8))) (bS _ _)<|.B 4 (0<Xl (↑(V7 (wm B (zL ((m:Int)-1)*1) lb)):Int) (2^min (zL (k%8)) 8)) (λ p4 Z5=>.Y 1 [] [] (zI 8) [] ok) (λ p4 Z5=>.abs (by(exact HY hm hN om om om (.inr aG))))) (λ p3 Z6=>.abs (by(exact HY hm hN om om om (.inl om)))))))) kr
def BA {v n:Nat}(hv:v<2^n)(hn:n<=32):((v:Int)%18446744073709551616).fdiv (2^min n 64)=0:=by
 have h2:2^n<=2^32:=Xh (by decide) hn;rw[show min n 64=n from by omega,show(v:Int)%18446744073709551616=v from by omega,show(2:Int)^n=((2^n:Nat):Int)from by push_cast;rfl,Yf _ (YQ _),<-YV,ZU hv];rfl
def BB {v n:Nat}(hv:v<2^n)(hn:n<=32):((v:Int)).fdiv (2^min n 64)=0:=by
 have h:=BA hv hn;have h2:2^n<=2^32:=Xh (by decide) hn
 rwa [show(v:Int)%18446744073709551616=v from by omega]at h
def Fj (X:Z4){d:D}{j:Nat}(h:j=X.length):(Yg dB X++[d])[0+j*1]? =Ge d:=by
 rw[WE,Wx,h,WJ (by rw[Wj];exact Wl _),Wj,Xz];rfl
def aU (l:GB)(v i:Nat):GB:=lk l (l++nb v i)
def jR (l:GB)(v i:Nat):aU l v i=l++nb v i:=aM _ _
def xA (l:GB)(v:Nat):aU l v 0=l:=by rw[jR,Aa,Xn]
def aZ (l:GB)(v i:Nat):(aU l v i).length=l.length+i:=by rw[jR,Wc,ln]
def xB (l:GB)(v i:Nat):aU l v i++[v.testBit i]=aU l v (i+1):=by rw[jR,jR,mX,WI]
def AB (l:GB)(v i:Nat):(pk (aU l v i)).length=(l.length+i+7)/8:=by rw[ag,aZ]
def HZ {v i:Nat}(hi:i<=32)(hv:v<4294967296):IntKind.u32.wrap ((Wq 32 ((v:Int).fdiv (2^min i 32))&&&Wq 32 1).toNat:Int)%256=(((v.testBit i).toNat:Nat):Int):=by
 have hd:v/2^i<=v:=X7 _ _;rw[show min i 32=i from by omega,show(2:Int)^i=((2^i:Nat):Int)from by push_cast;rfl,Yf _ (YQ _),<-YV,abn];generalize v/2^i=Y at *;rw[mf 1 2 om (by decide) (by decide) (by decide)];omega
def jH {M:Z4}{o a:Nat}(ha:a<256)(ho:o<M.length):ac (M.map dB) o [D.v (.int .u8 (a:Int))]=(M.set o (Xg a)).map dB:=by
 apply Xe;intro i;rw[ck (by simp only[Wj,W7];omega),WB,WB,XA];simp only[W7]
 by_cases hi:o=i
 ·subst hi
  rw[ZF om,ZF rfl,ZF ho,Xz];show Ge (D.v (.int .u8 (a:Int)))=Ge (dB (Xg a));unfold dB;rw[X6];congr 3;omega
 ·rw[ZE om,ZE hi]
def NY {x:GB}(h:x.length%8≠0):((pk x).getD (x.length/8) lb).toNat<2^(x.length%8):=by
 rw[Wd,iV om];show(xz x (x.length/8)).toNat<_;have hb:=gH ((x.drop (8*(x.length/8))).take 8);rw[Wi,Wy,show min 8 (x.length-8*(x.length/8))=x.length%8 from by omega]at hb;unfold xz;rw[X6,XJ (vV x _)];exact hb
def NZ {x:GB}{b:Bool}{L z:Int}(hL:L=x.length)(h:¬L%8=0)(hz:z=((b.toNat:Nat):Int)):ac ((pk x).map dB) (L/8).toNat [D.v (.int .u8 (((((pk x).getD (L/8).toNat lb).toNat|||(2^min (L%8).toNat 8*z%256).toNat:Nat)):Int))]=(pk (x++[b])).map dB:=by
 subst hL hz;have h0:x.length%8≠0:=by omega
 have hu:=HX (b:=b) h0;have hl:=NY h0;have hb:b.toNat<=1:=aaa b;rw[show(((x.length:Nat):Int)/8).toNat=x.length/8 from by omega,show min (((x.length:Nat):Int)%8).toNat 8=x.length%8 from by omega];have hp:2^(x.length%8)<=2^7:=Xh (by decide) om;have e:(2^(x.length%8)*((b.toNat:Nat):Int)%256).toNat=2^(x.length%8)*b.toNat:=by
  rw[show(2:Int)^(x.length%8)=((2^(x.length%8):Nat):Int)from by push_cast;rfl];generalize 2^(x.length%8)=P at *
  cases b
  ·simp
  ·simp;omega
 rw[e,Nat.or_comm,<-Y9 hl,Nat.add_comm,hu.2];refine jH ?_ om;have hm:2^(x.length%8)*b.toNat<=2^(x.length%8)*1:=Zk _ hb;generalize 2^(x.length%8)*b.toNat=Q at *;generalize 2^(x.length%8)=P at *;omega
def N0 {x:GB}{b:Bool}{L z:Int}(hL:L=x.length)(h:L%8=0)(hz:z=((b.toNat:Nat):Int)):ac ((pk x).map dB++[D.v (.int .u8 0)]) (L/8).toNat [D.v (.int .u8 (0+2^min (L%8).toNat 8*z))]=(pk (x++[b])).map dB:=by
 subst hL hz;have h0:x.length%8=0:=by omega
 have hu:=Bv (b:=b) h0;have hb:b.toNat<=1:=aaa b;rw[show(((x.length:Nat):Int)/8).toNat=x.length/8 from by omega,show min (((x.length:Nat):Int)%8).toNat 8=0 from by omega,hu.2,W4];have e:(pk x).map dB++[D.v (.int .u8 0)]=((pk x)++[0]).map dB:=by rw[W4];rfl
 rw[e,show(0:Int)+2^0*((b.toNat:Nat):Int)=((b.toNat:Nat):Int)from by simp,jH om (by rw[Wc,W7];omega),Y6 _ _ om,hu.1,Xz,W4];rfl
def Kb {k g:Nat}{t:TypeId}{X Y:Nat}{a b:Int}(h1:X=Y)(h2:a=b):(⟨[Wb k g 0 X 1,D.v (.int .i64 a)],t,Gd⟩:Blk)=⟨[Wb k g 0 Y 1,D.v (.int .i64 b)],t,Gd⟩:=by rw[h1,h2]
def N1 (l:GB)(m:Nat)(hm:m=(pk l).length)(v n:Nat)(hn:n<=32)(hv:v<2^n)(hl:l.length+n<=8388608):S0 74 [vW m l,.v (.int .u32 (v:Int)),nD n] [] (.tup [.agg [.ref 0 0 0 (pk (aU l v n)).length 1,nD (l.length+n)],iD 0]) [⟨(pk (aU l v n)).map dB, 5,Ga⟩]:=by
 have h9:=ag l;have h8:=BA hv hn;have h4:=BB hv hn;have h5:v<4294967296:=WX hv (Xh (n:=2) (by decide) hn);refine SpR Tryz.func74 rfl rfl rfl ⟨aH _,trivial⟩ rfl 1000 64 (λ R ok=>.C 10 43 Gd [] (.fn JX (@oh (l) (m) om om))<|.E 22 (Ao ((n:Int)<=32)) (by(refine decide_eq_true ?_;(omega)))<|.O 2 (au .u64 (v:Int)) (D.v (Value.int .u64 (v:Int))) (bq om)<|.O 5 (aX Yo (Xl (v:Int) (2^min n 64))) (D.v (Value.int .u64 (Xl (v:Int) (2^min n 64)))) (bS _ _)<|.F 6 (!Xl (v:Int) (2^min n 64)==0) (by(simp <;>(omega)))<|.W 9 ((↑(v0 l):Int)+(n:Int))<|.F 2 (Ao (8388608<(↑(v0 l):Int)+(n:Int))) (by(refine decide_eq_false ?_;(omega)))<|.C 17 56 Gd [] (.fn HR (@iF (pk l) (m) om om))<|.M 12 296 296 (V8 [Wb 336 336 0 m 1,zN (v0 l)] 163 Gd) (V8 [Wb 336 336 0 (v0 (pk (aU l v 0))) 1,zN (v0 l+0)] 163 Gd) (by(rw[xA,<-hm];rfl))<|.blk 336 336 (V8 (wo dB (pk l)) 5 Ga) (V8 (wo dB (pk (aU l v 0))) 5 Ga) (by(rw[xA];done))<|Hn.inl T_ok ae Gd 52 0 (am Tryz.prog 74 0) (λ(x:(i:Nat)×'(hi:i<=n)×'Unit)=>match x with|⟨i,hi,_⟩=>CutS.mk [(1,ah v),(6,WA 0 0 0),(9,WA 8 8 0),(38,zN n),(39,nD i)] [⟨0,0,8,8,.b ⟨[zS,zI 0],26,Gd⟩⟩,⟨8,8,296,296,.b ⟨[(Wb 16 16 (0) ((pk (aU l v i)).length) 1),nD (l.length+i)],163,Gd⟩⟩,⟨16,16,336,336,.b ⟨(pk (aU l v i)).map dB,5,Ga⟩⟩] 24) (λ(x:(i:Nat)×'(hi:i<=n)×'Unit)=>match x with|⟨i,hi,_⟩=>n-i) [⟨Unit,.exit 0,λ()=>CutS.mk [(1,ah v),(6,WA 0 0 0),(9,WA 8 8 0),(38,zN n)] [⟨0,0,8,8,.b ⟨[zS,zI 0],26,Gd⟩⟩,⟨8,8,296,296,.b ⟨[(Wb 16 16 (0) ((pk (aU l v n)).length) 1),nD (l.length+n)],163,Gd⟩⟩,⟨16,16,336,336,.b ⟨(pk (aU l v n)).map dB,5,Ga⟩⟩] 24⟩] 1000 64 (fun|⟨i,hi,_⟩,Q,ZB,ZD=>.B 2 ((i:Int)<n) (λ p0 Z9=>.O 7 (aX WU (Xl (v:Int) (2^min i 32))) (uI (Xl (v:Int) (2^min i 32))) (bS _ _)<|.O 15 (aX Wv (XG (↑(v0 l+i):Int) 8)) (zI ((↑(v0 l+i):Int)%8)) (aB (@bT  ((↑(v0 l+i):Int)) (8) om))<|.R 2 ((↑(v0 l+i):Int)%8==0) (λ p1=>have Z8:=eq_of_beq p1;.K 15 (Ga&&V9 (v0 (pk (aU l v i))*1) (v0 (wo dB (pk (aU l v i))))&&Ga&&Ga&&Ga&&Ga&&Wf ((v0 (pk (aU l v i))+1)*1) 140737488355328) Vq<|.O 35 (aX Wv (Wo Wv (XD (↑(v0 l+i):Int) 8))) (zI ((↑(v0 l+i):Int)/8)) (aB (@aT  ((↑(v0 l+i):Int)) (8) om om))<|.K 1 (Ga&&Ao ((↑(v0 l+i):Int)/8<(↑(v0 (pk (aU l v i))+1):Int))) Sc<|.O 2 ((wo dB (pk (aU l v i))++[bI 0])[0+zL ((↑(v0 l+i):Int)/8)*1]?) (bI 0) (@Fj (pk (aU l v i)) (bI 0) (zL ((↑(v0 l+i):Int)/8)) (by(have h7:=AB l v i;have h6:=AB l v (i+1);omega)))<|.O 3 (aX WU (Wo WU (↑(Xc (Wq 32 (Xl (v:Int) (2^min i 32))&&&Wq 32 1)):Int))) (uI (Wo WU (↑(Xc (Wq 32 (Xl (v:Int) (2^min i 32))&&&Wq 32 1)):Int))) (bS _ _)<|.O 1 (au .u8 (Wo WU (↑(Xc (Wq 32 (Xl (v:Int) (2^min i 32))&&&Wq 32 1)):Int))) (bI (Wo WU (↑(Xc (Wq 32 (Xl (v:Int) (2^min i 32))&&&Wq 32 1)):Int)%256)) (aD _ _)<|.O 13 (aX Wv (XG (↑(v0 l+i):Int) 8)) (zI ((↑(v0 l+i):Int)%8)) (aB (@bT  ((↑(v0 l+i):Int)) (8) om))<|.O 2 (au .u8 (2^min (zL ((↑(v0 l+i):Int)%8)) 8*(Wo WU (↑(Xc (Wq 32 (Xl (v:Int) (2^min i 32))&&&Wq 32 1)):Int)%256))) (bI (2^min (zL ((↑(v0 l+i):Int)%8)) 8*(Wo WU (↑(Xc (Wq 32 (Xl (v:Int) (2^min i 32))&&&Wq 32 1)):Int)%256))) (gF Ts)<|.O 2 (aX aal (Wo aal (↑(Xc (Wq 8 0|||Wq 8 (2^min (zL ((↑(v0 l+i):Int)%8)) 8*(Wo WU (↑(Xc (Wq 32 (Xl (v:Int) (2^min i 32))&&&Wq 32 1)):Int)%256)))):Int))) (bI (0+2^min (zL ((↑(v0 l+i):Int)%8)) 8*(Wo WU (↑(Xc (Wq 32 (Xl (v:Int) (2^min i 32))&&&Wq 32 1)):Int)%256))) (aB (@tN 8 (256:Int) (0) (2^min (zL ((↑(v0 l+i):Int)%8)) 8*(Wo WU (↑(Xc (Wq 32 (Xl (v:Int) (2^min i 32))&&&Wq 32 1)):Int)%256)) om Ts om om Ts))<|.K 1 (Ga&&Ao ((↑(v0 l+i):Int)/8<(↑(v0 (pk (aU l v i))+1):Int))) Sc<|.K 1 (Ga&&Wf (0+zL ((↑(v0 l+i):Int)/8)*1+1) (v0 (wo dB (pk (aU l v i))++[bI 0]))) (by(simp;have h7:=AB l v i;have h6:=AB l v (i+1);omega))<|.lst (ac (wo dB (pk (aU l v i))++[bI 0]) (0+zL ((↑(v0 l+i):Int)/8)*1) [bI (0+2^min (zL ((↑(v0 l+i):Int)%8)) 8*(Wo WU (↑(Xc (Wq 32 (Xl (v:Int) (2^min i 32))&&&Wq 32 1)):Int)%256))]) (ac (wo dB (pk (aU l v i))++[bI 0]) (zL ((↑(v0 l+i):Int)/8)) [bI (0+2^min (zL ((↑(v0 l+i):Int)%8)) 8*(Wo WU (↑(Xc (Wq 32 (Xl (v:Int) (2^min i 32))&&&Wq 32 1)):Int)%256))]) (by(simp;done))<|.W 13 ((↑(v0 l+i):Int)+1)<|.W 12 (i+1)<|.V 1 39 (zI (i+1)) (zN (i+1)) (by(refine aF ?_;(omega)))<|.blk 8 8 (V8 [Wb 200 200 0 (v0 (pk (aU l v i))+1) 1,zI ((↑(v0 l+i):Int)+1)] 163 Gd) (V8 [Wb 200 200 0 (v0 (pk (aU l v (i+1)))) 1,zN (v0 l+(i+1))] 163 Gd) Vr<|.blk 200 200 (V8 (ac (wo dB (pk (aU l v i))++[bI 0]) (zL ((↑(v0 l+i):Int)/8)) [bI (0+2^min (zL ((↑(v0 l+i):Int)%8)) 8*(Wo WU (↑(Xc (Wq 32 (Xl (v:Int) (2^min i 32))&&&Wq 32 1)):Int)%256))]) 5 Ga) (V8 (wo dB (pk (aU l v (i+1)))) 5 Ga) (by(refine aq (Eq.trans (N0 (by rw[aZ]) om (HZ om om)) ?_);rw[xB]))<|Hn.next ZB ⟨(i+1),om,⟨⟩⟩ (by show n-(i+1)<n-i;clear ZB ZD;omega) [(0,0),(8,8),(200,200)] ro) (λ p1=>have Z8:=ak p1;.O 25 (aX Wv (Wo Wv (XD (↑(v0 l+i):Int) 8))) (zI ((↑(v0 l+i):Int)/8)) (aB (@aT  ((↑(v0 l+i):Int)) (8) om om))<|.K 1 (Ga&&Ao ((↑(v0 l+i):Int)/8<(↑(v0 (pk (aU l v i))):Int))) Sc<|.O 2 ((wo dB (pk (aU l v i)))[0+zL ((↑(v0 l+i):Int)/8)*1]?) (dB (wm (pk (aU l v i)) (0+zL ((↑(v0 l+i):Int)/8)*1) lb)) (aj _ _ (by(have h7:=AB l v i;have h6:=AB l v (i+1);omega)))<|.O 3 (aX WU (Wo WU (↑(Xc (Wq 32 (Xl (v:Int) (2^min i 32))&&&Wq 32 1)):Int))) (uI (Wo WU (↑(Xc (Wq 32 (Xl (v:Int) (2^min i 32))&&&Wq 32 1)):Int))) (bS _ _)<|.O 1 (au .u8 (Wo WU (↑(Xc (Wq 32 (Xl (v:Int) (2^min i 32))&&&Wq 32 1)):Int))) (bI (Wo WU (↑(Xc (Wq 32 (Xl (v:Int) (2^min i 32))&&&Wq 32 1)):Int)%256)) (aD _ _)<|.O 13 (aX Wv (XG (↑(v0 l+i):Int) 8)) (zI ((↑(v0 l+i):Int)%8)) (aB (@bT  ((↑(v0 l+i):Int)) (8) om))<|.O 2 (au .u8 (2^min (zL ((↑(v0 l+i):Int)%8)) 8*(Wo WU (↑(Xc (Wq 32 (Xl (v:Int) (2^min i 32))&&&Wq 32 1)):Int)%256))) (bI (2^min (zL ((↑(v0 l+i):Int)%8)) 8*(Wo WU (↑(Xc (Wq 32 (Xl (v:Int) (2^min i 32))&&&Wq 32 1)):Int)%256)%256)) (aD _ _)<|.O 2 (aX aal (Wo aal (↑(Xc (Wq 8 (↑(V7 (wm (pk (aU l v i)) (0+zL ((↑(v0 l+i):Int)/8)*1) lb)):Int)|||Wq 8 (2^min (zL ((↑(v0 l+i):Int)%8)) 8*(Wo WU (↑(Xc (Wq 32 (Xl (v:Int) (2^min i 32))&&&Wq 32 1)):Int)%256)%256))):Int))) (cK (V7 (wm (pk (aU l v i)) (0+zL ((↑(v0 l+i):Int)/8)*1) lb)|||zL (2^min (zL ((↑(v0 l+i):Int)%8)) 8*(Wo WU (↑(Xc (Wq 32 (Xl (v:Int) (2^min i 32))&&&Wq 32 1)):Int)%256)%256))) (aB (@tM  ((↑(V7 (wm (pk (aU l v i)) (0+zL ((↑(v0 l+i):Int)/8)*1) lb)):Int)) (2^min (zL ((↑(v0 l+i):Int)%8)) 8*(Wo WU (↑(Xc (Wq 32 (Xl (v:Int) (2^min i 32))&&&Wq 32 1)):Int)%256)%256) (by(exact dN _ (by decide) (by decide))) om))<|.K 1 (Ga&&Ao ((↑(v0 l+i):Int)/8<(↑(v0 (pk (aU l v i))):Int))) Sc<|.K 1 (Ga&&Wf (0+zL ((↑(v0 l+i):Int)/8)*1+1) (v0 (wo dB (pk (aU l v i))))) Vq<|.lst (ac (wo dB (pk (aU l v i))) (0+zL ((↑(v0 l+i):Int)/8)*1) [cK (V7 (wm (pk (aU l v i)) (0+zL ((↑(v0 l+i):Int)/8)*1) lb)|||zL (2^min (zL ((↑(v0 l+i):Int)%8)) 8*(Wo WU (↑(Xc (Wq 32 (Xl (v:Int) (2^min i 32))&&&Wq 32 1)):Int)%256)%256))]) (ac (wo dB (pk (aU l v i))) (zL ((↑(v0 l+i):Int)/8)) [cK (V7 (wm (pk (aU l v i)) (zL ((↑(v0 l+i):Int)/8)) lb)|||zL (2^min (zL ((↑(v0 l+i):Int)%8)) 8*(Wo WU (↑(Xc (Wq 32 (Xl (v:Int) (2^min i 32))&&&Wq 32 1)):Int)%256)%256))]) (by(simp;done))<|.W 13 ((↑(v0 l+i):Int)+1)<|.W 12 (i+1)<|.V 1 39 (zI (i+1)) (zN (i+1)) (by(refine aF ?_;(omega)))<|.blk 8 8 (V8 [Wb 16 16 0 (v0 (pk (aU l v i))) 1,zI ((↑(v0 l+i):Int)+1)] 163 Gd) (V8 [Wb 16 16 0 (v0 (pk (aU l v (i+1)))) 1,zN (v0 l+(i+1))] 163 Gd) Vr<|.blk 16 16 (V8 (ac (wo dB (pk (aU l v i))) (zL ((↑(v0 l+i):Int)/8)) [cK (V7 (wm (pk (aU l v i)) (zL ((↑(v0 l+i):Int)/8)) lb)|||zL (2^min (zL ((↑(v0 l+i):Int)%8)) 8*(Wo WU (↑(Xc (Wq 32 (Xl (v:Int) (2^min i 32))&&&Wq 32 1)):Int)%256)%256))]) 5 Ga) (V8 (wo dB (pk (aU l v (i+1)))) 5 Ga) (by(refine aq (Eq.trans (NZ (by rw[aZ]) om (HZ om om)) ?_);rw[xB]))<|Hn.next ZB ⟨(i+1),om,⟨⟩⟩ (by show n-(i+1)<n-i;clear ZB ZD;omega) [(0,0),(8,8),(16,16)] ro)) (λ p0 Z9=>.blk 8 8 (V8 [Wb 16 16 0 (v0 (pk (aU l v i))) 1,zN (v0 l+i)] 163 Gd) (V8 [Wb 16 16 0 (v0 (pk (aU l v n))) 1,zN (v0 l+n)] 163 Gd) (by(rw[show i=n from by(omega)]))<|.blk 16 16 (V8 (wo dB (pk (aU l v i))) 5 Ga) (V8 (wo dB (pk (aU l v n))) 5 Ga) (by(rw[show i=n from by(omega)]))<|Hn.last ZD 0 (():Unit) rfl [(0,0),(8,8),(16,16)] ro)) (fun|⟨i,hi,_⟩=>by kernel_rfl) ⟨(0),om,⟨⟩⟩ [(8,8),(296,296),(336,336)] ro (bB (fun|()=>.Y 16 [16] [16] (Xm [W6 [Wb 0 0 0 (v0 (pk (aU l v n))) 1,zN (v0 l+n)],zI 0]) [V8 (wo dB (pk (aU l v n))) 5 Ga] ok))) kr
def dz (v:Nat):Nat->Nat
 |0=>0
 |i+1=>2*dz v i+(v.testBit i).toNat
def AC (v n i:Nat):Nat:=lk [()] (2^(n-i)*dz v i)
def rn (v n i:Nat):AC v n i=2^(n-i)*dz v i:=aM _ _
def oi (v:Nat):∀n,dz v n<2^n
 |0=>YS
 |n+1=>by
  have h:=oi v n;have h2:=aaa (v.testBit n);rw[dz,XO];omega
def BC {v n i:Nat}(h:i<=n):AC v n i<2^n:=by
 rw[rn];have h2:=oi v i;have e:2^n=2^(n-i)*2^i:=by rw[<-Nat.pow_add];congr 1;omega
 rw[e];exact Nat.mul_lt_mul_of_pos_left h2 (Yr _)
def N2 (v n:Nat):AC v n n=dz v n:=by rw[rn,Xz,Nat.pow_zero,Nat.one_mul]
def Tt {v n i:Nat}{X z:Int}(hi:i<n)(hn:n<=32)(hX:X=((AC v n i:Nat):Int))(hz:z=(((v.testBit i).toNat:Nat):Int)):IntKind.u32.wrap ((Wq 32 X|||Wq 32 (2^min ((n:Int)-1-(i:Int)).toNat 32*z%4294967296)).toNat:Int)=((AC v n (i+1):Nat):Int):=by
 subst hX hz;have h1:=BC (v:=v) (n:=n) (i:=i) om;have h2:=BC (v:=v) (n:=n) (i:=i+1) om;have h3:2^n<=2^32:=Xh (by decide) hn;have hb:=aaa (v.testBit i);have e1:2^(n-i)=2*2^(n-(i+1)):=by rw[show n-i=(n-(i+1))+1 from by omega,XO,Yb]
 have e2:AC v n (i+1)=2^(n-i)*dz v i+2^(n-(i+1))*(v.testBit i).toNat:=by
  rw[rn,dz,YM,e1,<-XS,Yb (2^(n-(i+1))) 2]
 have e3:2^(n-(i+1))*(v.testBit i).toNat<2^(n-i):=by
  have:2^(n-(i+1))*(v.testBit i).toNat<=2^(n-(i+1))*1:=Zk _ hb;have h5:=Yr (n-(i+1));omega
 have h6:2^(n-(i+1))*(v.testBit i).toNat<=4294967295:=by rw[e2]at h2;omega
 rw[show min ((n:Int)-1-(i:Int)).toNat 32=n-(i+1)from by omega,show(2:Int)^(n-(i+1))*(((v.testBit i).toNat:Nat):Int)=((2^(n-(i+1))*(v.testBit i).toNat:Nat):Int)from by push_cast;rfl,show((2^(n-(i+1))*(v.testBit i).toNat:Nat):Int)%4294967296=((2^(n-(i+1))*(v.testBit i).toNat:Nat):Int)from by omega];rw[rn]at h1 ⊢;rw[e2]at h2 ⊢;have h4:2^(n-i)*dz v i<=4294967295/\2^(n-(i+1))*(v.testBit i).toNat<=4294967295:=by omega
 rw[zU om om,Ya,Ya,<-Y9 e3]
def Kc {v i:Nat}(hi:i<=32)(hv:v<4294967296):IntKind.u32.wrap ((Wq 32 ((v:Int).fdiv (2^min i 32))&&&Wq 32 1).toNat:Int)=(((v.testBit i).toNat:Nat):Int):=by
 have hd:v/2^i<=v:=X7 _ _;rw[show min i 32=i from by omega,show(2:Int)^i=((2^i:Nat):Int)from by push_cast;rfl,Yf _ (YQ _),<-YV,abn];generalize v/2^i=Y at *;rw[mf 1 2 om (by decide) (by decide) (by decide)];omega
def bU (v n:Nat)(hn:n<=32)(hv:v<2^n):S0 152 [.v (.int .u32 (v:Int)),nD n] [] (.tup [.v (.int .u32 ((dz v n:Nat):Int)),iD 0]) []:=by
 have h8:=BA hv hn;have h4:=BB hv hn;have h5:v<4294967296:=WX hv (Xh (n:=2) (by decide) hn);refine SpR Tryz.func152 rfl rfl rfl trivial rfl 1000 64 (λ R ok=>.E 19 (Ao ((n:Int)<=32)) (by(refine decide_eq_true ?_;(omega)))<|.O 2 (au .u64 (v:Int)) (D.v (Value.int .u64 (v:Int))) (bq om)<|.O 5 (aX Yo (Xl (v:Int) (2^min n 64))) (D.v (Value.int .u64 (Xl (v:Int) (2^min n 64)))) (bS _ _)<|.F 6 (!Xl (v:Int) (2^min n 64)==0) (by(simp <;>(omega)))<|.s 2<|Hn.inl T_ok ae Gd 28 0 (am Tryz.prog 152 0) (λ(x:(i:Nat)×'(hi:i<=n)×'Unit)=>match x with|⟨i,hi,_⟩=>CutS.mk [(0,ah v),(1,zN n),(4,.v (.int .u32 ((AC v n i:Nat):Int))),(11,zN n),(12,nD i)] [] 0) (λ(x:(i:Nat)×'(hi:i<=n)×'Unit)=>match x with|⟨i,hi,_⟩=>n-i) [⟨Unit,.exit 0,λ()=>CutS.mk [(0,ah v),(1,zN n),(4,.v (.int .u32 ((dz v n:Nat):Int))),(11,zN n)] [] 0⟩] 1000 64 (fun|⟨i,hi,_⟩,Q,ZB,ZD=>.B 2 ((i:Int)<n) (λ p0 Z9=>.O 7 (aX WU (Xl (v:Int) (2^min i 32))) (uI (Xl (v:Int) (2^min i 32))) (bS _ _)<|.O 2 (aX WU (Wo WU (↑(Xc (Wq 32 (Xl (v:Int) (2^min i 32))&&&Wq 32 1)):Int))) (uI (Wo WU (↑(Xc (Wq 32 (Xl (v:Int) (2^min i 32))&&&Wq 32 1)):Int))) (bS _ _)<|.W 3 (n-1)<|.W 3 (n-1-i)<|.K 1 (Ao (0<=(n:Int)-1-i)) (by(refine decide_eq_true ?_;(omega)))<|.opt (au .u32 (2^min (zL ((n:Int)-1-i)) 32*Wo WU (↑(Xc (Wq 32 (Xl (v:Int) (2^min i 32))&&&Wq 32 1)):Int))) (uI (2^min (zL ((n:Int)-1-i)) 32*Wo WU (↑(Xc (Wq 32 (Xl (v:Int) (2^min i 32))&&&Wq 32 1)):Int)%4294967296)) (aD _ _)<|.O 2 (aX WU (Wo WU (↑(Xc (Wq 32 (↑(AC v n i):Int)|||Wq 32 (2^min (zL ((n:Int)-1-i)) 32*Wo WU (↑(Xc (Wq 32 (Xl (v:Int) (2^min i 32))&&&Wq 32 1)):Int)%4294967296))):Int))) (uI (Wo WU (↑(Xc (Wq 32 (↑(AC v n i):Int)|||Wq 32 (2^min (zL ((n:Int)-1-i)) 32*Wo WU (↑(Xc (Wq 32 (Xl (v:Int) (2^min i 32))&&&Wq 32 1)):Int)%4294967296))):Int))) (bS _ _)<|.W 3 (i+1)<|.V 1 4 (uI (Wo WU (↑(Xc (Wq 32 (↑(AC v n i):Int)|||Wq 32 (2^min (zL ((n:Int)-1-i)) 32*Wo WU (↑(Xc (Wq 32 (Xl (v:Int) (2^min i 32))&&&Wq 32 1)):Int)%4294967296))):Int))) (ah (AC v n (i+1))) (by(exact aF (Tt om hn rfl (Kc om om))))<|.val 12 (zI (i+1)) (zN (i+1)) (by(refine aF ?_;(omega)))<|Hn.next ZB ⟨(i+1),om,⟨⟩⟩ (by show n-(i+1)<n-i;clear ZB ZD;omega) [] ro) (λ p0 Z9=>.val 4 (ah (AC v n i)) (ah (dz v n)) (by(rw[show i=n from by(omega),N2]))<|Hn.last ZD 0 (():Unit) rfl [] ro)) (fun|⟨i,hi,_⟩=>by kernel_rfl) ⟨(0),om,⟨⟩⟩ [] ro (bB (fun|()=>.Y 3 [] [] (Xm [ah (dz v n),zI 0]) [] ok))) kr
end Vp
end Go.Proofs.YtefjnofhgkjpmaaGreat

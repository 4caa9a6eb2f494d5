/- Part 2. -/
import Derived.Test.YtefjnofhgkjpmaaGreatTm1
import Derived.IntWalk
import Derived.Test.YtefjnofhgkjpmaaGreatRows
set_option linter.unusedVariables false
set_option linter.defProp false
set_option linter.unusedSimpArgs false
set_option maxRecDepth 100000
set_option maxHeartbeats 4000000
open Array renaming getD_eq_getD_getElem? → Yb, getElem?_eq_getElem → Xu, replicate → Zq, toArray_toList → Xk
open BitVec renaming ofInt → VY, toNat → WC, toNat_ofNat → YU
open Bool renaming and_eq_true → VO, and_true → Wf, not_eq_false' → aaI, not_eq_true' → Xs, or_eq_false_iff → YF, or_eq_true → Yk, toNat_le → Zk
open ByteArray renaming mk → W8
open Go.IntKind renaming i64 → VV, u32 → Wn, u8 → Zx, wrap → VU
open Go.Region renaming wanted → Ye
open Go.Vx.Blk renaming mk → VF
open Go.Vx.D renaming agg → Wu, ptr → V7, ref → VJ, sl → V3, tup → WL
open Go.Vx.Tr renaming get_set → YG, ofL → aa2, of_ofL → aa3, of_set → Xb, okK → aal
open Inhabited renaming default → lh
open Int renaming eq_ofNat_of_zero_le → WM, fdiv → WJ, fdiv_eq_ediv_of_nonneg → XI, natCast_ediv → Yp, natCast_emod → ZP, natCast_nonneg → Yj, tdiv → WZ, tmod → WW, toNat → zq, toNat_of_nonneg → XM
open List renaming all_cons → Zj, all_eq_true → Za, any_eq_true → ZO, append_assoc → Wc, append_nil → WN, cons_append → Yh, drop → Wx, drop_append → Zd, drop_append_of_le_length → Ys, drop_eq_nil_of_le → WS, drop_zero → Xe, eq_nil_of_length_eq_zero → Wq, ext_getElem? → WD, filterMap_cons → aaw, flatMap_append → WH, flatMap_cons → W9, getD_eq_getElem?_getD → VH, getElem?_append_left → Wi, getElem?_append_right → We, getElem?_drop → WR, getElem?_eq_getElem → VG, getElem?_eq_none → Wh, getElem?_map → V6, getElem?_of_mem → WO, getElem?_range → W0, getElem?_set → W7, getElem?_take → WA, getElem_mem → WE, length_append → VI, length_cons → Wj, length_drop → Wr, length_map → VP, length_nil → XJ, length_range → Xt, length_singleton → Wv, length_take → VW, map → XD, map_append → Wz, map_cons → W6, mem_append_left → XW, mem_cons_of_mem → Wa, mem_cons_self → Wb, mem_filter → YR, mem_of_getElem? → W4, mem_reverse → aa1, mem_singleton → YT, nil_append → Yu, pairwise_append → Zn, range → WP, range_succ → Yv, set_append_right → Yy, take → Ws, take_append → ZQ, take_append_drop → XR, take_append_of_le_length → XP, take_length → Xh, take_of_length_le → Wm
open Nat renaming add_mul → WV, add_zero → Xw, and_two_pow_sub_one_eq_mod → Zc, beq → VK, beq_refl → WK, ble → VN, ble_eq_true_of_le → VL, blt → XS, div_eq_of_lt → Ze, eq_of_beq_eq_true → VQ, le_of_ble_eq_true → VS, le_refl → VT, le_trans → VR, lt_of_lt_of_le → Wp, lt_or_ge → Wl, lt_trichotomy → XO, mod_eq_of_lt → Xc, mul_one → V5, not_succ_le_zero → Zo, or_lt_two_pow → aaO, pow_le_pow_right → WF, pow_succ → Xj, sub_self → W5, succ_le_succ → Yg, two_pow_add_eq_or_of_lt → YB, zero_add → Wd, zero_le → Wy, zero_lt_one → Yl, zero_mul → Xl
open UInt8 renaming ofNat → WI, toNat → VE, toNat_ofNat' → Xy
namespace Go.Vx
open Go.RowKit Go.Bw
section
variable {P:Program} {cx:Cx} {E:Env} {s:AS} {a:Act} {w:World} {i:Nat} {o:Oper} {T:TT} {F:Fence} {n:Nat}

structure Sub (s S:AS):Prop where
 tm:∀t d,s.tm.get t=some d->S.tm.get t=some d
 hp:∀k g o,s.gat k=some (g,o)->S.gat k=some (g,o)
 nx:s.nx=S.nx

theorem SR.part {S:AS}(h:SR cx E S a w)(hs:Sub s S):SR cx E {s with us:=S.us} a w:=
 {
  fr:=λ t d hd=>h.fr t d (hs.tm t d hd),sz:=h.sz,df:=h.df,hp:=λ k g b hk=>h.hp k g b (AS.at_iff.2 (hs.hp k g _ (AS.at_iff.1 hk))),lp:=λ k g b hk=>h.lp k g b (AS.lat_iff.2 (hs.hp k g _ (AS.lat_iff.1 hk)))
  inj:=λ k k' g g' b b' hkk h1 h2=>h.inj k k' g g' b b' hkk (hs.hp _ _ _ h1) (hs.hp _ _ _ h2)
  lt:=h.lt,low:=λ x ⟨k,g,b,hk,hx⟩=>h.low x ⟨k,g,b,hs.hp k g b hk,hx⟩,base:=h.base,bel:=h.bel,szB:=h.szB,nm:=λ g hg=>by
   have:=h.nm g hg;rw[<-hs.nx]at this;exact this}

def lk:Up->Nat->Option (Option (Nat×Ob))
 |[],_=>none
 |p::r,k=>if p.1=k then some p.2 else lk r k
def nL (up:Up):Bool:=up.all λ p=>aal p.1
theorem hU:∀{up:Up} (hp:Tr (Nat×Ob)) (k:Nat),nL up=true->(fW up hp).get k=(lk up k).getD (hp.get k)
 |[],hp,k,_=>rfl
 |p::r,hp,k,h=>by
  simp only[nL,Zj,VO]at h;show((fW r hp).set p.1 p.2).get k=_;rw[YG _ _ _ h.1];simp only[lk]
  by_cases e:p.1=k
  ·rw[ZF e.symm,ZF e];rfl
  ·rw[ZE (λ h=>e h.symm),ZE e];exact hU hp k h.2

theorem SR.extend {S:AS}(h:SR cx E S a w)(hs:Sub s S){E':Env}{w':World}{up:Up}(hok:nL up=true){i:Nat}(st:Stp E E' w w')(h':SR cx E' {s with hp:=fW up s.hp,us:=i::S.us} a w')
  (mu:Mut {s with us:=S.us} {s with hp:=fW up s.hp,us:=i::S.us} E E' w w'):SR cx E' {S with hp:=fW up S.hp,us:=i::S.us} a w':=by
 have cases2:∀{k g b},AS.gat {S with hp:=fW up S.hp,us:=i::S.us} k=some (g,b)->AS.gat {s with hp:=fW up s.hp,us:=i::S.us} k=some (g,b)∨(S.gat k=some (g,b)∧s.gat k=none):=fun{k g b} hk=>by
  have hk:(fW up S.hp).get k=some (g,b):=hk;show(fW up s.hp).get k=some (g,b)∨_;rw[hU _ _ hok]at hk ⊢
  cases hu:lk up k with
  |some v=>rw[hu]at hk;exact .inl hk
  |none=>
   rw[hu]at hk;simp only[Option.getD_none]at hk ⊢
   cases hsk:s.hp.get k with
   |none=>exact .inr ⟨hk,hsk⟩
   |some p=>
    obtain⟨g',b'⟩:=p;have hSk:S.gat k=some (g',b'):=hs.hp k g' b' hsk;have hSk':S.hp.get k=some (g',b'):=hSk;rw[hSk']at hk;exact .inl hk
 have own_s:∀{x},bB {s with us:=S.us} E.φ x->∃k g b,s.gat k=some (g,b)∧E.φ g=some x:=λ h=>h
 have notown:∀{k g b x},S.gat k=some (g,b)->s.gat k=none->E.φ g=some x->¬bB {s with us:=S.us} E.φ x:=fun{k g b x} hk hsk hx ho=>by
  obtain⟨k',g',b',h1,h2⟩:=own_s ho;refine h.inj k k' g g' b b' (λ e=>?_) hk (hs.hp _ _ _ h1) x hx h2;subst e;rw[hsk]at h1;cases h1
 have ltS:∀{k g b x},S.gat k=some (g,b)->E.φ g=some x->x<w.heap.size:=λ hk hx=>(h.ob hk).lt hx
 have hob:∀{k g b},AS.gat {S with hp:=fW up S.hp,us:=i::S.us} k=some (g,b)->OB E' w' g b:=fun{k g b} hk=>by
  rcases cases2 hk with h1|⟨h1,h2⟩
  ·exact h'.ob h1
  ·exact(h.ob h1).step st λ x hx=>⟨mu.own x (ltS h1 hx) (h.own_of ⟨k,g,b,h1,hx⟩) (notown h1 h2 hx),mu.heap x (ltS h1 hx) (notown h1 h2 hx)⟩
 refine{h' with
  fr:=λ t d hd=>by obtain⟨u,hu,hr⟩:=h.fr t d hd;exact⟨u,hu,hr.step st⟩
  df:=h.df.step (λ b hb hd=>mu.own b (h.lt b hb) hb fun⟨k,g,o,hk,hx⟩=>h.unmarked hd ⟨k,g,o,hs.hp _ _ _ hk,hx⟩) λ b hb hd=>mu.heap b (h.lt b hb) fun⟨k,g,o,hk,hx⟩=>h.unmarked hd ⟨k,g,o,hs.hp _ _ _ hk,hx⟩
  hp:=λ k g b hk=>hob (AS.at_iff.1 hk)
  lp:=λ k g b hk=>hob (AS.lat_iff.1 hk)
  inj:=λ k1 k2 g1 g2 b1 b2 hkk h1 h2 x hx1 hx2=>?_
  nm:=λ g hg=>?_
  low:=λ x ⟨k,g,b,hk,hx⟩=>?_}
 ·have mix:∀{k1 k2 g1 g2 b1 b2 x},AS.gat {s with hp:=fW up s.hp,us:=i::S.us} k1=some (g1,b1)->S.gat k2=some (g2,b2)->s.gat k2=none->E'.φ g1=some x->E'.φ g2=some x->False:=fun{k1 k2 g1 g2 b1 b2 x} h1 h2 h3 hx1 hx2=>by
   have e2:=st.φ g2 (h.ob h2).nm;rw[e2]at hx2;exact notown h2 h3 hx2 (mu.old x (ltS h2 hx2) ⟨k1,g1,b1,h1,hx1⟩)
  rcases cases2 h1 with a1|⟨a1,a2⟩<;>rcases cases2 h2 with c1|⟨c1,c2⟩
  ·exact h'.inj k1 k2 g1 g2 b1 b2 hkk a1 c1 x hx1 hx2
  ·exact mix a1 c1 c2 hx1 hx2
  ·exact mix c1 a1 a2 hx2 hx1
  ·have e1:=st.φ g1 (h.ob a1).nm
   have e2:=st.φ g2 (h.ob c1).nm;rw[e1]at hx1;rw[e2]at hx2;exact h.inj k1 k2 g1 g2 b1 b2 hkk a1 c1 x hx1 hx2
 ·rcases cases2 hk with h1|⟨h1,h2⟩
  ·exact h'.low x ⟨k,g,b,h1,hx⟩
  ·have e2:=st.φ g (h.ob h1).nm
   rw[e2]at hx;exact h.low x ⟨k,g,b,h1,hx⟩
 ·have:=h'.nm g hg
  dsimp only at this ⊢;rw[hs.nx]at this;exact this

theorem zm {S:AS}(hF:FOK F)(hT:T.ok P)(h:SR cx E S a w)(hs:Sub s S)(hi:i∉S.us){ky:Nat}(hdst:iM cx.nt o=true){K:Option D->Up->Prop}(hv:dM P T {s with us:=S.us} (s.nx+8*i) ky o K)(hok:∀v up,K v up->nL up=true){next:Act->World->Prop}{Q:Exit->Act->World->Prop}
  (hn:∀v up E' a' w',K v up->SR cx E' {S with tm:=ea S.tm o.dst v,hp:=fW up S.hp,us:=i::S.us} a' w'->Stp E E' w w'->Mut S {S with tm:=ea S.tm o.dst v,hp:=fW up S.hp,us:=i::S.us} E E' w w'->next a' w'):o.wpIn F n P a w next Q:=
 qO hF hT (h.part hs) hi hv λ v up E' w' u hK s1 s2 s3 hr=>hn v up E' _ w' hK (cP (s:={S with hp:=fW up S.hp,us:=i::S.us}) (h.extend hs (hok v up hK) s1 s2 s3) hdst hr) s1
  ⟨λ b hz hb hno=>s3.own b hz hb fun⟨k,g,ob,hk,hx⟩=>hno ⟨k,g,ob,hs.hp _ _ _ hk,hx⟩,λ b hb hno=>s3.heap b hb fun⟨k,g,ob,hk,hx⟩=>hno ⟨k,g,ob,hs.hp _ _ _ hk,hx⟩,λ x hx ⟨k,g,ob,hk,hx'⟩=>by
   have hk:(fW up S.hp).get k=some (g,ob):=hk;rw[hU _ _ (hok v up hK)]at hk
   cases hu:lk up k with
   |some vv=>
    have hk2:AS.gat {s with hp:=fW up s.hp,us:=i::S.us} k=some (g,ob):=by
     show(fW up s.hp).get k=_;rw[hU _ _ (hok v up hK)];rw[hu]at hk ⊢;exact hk
    obtain⟨k',g',o',h1,h2⟩:=s3.old x hx ⟨k,g,ob,hk2,hx'⟩;exact⟨k',g',o',hs.hp _ _ _ h1,h2⟩
   |none=>
    rw[hu]at hk;have hk:S.gat k=some (g,ob):=hk;refine⟨k,g,ob,hk,?_⟩;rw[<-s1.φ g (h.ob hk).nm];exact hx'⟩

def gg:List Operand->List Nat
 |[]=>[]
 | .tmp t::r=>t::gg r
 |_::r=>gg r
def ta (tm:Tr D):List Nat->Tr D
 |[]=>.e
 |t::r=>match tm.get t with
  |some d=>(ta tm r).set t (some d)
  |none=>ta tm r
def wS (tm:Tr D):List Nat->List Nat
 |[]=>[]
 |t::r=>match tm.get t with
  |some d=>AB d++wS tm r
  |none=>wS tm r
def tb (hp:Tr (Nat×Ob)):List Nat->Tr (Nat×Ob)
 |[]=>.e
 |k::r=>match hp.get k with
  |some v=>(tb hp r).set k (some v)
  |none=>tb hp r
theorem jn (tm:Tr D):∀(ts:List Nat) (t:Nat) (d:D),(ta tm ts).get t=some d->t∈ts∧tm.get t=some d
 |[],t,d,h=>by cases h
 |x::r,t,d,h=>by
  simp only[ta]at h
  cases hx:tm.get x with
  |none=>rw[hx]at h;obtain⟨h1,h2⟩:=jn tm r t d h;exact⟨Wa _ h1,h2⟩
  |some v=>
   rw[hx]at h;rcases Xb h with⟨rfl,hv⟩|⟨_,h⟩
   ·cases hv;exact⟨Wb,hx⟩
   ·obtain⟨h1,h2⟩:=jn tm r t d h;exact⟨Wa _ h1,h2⟩
theorem jo (hp:Tr (Nat×Ob)):∀(ks:List Nat) (k:Nat) v,(tb hp ks).get k=some v->k∈ks∧hp.get k=some v
 |[],t,d,h=>by cases h
 |x::r,t,d,h=>by
  simp only[tb]at h
  cases hx:hp.get x with
  |none=>rw[hx]at h;obtain⟨h1,h2⟩:=jo hp r t d h;exact⟨Wa _ h1,h2⟩
  |some v=>
   rw[hx]at h;rcases Xb h with⟨rfl,hv⟩|⟨_,h⟩
   ·cases hv;exact⟨Wb,hx⟩
   ·obtain⟨h1,h2⟩:=jo hp r t d h;exact⟨Wa _ h1,h2⟩
def wT (s:AS):Nat->List Nat->List Nat
 |0,ks=>ks
 |f+1,ks=>ks++wT s f (ks.flatMap λ k=>match s.at k with
  |some p=>bif p.2.row then[]else pG p.2.cells
  |none=>[])
def I9 (o:Oper):Bool:=match o.op with
 | .call c=>match c.callee with
  | .builtin _=>false
  |_=>true
 |_=>false
def Ja (o:Oper):Bool:=match o.op with
 | .move _=>true
 | .assign _=>true
 | .nilCheck _=>true
 | .fieldAddr _ _ _=>true
 |_=>false
def GB:Option D->Bool
 |some (.ref _ _ _ _ _)=>true
 |some (.sl _ _ _ _)=>true
 |_=>false
def Mz (s:AS)(o:Oper):Bool:=match o.op with
 | .slice _ (.tmp t) _ _ _=>GB (s.tm.get t)
 | .call c=>match c.callee,c.args.toList with
  | .builtin .len,[.tmp t]=>GB (s.tm.get t)
  |_,_=>false
 |_=>false
def zn (s:AS)(o:Oper):List Nat:=bif Ja o||Mz s o then[]else bif I9 o then wT s 5 (wS s.tm (gg o.op.operands.toList))else wS s.tm (gg o.op.operands.toList)

structure Rec where
 rt:List Nat
 rk:List Nat
 dst:Option Nat
 v:Option D
 up:Up
 ld:Option (Nat×Nat×Nat×Option D)
def Et (T:TT)(s:AS)(o:Oper):Option (Nat×Nat×Nat×Option D):=
 match o.op with
 | .load ty (.tmp t)=>match T.get ty,s.tm.get t with
  |some ti,some (.ptr k _ off)=>match s.at k with
   |some p=>bif ti.desc.isRow|| !((zn s o).any λ x=>VK x k)|| !((gg o.op.operands.toList).any λ x=>VK x t)then none else some (k,off,p.1,p.2.cells[off]?)
   |none=>none
  |_,_=>none
 |_=>none
def AS.eff (s:AS)(i:Nat)(r:Rec):AS:={s with tm:=ea s.tm r.dst r.v,hp:=fW r.up s.hp,us:=i::s.us}
def AG (s:AS)(ts ks:List Nat):AS:={tm:=ta s.tm ts,hp:=tb s.hp ks,nx:=s.nx,us:=[]}


def eb (o:Oper):List Nat:=(o.after.toList.filter (Region.binds .any)).map (·.on)
def AH (pr:List (List Nat)):Nat->List Oper->Bool
 |_,[]=>true
 |i,o::r=>(eb o).all (λ e=>XS e i)&&(pr.getD i []).all (λ j=>(eb o).any λ e=>VK e j||(pr.getD e []).any λ x=>VK x j)&&AH pr (i+1) r
theorem pM {pr:List (List Nat)}:∀(l:List Oper) (i:Nat),AH pr i l=true->∀(j:Nat) o,l[j]? =some o->(∀e∈eb o,e<i+j)∧∀x∈pr.getD (i+j) [],∃e∈eb o,e=x∨x∈pr.getD e []
 |[],i,_,j,o,h=>by simp at h
 |o'::r,i,h,j,o,hj=>by
  simp only[AH,VO,Za,ZO,Yk]at h;obtain⟨⟨h1,h2⟩,h3⟩:=h
  cases j with
  |zero=>
   simp at hj;subst hj;refine⟨λ e he=>VS (h1 e he),λ x hx=>?_⟩;obtain⟨e,he,h4⟩:=h2 x hx;refine⟨e,he,?_⟩;rcases h4 with h4|⟨y,hy,h4⟩
   ·exact .inl (VQ h4)
   ·have:=VQ h4;subst this;exact .inr hy
  |succ j=>
   have:=pM r (i+1) h3 j o (by simpa using hj);rw[show i+1+j=i+(j+1) by omega]at this;exact this

def dj (r:Rec):Bool:=(match r.dst with|some t=>aal t|none=>true)&&nL r.up
def pN:Up->List Nat
 |[]=>[]
 |p::r=>p.1::pN r
def tc (a b:List Nat):Bool:=a.all λ x=>b.all λ y=>!VK x y
theorem dw {a b:List Nat}(h:tc a b=true){x:Nat}(h1:x∈a)(h2:x∈b):False:=by
 simp only[tc,Za]at h;have:=h x h1 x h2;simp at this
def fc (a b:Rec):Bool:=
 tc a.dst.toList b.rt&&tc b.dst.toList a.rt&&tc a.dst.toList b.dst.toList&&tc (pN a.up) b.rk&&tc (pN a.up) (pN b.up)
def dk (a b:Rec):Bool:=fc a b&&tc (pN b.up) a.rk
theorem iO {a b:Rec}(h:dk a b=true):fc a b=true:=by rw[dk,VO]at h;exact h.1
def pO (a b:Rec):Prop:=∃k off g c b2,a.ld=some (k,off,g,c)∧lk b.up k=some (some (g,.b b2))∧b2.cells[off]? =c
def Jb (a b:Rec):Bool:=match a.ld with
 |some p=>match lk b.up p.1 with
  |some (some (g,.b _))=>VK g p.2.2.1
  |_=>false
 |none=>false
def vw (a b:Rec):Option D:=match a.ld with
 |some p=>match lk b.up p.1 with
  |some (some (_,.b b2))=>b2.cells[p.2.1]?
  |_=>none
 |none=>none
def vx (a:Rec):Option D:=match a.ld with
 |some p=>p.2.2.2
 |none=>none
theorem AI {a b:Rec}(h:Jb a b=true)(e:vw a b=vx a):pO a b:=by
 unfold Jb at h;unfold vw vx at e
 split at h
 case h_2=>cases h
 case h_1 p hp=>
 rw[hp]at e;dsimp only at e
 split at h
 case h_2=>cases h
 case h_1 g b2 hb=>
 rw[hb]at e;have:=VQ h;subst this;exact⟨p.1,p.2.1,p.2.2.1,p.2.2.2,b2,hp,hb,e⟩
def wU (pr:List (List Nat))(i:Nat)(a:Rec):Nat->List Rec->Bool
 |_,[]=>true
 |j,b::r=>((pr.getD j []).any (λ x=>VK x i)||dk a b)&&wU pr i a (j+1) r
def vy (pr:List (List Nat)):Nat->List Rec->Bool
 |_,[]=>true
 |i,a::r=>wU pr i a (i+1) r&&vy pr (i+1) r
theorem nM {pr:List (List Nat)}{i:Nat}{a:Rec}:∀(l:List Rec) (j:Nat),wU pr i a j l=true->∀(k:Nat) b,l[k]? =some b->i∈pr.getD (j+k) []∨dk a b=true
 |[],j,_,k,b,h=>by simp at h
 |b'::r,j,h,k,b,hk=>by
  simp only[wU,VO,Yk,ZO]at h
  cases k with
  |zero=>
   simp at hk;subst hk;rcases h.1 with⟨x,hx,h4⟩|h4
   ·have:=VQ h4;subst this;exact .inl hx
   ·exact .inr h4
  |succ k=>
   have:=nM r (j+1) h.2 k b (by simpa using hk);rw[show j+1+k=j+(k+1) by omega]at this;exact this
theorem pP {pr:List (List Nat)}:∀(l:List Rec) (i:Nat),vy pr i l=true->∀(j k:Nat) a b,j<k->l[j]? =some a->l[k]? =some b->(i+j)∈pr.getD (i+k) []∨dk a b=true
 |[],i,_,j,k,a,b,_,h,_=>by simp at h
 |a'::r,i,h,j,k,a,b,hjk,hj,hk=>by
  simp only[vy,VO]at h
  cases k with
  |zero=>omega
  |succ k=>
   cases j with
   |zero=>
    simp at hj;subst hj;have:=nM r (i+1) h.1 k b (by simpa using hk);rw[show i+1+k=i+(k+1) by omega]at this;exact this
   |succ j=>
    have:=pP r (i+1) h.2 j k a b (by omega) (by simpa using hj) (by simpa using hk);rw[show i+1+k=i+(k+1) by omega,show i+1+j=i+(j+1) by omega]at this;exact this

def CF (pr:List (List Nat))(l:List Rec):Prop:=∀(i j:Nat) a b,i<j->l[i]? =some a->l[j]? =some b->i∈pr.getD j []∨dk a b=true∨(fc a b=true∧pO a b)
theorem CF.of_ok {pr:List (List Nat)}{l:List Rec}(h:vy pr 0 l=true):CF pr l:=λ i j a b hij ha hb=>by
 have:=pP l 0 h i j a b hij ha hb;rw[Wd,Wd]at this;exact this.imp id .inl
def wV (pr:List (List Nat))(i:Nat)(a:Rec):Nat->List Rec->Bool
 |_,[]=>true
 |j,b::r=>((pr.getD j []).any (λ x=>VK x i)||dk a b||(fc a b&&Jb a b))&&wV pr i a (j+1) r
def vz (pr:List (List Nat)):Nat->List Rec->Bool
 |_,[]=>true
 |i,a::r=>wV pr i a (i+1) r&&vz pr (i+1) r
def zo (pr:List (List Nat))(i:Nat)(a:Rec):Nat->List Rec->List (Option D×Option D)
 |_,[]=>[]
 |j,b::r=>bif (pr.getD j []).any (λ x=>VK x i)||dk a b then zo pr i a (j+1) r else(vw a b,vx a)::zo pr i a (j+1) r
def GC (pr:List (List Nat)):Nat->List Rec->List (Option D×Option D)
 |_,[]=>[]
 |i,a::r=>zo pr i a (i+1) r++GC pr (i+1) r
theorem nN {pr:List (List Nat)}{i:Nat}{a:Rec}:∀(l:List Rec) (j:Nat),wV pr i a j l=true->(∀p∈zo pr i a j l,p.1=p.2)->∀(k:Nat) b,l[k]? =some b->i∈pr.getD (j+k) []∨dk a b=true∨(fc a b=true∧pO a b)
 |[],j,_,_,k,b,h=>by simp at h
 |b'::r,j,h,hs,k,b,hk=>by
  rw[wV,VO]at h;rw[zo]at hs
  cases k with
  |zero=>
   simp at hk;subst hk
   cases hc:((pr.getD j []).any (λ x=>VK x i)||dk a b')with
   |true=>
    rw[Yk]at hc;rcases hc with hc|hc
    ·obtain⟨x,hx,h4⟩:=List.any_eq_true.1 hc
     have:=VQ h4;subst this;exact .inl hx
    ·exact .inr (.inl hc)
   |false=>
    rw[hc,Bool.false_or,VO]at h;rw[hc,cond_false]at hs;exact .inr (.inr ⟨h.1.1,AI h.1.2 (hs _ Wb)⟩)
  |succ k=>
   have hs':∀p∈zo pr i a (j+1) r,p.1=p.2:=λ p hp=>hs p (by cases((pr.getD j []).any (λ x=>VK x i)||dk a b')<;>simp[hp])
   have:=nN r (j+1) h.2 hs' k b (by simpa using hk);rw[show j+1+k=j+(k+1) by omega]at this;exact this
theorem pQ {pr:List (List Nat)}:∀(l:List Rec) (i:Nat),vz pr i l=true->(∀p∈GC pr i l,p.1=p.2)->∀(j k:Nat) a b,j<k->l[j]? =some a->l[k]? =some b->(i+j)∈pr.getD (i+k) []∨dk a b=true∨(fc a b=true∧pO a b)
 |[],i,_,_,j,k,a,b,_,h,_=>by simp at h
 |a'::r,i,h,hs,j,k,a,b,hjk,hj,hk=>by
  rw[vz,VO]at h;rw[GC]at hs
  cases k with
  |zero=>omega
  |succ k=>
   cases j with
   |zero=>
    simp at hj;subst hj;have:=nN r (i+1) h.1 (λ p hp=>hs p (XW _ hp)) k b (by simpa using hk);rw[show i+1+k=i+(k+1) by omega]at this;exact this
   |succ j=>
    have:=pQ r (i+1) h.2 (λ p hp=>hs p (List.mem_append_right _ hp)) j k a b (by omega) (by simpa using hj) (by simpa using hk);rw[show i+1+k=i+(k+1) by omega,show i+1+j=i+(j+1) by omega]at this;exact this
theorem CF.of_rx {pr:List (List Nat)}{l:List Rec}(h:vz pr 0 l=true)(hs:∀p∈GC pr 0 l,p.1=p.2):CF pr l:=λ i j a b hij ha hb=>by
 have:=pQ l 0 h hs i j a b hij ha hb
 rwa [Wd,Wd]at this

def bh:Rec:=⟨[],[],none,none,[],none⟩
def ia (recs:List Rec)(s:AS)(π:List Nat):AS:=π.foldl (λ S i=>S.eff i (recs.getD i bh)) s
theorem nO (recs:List Rec)(s:AS)(π:List Nat)(i:Nat):ia recs s (π++[i])=(ia recs s π).eff i (recs.getD i bh):=by simp[ia]

theorem eE {β:Type}(f:AS->β)(wr:Nat->Option β)(recs:List Rec)(hf:∀S i,f (S.eff i (recs.getD i bh))=(wr i).getD (f S)):∀(π:List Nat) (S:AS),f (ia recs S π)=((π.filterMap wr).getLast?).getD (f S)
 |[],S=>rfl
 |i::π,S=>by
  have ih:=eE f wr recs hf π (S.eff i (recs.getD i bh));show f (ia recs (S.eff i (recs.getD i bh)) π)=_;rw[ih,hf]
  cases hw:wr i with
  |none=>simp[hw]
  |some v=>
   simp only[aaw,hw];rw[List.getLast?_cons]
   cases(π.filterMap wr).getLast?<;>rfl

def Me (recs:List Rec)(t i:Nat):Option (Option D):=if(recs.getD i bh).dst=some t then some (recs.getD i bh).v else none
def qS (recs:List Rec)(k i:Nat):Option (Option (Nat×Ob)):=lk (recs.getD i bh).up k
theorem vA {recs:List Rec}(h:recs.all dj=true)(i:Nat):dj (recs.getD i bh)=true:=by
 rcases Wl i recs.length with hi|hi
 ·have e:recs.getD i bh=recs[i]:=by simp[hi]
  rw[e];exact List.all_eq_true.1 h _ (WE hi)
 ·have e:recs.getD i bh=bh:=by simp[hi]
  rw[e];rfl
theorem Jc (recs:List Rec)(hok:recs.all dj=true)(t:Nat)(S:AS)(i:Nat):(S.eff i (recs.getD i bh)).tm.get t=(Me recs t i).getD (S.tm.get t):=by
 have h:=vA hok i;show(ea S.tm (recs.getD i bh).dst (recs.getD i bh).v).get t=_;unfold Me
 cases hd:(recs.getD i bh).dst with
 |none=>rfl
 |some x=>
  rw[dj,hd,VO]at h;simp only[ea,Option.some.injEq];rw[YG _ _ _ h.1]
  by_cases e:x=t
  ·rw[ZF e.symm,ZF e];rfl
  ·rw[ZE (λ h=>e h.symm),ZE e];rfl
theorem qT (recs:List Rec)(hok:recs.all dj=true)(k:Nat)(S:AS)(i:Nat):(S.eff i (recs.getD i bh)).hp.get k=(qS recs k i).getD (S.hp.get k):=by
 have h:=vA hok i;rw[dj,VO]at h;exact hU _ _ h.2

theorem nP:∀(l m:List Nat),l.Pairwise (· < ·)->m.Pairwise (· < ·)->(∀x,x∈l↔x∈m)->l=m
 |[],[],_,_,_=>rfl
 |[],y::m,_,_,h=>by have:=(h y).2 Wb;cases this
 |x::l,[],_,_,h=>by have:=(h x).1 Wb;cases this
 |x::l,y::m,h1,h2,h=>by
  rw[List.pairwise_cons]at h1 h2;have e:x=y:=by
   rcases List.mem_cons.1 ((h x).1 Wb)with e|hx
   ·exact e
   ·rcases List.mem_cons.1 ((h y).2 Wb)with e|hy
    ·exact e.symm
    ·have:=h1.1 y hy;have:=h2.1 x hx;omega
  subst e;rw[nP l m h1.2 h2.2 λ z=>?_];have:=h z;constructor
  ·intro hz
   rcases List.mem_cons.1 (this.1 (Wa _ hz))with e|hz'
   ·have:=h1.1 z hz;omega
   ·exact hz'
  ·intro hz
   rcases List.mem_cons.1 (this.2 (Wa _ hz))with e|hz'
   ·have:=h2.1 z hz;omega
   ·exact hz'

theorem cH {β:Type}(wr:Nat->Option β)(l:List Nat):l.filterMap wr=(l.filter λ i=>(wr i).isSome).filterMap wr:=by
 induction l with
 |nil=>rfl
 |cons x l ih=>
  cases h:wr x with
  |none=>simp[h,ih]
  |some v=>simp[h,ih]

structure Ord (pr:List (List Nat))(recs:List Rec)(π:List Nat):Prop where
 lin:π.Pairwise λ x y=>y∉pr.getD x []∧x≠y
 cl:∀x∈π,∀y∈pr.getD x [],y∈π
 lt:∀x∈π,x<recs.length

section
variable {pr:List (List Nat)} {recs:List Rec} {π:List Nat}

theorem nQ (hcf:CF pr recs)(ho:Ord pr recs π){m:Nat}(W:Nat->Bool)(hW:∀x y,x<recs.length->y<recs.length->x<y->W x=true->W y=true->fc (recs.getD x bh) (recs.getD y bh)=false)
  (hmem:∀x,W x=true->(x∈π↔x<m)):π.filter W=(WP m).filter W:=by
 refine nP _ _ ?_ (List.Pairwise.filter _ (List.pairwise_lt_range)) λ x=>?_
 ·have h1:=ho.lin.filter W
  refine h1.imp_of_mem fun{x y} hx hy ⟨h2,h3⟩=>?_
  rw[YR]at hx hy;rcases XO x y with h|h|h
  ·exact h
  ·exact absurd h h3
  ·have hxl:=ho.lt x hx.1
   have hyl:=ho.lt y hy.1;have:=hcf y x (recs.getD y bh) (recs.getD x bh) h (by simp[hyl]) (by simp[hxl]);rcases this with h4|h4|h4
   ·exact absurd h4 h2
   ·have h4:=iO h4;rw[hW y x hyl hxl h hy.2 hx.2]at h4;cases h4
   ·have h4:=h4.1;rw[hW y x hyl hxl h hy.2 hx.2]at h4;cases h4
 ·rw[YR,YR,List.mem_range]
  constructor
  ·rintro⟨h1,h2⟩;exact⟨(hmem x h2).1 h1,h2⟩
  ·rintro⟨h1,h2⟩;exact⟨(hmem x h2).2 h1,h2⟩

theorem Jd {a b:Rec}{t:Nat}(ha:a.dst=some t)(hb:b.dst=some t):fc a b=false:=by
 cases h:fc a b with
 |false=>rfl
 |true=>
  simp only[fc,VO]at h;exact(dw h.1.1.2 (x:=t) (by simp[ha]) (by simp[hb])).elim
theorem dz {up:Up}{k:Nat}(h:(lk up k).isSome=true):k∈pN up:=by
 induction up with
 |nil=>simp[lk]at h
 |cons p r ih=>
  simp only[lk]at h
  by_cases e:p.1=k
  ·subst e;exact Wb
  ·rw[ZE e]at h;exact Wa _ (ih h)
theorem AJ {a b:Rec}{k:Nat}(ha:(lk a.up k).isSome=true)(hb:(lk b.up k).isSome=true):fc a b=false:=by
 cases h:fc a b with
 |false=>rfl
 |true=>
  simp only[fc,VO]at h;exact(dw h.2 (dz ha) (dz hb)).elim

theorem wW (hcf:CF pr recs)(ho:Ord pr recs π){m:Nat}(hm:m<=recs.length){β:Type}(f:AS->β)(wr:Nat->Option β)(hf:∀S i,f (S.eff i (recs.getD i bh))=(wr i).getD (f S))
  (hww:∀x y,x<recs.length->y<recs.length->(wr x).isSome=true->(wr y).isSome=true->fc (recs.getD x bh) (recs.getD y bh)=false)
  (hout:∀x,recs.length<=x->wr x=none)
  (hread:m=recs.length∧(∀x,x<m->x∈π)∨(m∉π∧(∀y∈pr.getD m [],y∈π)∧m<recs.length∧∀x,x<recs.length->(wr x).isSome=true->fc (recs.getD x bh) (recs.getD m bh)=false∧dk (recs.getD m bh) (recs.getD x bh)=false∧(fc (recs.getD m bh) (recs.getD x bh)=true->¬pO (recs.getD m bh) (recs.getD x bh)))) (s:AS):
  f (ia recs s π)=f (ia recs s (WP m)):=by
 rw[eE f wr recs hf,eE f wr recs hf,cH wr π,cH wr (WP m),
  nQ hcf ho (m:=m) (λ i=>(wr i).isSome) (λ x y hx hy _ h1 h2=>hww x y hx hy h1 h2) λ x hx=>?_]
 have hxl:x<recs.length:=by
  rcases Wl x recs.length with h|h
  ·exact h
  ·rw[hout x h]at hx;cases hx
 rcases hread with⟨rfl,hall⟩|⟨hmn,hpr,hml,hr⟩
 ·exact⟨λ _=>hxl,λ _=>hall x hxl⟩
 ·obtain⟨r1,r2,r3⟩:=hr x hxl hx
  constructor
  ·intro hxp
   rcases XO x m with h|h|h
   ·exact h
   ·subst h;exact absurd hxp hmn
   ·have:=hcf m x (recs.getD m bh) (recs.getD x bh) h (by simp[hml]) (by simp[hxl])
    rcases this with h4|h4|h4
    ·exact absurd (ho.cl x hxp m h4) hmn
    ·rw[r2]at h4;cases h4
    ·exact absurd h4.2 (r3 h4.1)
  ·intro h
   have:=hcf x m (recs.getD x bh) (recs.getD m bh) h (by simp[hxl]) (by simp[hml]);rcases this with h4|h4|h4
   ·exact hpr x h4
   ·have h4:=iO h4;rw[r1]at h4;cases h4
   ·have h4:=h4.1;rw[r1]at h4;cases h4

theorem pR (hok:recs.all dj=true)(hcf:CF pr recs)(ho:Ord pr recs π){m t:Nat}(hm:m<=recs.length)
  (hread:m=recs.length∧(∀x,x<m->x∈π)∨(m∉π∧(∀y∈pr.getD m [],y∈π)∧m<recs.length∧t∈(recs.getD m bh).rt)) (s:AS):(ia recs s π).tm.get t=(ia recs s (WP m)).tm.get t:=by
 have dst:∀{x},(Me recs t x).isSome=true->(recs.getD x bh).dst=some t:=fun{x} h=>by
  unfold Me at h;split at h
  ·assumption
  ·cases h
 refine wW hcf ho hm (λ S=>S.tm.get t) (Me recs t) (λ S i=>Jc recs hok t S i) (λ x y _ _ h1 h2=>Jd (dst h1) (dst h2)) (λ x hx=>by simp[Me,bh,hx]) (hread.imp id fun⟨h1,h2,h3,h4⟩=>⟨h1,h2,h3,λ x _ hx=>⟨?_,?_,λ q=>absurd q ?_⟩⟩) s
 ·cases h:fc (recs.getD x bh) (recs.getD m bh)with
  |false=>rfl
  |true=>
   simp only[fc,VO]at h;exact(dw h.1.1.1.1 (x:=t) (by rw[dst hx];exact Wb) h4).elim
 ·cases h:dk (recs.getD m bh) (recs.getD x bh)with
  |false=>rfl
  |true=>
   have h:=iO h;simp only[fc,VO]at h;exact(dw h.1.1.1.2 (x:=t) (by rw[dst hx];exact Wb) h4).elim
 ·intro h
  simp only[fc,VO]at h;exact(dw h.1.1.1.2 (x:=t) (by rw[dst hx];exact Wb) h4).elim
theorem pS (hok:recs.all dj=true)(hcf:CF pr recs)(ho:Ord pr recs π){m k:Nat}(hm:m<=recs.length)
  (hread:m=recs.length∧(∀x,x<m->x∈π)∨(m∉π∧(∀y∈pr.getD m [],y∈π)∧m<recs.length∧k∈(recs.getD m bh).rk∧(recs.getD m bh).ld=none)) (s:AS):(ia recs s π).hp.get k=(ia recs s (WP m)).hp.get k:=by
 refine wW hcf ho hm (λ S=>S.hp.get k) (qS recs k) (λ S i=>qT recs hok k S i) (λ x y _ _ h1 h2=>AJ h1 h2) (λ x hx=>by simp[qS,bh,hx,lk]) (hread.imp id fun⟨h1,h2,h3,h4,h5⟩=>⟨h1,h2,h3,λ x _ hx=>⟨?_,?_,λ _ ⟨k',off,g,c,b2,h6,_⟩=>by rw[h5]at h6;cases h6⟩⟩) s
 ·cases h:fc (recs.getD x bh) (recs.getD m bh)with
  |false=>rfl
  |true=>
   simp only[fc,VO]at h;exact(dw h.1.2 (dz hx) h4).elim
 ·cases h:dk (recs.getD m bh) (recs.getD x bh)with
  |false=>rfl
  |true=>
   rw[dk,VO]at h;exact(dw h.2 (dz hx) h4).elim
theorem pU {α:Type}(Q:α->Prop)[DecidablePred Q]:∀l:List α,(∃x∈l,Q x)->∃l1 z l2,l=l1++z::l2∧Q z∧∀x∈l2,¬Q x
 |[],⟨x,h,_⟩=>by cases h
 |y::l,⟨x,h,hq⟩=>by
  by_cases hl:∃x∈l,Q x
  ·obtain⟨l1,z,l2,rfl,h1,h2⟩:=pU Q l hl
   exact⟨y::l1,z,l2,rfl,h1,h2⟩
  ·rcases List.mem_cons.1 h with rfl|h
   ·exact⟨[],x,l,rfl,hq,λ z hz q=>hl ⟨z,hz,q⟩⟩
   ·exact absurd ⟨x,h,hq⟩ hl
theorem Eu (hok:recs.all dj=true)(hcf:CF pr recs)(ho:Ord pr recs π){m k off g:Nat}{c:Option D}(hml:m<recs.length)(hmn:m∉π)(hpr:∀y∈pr.getD m [],y∈π)(hld:(recs.getD m bh).ld=some (k,off,g,c))(hrk:k∈(recs.getD m bh).rk)(s:AS){b:Blk}
  (hb:(ia recs s (WP m)).hp.get k=some (g,.b b)) (hc:b.cells[off]? =c):∃b2,(ia recs s π).hp.get k=some (g,.b b2)∧b2.cells[off]? =c:=by
 have hww:∀x y,(qS recs k x).isSome=true->(qS recs k y).isSome=true->fc (recs.getD x bh) (recs.getD y bh)=false:=λ x y h1 h2=>AJ h1 h2
 have early:∀x,x<m->(qS recs k x).isSome=true->x∈π:=λ x hx hw=>by
  have hno:fc (recs.getD x bh) (recs.getD m bh)≠true:=λ h=>by
   simp only[fc,VO]at h;exact(dw h.1.2 (dz hw) hrk).elim
  rcases hcf x m (recs.getD x bh) (recs.getD m bh) hx (by simp[show x<recs.length by omega]) (by simp[hml])with h4|h4|h4
  ·exact hpr x h4
  ·exact absurd (iO h4) hno
  ·exact absurd h4.1 hno
 have out:∀x,(qS recs k x).isSome=true->x<recs.length:=λ x hw=>by
  rcases Wl x recs.length with h|h
  ·exact h
  ·simp[qS,bh,h,lk]at hw
 by_cases hE:∃y∈π,m<y∧(qS recs k y).isSome=true
 ·obtain⟨y,hy,hmy,hwy⟩:=hE
  obtain⟨l1,z,l2,hπ,hz,hl2⟩:=pU (λ x=>(qS recs k x).isSome=true) π ⟨y,hy,hwy⟩;have hzl:=out z hz;have hzπ:z∈π:=by rw[hπ];simp
  have hmz:m<z:=by
   rcases XO m z with h|h|h
   ·exact h
   ·exact absurd (h▸hzπ) hmn
   ·have hyz:z<y:=by omega
    have hord:z∈pr.getD y []:=by
     rcases hcf z y (recs.getD z bh) (recs.getD y bh) hyz (by simp[hzl]) (by simp[out y hwy])with h4|h4|h4
     ·exact h4
     ·have h4:=iO h4;rw[hww z y hz hwy]at h4;cases h4
     ·have h4:=h4.1;rw[hww z y hz hwy]at h4;cases h4
    have hy1:y∈l1:=by
     rw[hπ]at hy;rcases List.mem_append.1 hy with h5|h5
     ·exact h5
     ·rcases List.mem_cons.1 h5 with h5|h5
      ·omega
      ·exact absurd hwy (hl2 y h5)
    have hlin:=ho.lin;rw[hπ,Zn]at hlin;exact absurd hord (hlin.2.2 y hy1 z Wb).1
  have hst:pO (recs.getD m bh) (recs.getD z bh):=by
   rcases hcf m z (recs.getD m bh) (recs.getD z bh) hmz (by simp[hml]) (by simp[hzl])with h4|h4|h4
   ·exact absurd (ho.cl z hzπ m h4) hmn
   ·rw[dk,VO]at h4
    exact(dw h4.2 (dz hz) hrk).elim
   ·exact h4.2
  obtain⟨k',off',g',c',b2,e1,e2,e3⟩:=hst;rw[hld]at e1;simp only[Option.some.injEq,Prod.mk.injEq]at e1;obtain⟨rfl,rfl,rfl,rfl⟩:=e1;refine⟨b2,?_,e3⟩;rw[eE (λ S=>S.hp.get k) (qS recs k) recs (λ S i=>qT recs hok k S i),hπ,List.filterMap_append,aaw];have hn:l2.filterMap (qS recs k)=[]:=List.filterMap_eq_nil_iff.2 λ x hx=>by
   cases hq:qS recs k x with
   |none=>rfl
   |some v=>exact absurd (by rw[hq];rfl) (hl2 x hx)
  have hwz:qS recs k z=some (some (g,.b b2)):=e2;rw[hwz];dsimp only;rw[hn,List.getLast?_append];rfl
 ·refine⟨b,?_,hc⟩
  rw[<-hb,eE (λ S=>S.hp.get k) (qS recs k) recs (λ S i=>qT recs hok k S i),eE (λ S=>S.hp.get k) (qS recs k) recs (λ S i=>qT recs hok k S i),cH (qS recs k) π,cH (qS recs k) (WP m),
   nQ hcf ho (m:=m) (λ i=>(qS recs k i).isSome) (λ x y _ _ _ h1 h2=>hww x y h1 h2) λ x hx=>⟨λ hxp=>?_,λ h=>early x h hx⟩]
  rcases XO x m with h|h|h
  ·exact h
  ·exact absurd (h▸hxp) hmn
  ·exact absurd ⟨x,hxp,h,hx⟩ hE
end

def pV (T:TT)(s:AS)(o:Oper)(v:Option D)(up:Up):Rec:=⟨gg o.op.operands.toList,zn s o,o.dst,v,up,Et T s o⟩
def dH (T:TT)(s:AS)(t:Nat)(o:Oper)(v:Option D)(up:Up):Rec:=⟨t::gg o.op.operands.toList,zn s o,o.dst,v,up,Et T s o⟩
def ec (s:AS)(o:Oper):AS:=AG s (gg o.op.operands.toList) (zn s o)
structure okcP (pr:List (List Nat))(log:List Rec):Prop where
 cf:CF pr log.reverse
 ok:log.all dj=true
theorem okcP.of {pr:List (List Nat)}{log:List Rec}(h:(vy pr 0 log.reverse&&log.all dj)=true):okcP pr log:=by
 rw[VO]at h;exact⟨CF.of_ok h.1,h.2⟩
theorem okcP.rx {pr:List (List Nat)}{log:List Rec}(h:(vz pr 0 log.reverse&&log.all dj)=true)(hs:∀p∈GC pr 0 log.reverse,p.1=p.2):okcP pr log:=by
 rw[VO]at h;exact⟨CF.of_rx h.1 hs,h.2⟩
def mF (P:Program)(T:TT)(nt kb:Nat)(all:List Oper)(pr:List (List Nat)):Nat->List Oper->AS->List Rec->(AS->Prop)->Prop
 |_,[],s,log,K=>okcP pr log∧K s
 |i,o::r,s,log,K=>vt (iM nt o) (match o.guard with
  |none=>dM P T (ec s o) (s.nx+8*i) (s.nx+8*i) o λ v up=>mF P T nt kb all pr (i+1) r (s.eff i (pV T s o v up)) (pV T s o v up::log) K
  |some jw=>match(all[jw.1]?).bind (·.dst)with
   |some t=>match s.tm.get t with
    |some (.v (.bool b))=>Mw b
     (bif jw.2 then dM P T (ec s o) (s.nx+8*i) (s.nx+8*i) o λ v up=>mF P T nt kb all pr (i+1) r (AS.eff {s with tm:=s.tm.set t (some (.v (.bool true)))} i (dH T s t o v up)) (dH T s t o v up::log) K
      else mF P T nt kb all pr (i+1) r (AS.eff {s with tm:=s.tm.set t (some (.v (.bool true)))} i ⟨[t],[],o.dst,some (.tup []),[],none⟩) (⟨[t],[],o.dst,some (.tup []),[],none⟩::log) K)
     (bif jw.2 then mF P T nt kb all pr (i+1) r (AS.eff {s with tm:=s.tm.set t (some (.v (.bool false)))} i ⟨[t],[],o.dst,some (.tup []),[],none⟩) (⟨[t],[],o.dst,some (.tup []),[],none⟩::log) K
      else dM P T (ec s o) (s.nx+8*i) (s.nx+8*i) o λ v up=>mF P T nt kb all pr (i+1) r (AS.eff {s with tm:=s.tm.set t (some (.v (.bool false)))} i (dH T s t o v up)) (dH T s t o v up::log) K)
    |some (.tup [])=>mF P T nt kb all pr (i+1) r (s.eff i ⟨[t],[],o.dst,some (.tup []),[],none⟩) (⟨[t],[],o.dst,some (.tup []),[],none⟩::log) K
    |_=>False
   |none=>False)

theorem f7 {nm ky:Nat}{K:Option D->Up->Prop}(h:dM P T s nm ky o K):∃v up,dM P T s nm ky o (λ v' up'=>v'=v∧up'=up)∧K v up:=by
 unfold dM at h ⊢
 split at h
 case h_1 p hp=>
  obtain⟨al,fp,q,hin,r,bs,h1,h2,h4,h5,h6⟩:=h.h;exact⟨_,_,⟨al,fp,q,hin,r,bs,h1,h2,h4,h5,rfl,rfl⟩,h6⟩
 case h_2 hp=>
  have key:∀(e:Ev) (K:Option D->Up->Prop),e.vc K->∃v up,e.vc (λ v' up'=>v'=v∧up'=up)∧K v up:=by
   intro e
   induction e with
   |ok v up=>intro K h;exact⟨v,up,⟨rfl,rfl⟩,h⟩
   |cond b k ih=>intro K h;obtain⟨h0,h⟩:=bE.1 h;obtain⟨v,up,h1,h2⟩:=ih K h;exact⟨v,up,bE.2 ⟨h0,h1⟩,h2⟩
   |opt o k ih=>intro K h;obtain⟨d,hd,h⟩:=aU.1 h;obtain⟨v,up,h1,h2⟩:=ih d K h;exact⟨v,up,aU.2 ⟨d,hd,h1⟩,h2⟩
   |bytes cs k ih=>intro K h;obtain⟨bs,hb,h⟩:=h.h;obtain⟨v,up,h1,h2⟩:=ih bs K h;exact⟨v,up,⟨bs,hb,h1⟩,h2⟩
   |list cs k ih=>intro K h;exact ih cs K h
   |stuck=>intro K h;exact h.elim
  exact key _ K h

structure AEq (s s':AS):Prop where
 tm:∀t,s.tm.get t=s'.tm.get t
 hp:∀k,s.hp.get k=s'.hp.get k
 nx:s.nx=s'.nx
theorem AEq.refl (s:AS):AEq s s:=⟨λ _=>rfl,λ _=>rfl,rfl⟩
theorem AEq.eff {s s':AS}(h:AEq s s')(i j:Nat)(r:Rec)(hr:dj r=true):AEq (s.eff i r) (s'.eff j r):=by
 rw[dj,VO]at hr;refine⟨λ t=>?_,λ k=>?_,h.nx⟩
 ·show(ea s.tm r.dst r.v).get t=(ea s'.tm r.dst r.v).get t
  cases hd:r.dst with
  |none=>exact h.tm t
  |some x=>
   rw[hd]at hr;simp only[ea];rw[YG _ _ _ hr.1,YG _ _ _ hr.1,h.tm]
 ·show(fW r.up s.hp).get k=(fW r.up s'.hp).get k
  rw[hU _ _ hr.2,hU _ _ hr.2,h.hp]
theorem AEq.know {s s':AS}(h:AEq s s'){t:Nat}{d:D}(ht:s.tm.get t=some d)(hok:aal t=true):AEq {s with tm:=s.tm.set t (some d)} s':=
 ⟨λ x=>by
  rw[YG _ _ _ hok]
  by_cases e:x=t
  ·subst e;rw[ZF rfl,<-h.tm,ht]
  ·rw[ZE e];exact h.tm x,h.hp,h.nx⟩

def UB (T:TT)(S:AS)(ts:List Nat)(o:Oper)(r:Rec):Prop:=∀k off g c,r.ld=some (k,off,g,c)->∃ty t ti gp b,o.op= .load ty (.tmp t)∧T.get ty=some ti∧ti.desc.isRow=false∧t∈ts∧S.tm.get t=some (.ptr k gp off)∧S.hp.get k=some (g,.b b)∧b.cells[off]? =c∧k∈r.rk
theorem AK {T:TT}{s S:AS}{o:Oper}{r:Rec}(he:AEq s S)(h:r.ld=Et T s o)(hk:r.rk=zn s o):UB T S (gg o.op.operands.toList) o r:=λ k off g c q=>by
 rw[h]at q;unfold Et at q
 split at q
 case h_2=>cases q
 case h_1 ty t ho=>
 split at q
 case h_2=>cases q
 case h_1 ti k' gp off' h1 h2=>
 split at q
 case h_2=>cases q
 case h_1 p hp=>
 cases hb:(ti.desc.isRow|| !((zn s o).any λ x=>VK x k')|| !((gg o.op.operands.toList).any λ x=>VK x t))with
 |true=>rw[hb]at q;cases q
 |false=>
  rw[hb]at q;simp only[cond_false,Option.some.injEq,Prod.mk.injEq]at q;obtain⟨rfl,rfl,rfl,rfl⟩:=q;rw[YF,YF,aaI,aaI]at hb;obtain⟨⟨b1,b2⟩,b3⟩:=hb;obtain⟨x,hx,e⟩:=List.any_eq_true.1 b2;have e:=VQ e;subst e;obtain⟨y,hy,e⟩:=List.any_eq_true.1 b3;have e:=VQ e;subst e;have hp2:s.at x=some (p.1,p.2):=hp;rw[AS.at_iff]at hp2;exact⟨ty,y,ti,gp,p.2,ho,h1,b1,hy,by rw[<-he.tm];exact h2,by rw[<-he.hp];exact hp2,rfl,by rw[hk];exact hx⟩
def AL (P:Program)(T:TT)(nt kb:Nat)(all:List Oper)(S:AS)(i:Nat)(o:Oper)(r:Rec):Prop:=
 iM nt o=true∧r.dst=o.dst∧
 (((o.guard=none∨∃j want t,o.guard=some (j,want)∧(all[j]?).bind (·.dst)=some t∧S.tm.get t=some (.v (.bool want))∧t∈r.rt)∧
   ∃s1 ts,AEq s1 S∧(∀t∈ts,t∈r.rt)∧(dM P T (AG s1 ts r.rk) (S.nx+8*i) (S.nx+8*i) o λ v up=>v=r.v∧up=r.up)∧UB T S ts o r)∨
  (∃j want t,o.guard=some (j,want)∧(all[j]?).bind (·.dst)=some t∧(S.tm.get t=some (.v (.bool (!want)))∨S.tm.get t=some (.tup []))∧t∈r.rt∧r.v=some (.tup [])∧r.up=[]))

theorem AL.congr {nt kb:Nat}{all:List Oper}{S S':AS}(h:AEq S S'){r:Rec}(hf:AL P T nt kb all S i o r):AL P T nt kb all S' i o r:=by
 obtain⟨h1,h2,h3⟩:=hf;refine⟨h1,h2,?_⟩;rcases h3 with⟨h3,s1,ts,h4,h5,h6,h7⟩|⟨j,want,t,h3,h4,h5,h6⟩
 ·refine .inl ⟨h3.imp id fun⟨j,want,t,a1,a2,a3,a4⟩=>⟨j,want,t,a1,a2,by rw[<-h.tm];exact a3,a4⟩,s1,ts,⟨λ t=>(h4.tm t).trans (h.tm t),λ k=>(h4.hp k).trans (h.hp k),h4.nx.trans h.nx⟩,h5,by rw[<-h.nx];exact h6,λ k off g c q=>?_⟩
  obtain⟨ty,t,ti,gp,b,a1,a2,a3,a4,a5,a6,a7⟩:=h7 k off g c q;exact⟨ty,t,ti,gp,b,a1,a2,a3,a4,by rw[<-h.tm];exact a5,by rw[<-h.hp];exact a6,a7⟩
 ·exact .inr ⟨j,want,t,h3,h4,by rw[<-h.tm];exact h5,h6⟩

theorem wX {nt kb:Nat}{all:List Oper}{pr:List (List Nat)}{K:AS->Prop}:∀(l:List Oper) (i:Nat) (s:AS) (log:List Rec),mF P T nt kb all pr i l s log K->log.all dj=true
 |[],i,s,log,h=>by
  exact h.1.ok
 |o::l,i,s,log,h=>by
  have step:∀(s1:AS) (r:Rec),mF P T nt kb all pr (i+1) l s1 (r::log) K->log.all dj=true:=λ s1 r h=>by
   have:=wX l (i+1) s1 (r::log) h;rw[Zj,VO]at this;exact this.2
  obtain⟨_,h⟩:=bE.1 h
  cases hg:o.guard with
  |none=>
   rw[hg]at h;obtain⟨v,up,h1,h2⟩:=f7 h;exact step _ _ h2
  |some jw=>
   rw[hg]at h;dsimp only at h
   split at h
   case h_2=>exact h.elim
   case h_1 t ht=>
   split at h
   case h_3=>exact h.elim
   case h_2 hb=>exact step _ _ h
   case h_1 b hb=>
   obtain⟨h1,h2⟩:=hD.1 h;obtain⟨j,want⟩:=jw
   cases b<;>cases want
   ·obtain⟨v,up,_,h4⟩:=f7 (h2 rfl);exact step _ _ h4
   ·exact step _ _ (h2 rfl)
   ·exact step _ _ (h1 rfl)
   ·obtain⟨v,up,_,h4⟩:=f7 (h1 rfl);exact step _ _ h4

def qU (P:Program)(T:TT)(nt kb:Nat)(all:List Oper)(pr:List (List Nat))(K:AS->Prop)(l:List Oper)(i:Nat)(S:AS)(log:List Rec):Prop:=
 ∃recs:List Rec,recs.length=l.length∧CF pr (log.reverse++recs)∧recs.all dj=true∧(∃s',K s'∧AEq s' (recs.foldl (λ S r=>S.eff 0 r) S))∧∀(j:Nat) o r,l[j]? =some o->recs[j]? =some r->AL P T nt kb all ((recs.take j).foldl (λ S r=>S.eff 0 r) S) (i+j) o r
theorem AM {nt kb:Nat}{all:List Oper}(hall:∀o∈all,iM nt o=true){pr:List (List Nat)}{K:AS->Prop}:∀(l:List Oper) (i:Nat) (s S:AS) (log:List Rec),AEq s S->mF P T nt kb all pr i l s log K->
  qU P T nt kb all pr K l i S log
 |[],i,s,S,log,he,h=>⟨[],rfl,by have:=h.1.cf;simpa using this,rfl,⟨s,h.2,he⟩,λ j o r hj=>by simp at hj⟩
 |o::l,i,s,S,log,he,h=>by
  obtain⟨hd,h⟩:=bE.1 h;have cont:∀(s1:AS) (r:Rec),AEq s1 S->AL P T nt kb all S i o r->mF P T nt kb all pr (i+1) l (s1.eff i r) (r::log) K->
    qU P T nt kb all pr K (o::l) i S log:=by
   intro s1 r he1 hf hv;have hrok:dj r=true:=by
    have:=wX l (i+1) _ (r::log) hv;rw[Zj,VO]at this;exact this.1
   obtain⟨recs,h1,h2,h2',h3,h4⟩:=AM hall l (i+1) _ (S.eff 0 r) (r::log) (he1.eff i 0 r hrok) hv;refine⟨r::recs,by simp[h1],by simpa using h2,by rw[Zj,hrok,h2'];rfl,h3,λ j o' r' ho hr=>?_⟩
   cases j with
   |zero=>simp at ho hr;subst ho hr;exact hf
   |succ j=>
    have:=h4 j o' r' (by simpa using ho) (by simpa using hr);rw[show i+1+j=i+(j+1) by omega]at this;exact this
  cases hg:o.guard with
  |none=>
   rw[hg]at h;obtain⟨v,up,h1,h2⟩:=f7 h;exact cont s _ he ⟨hd,rfl,.inl ⟨.inl hg,s,_,he,λ t ht=>ht,by rw[<-he.nx];exact h1,AK he rfl rfl⟩⟩ h2
  |some jw=>
   obtain⟨j,want⟩:=jw;rw[hg]at h;dsimp only at h
   split at h
   case h_2=>exact h.elim
   case h_1 t ht=>
   split at h
   case h_3=>exact h.elim
   case h_2 hb=>exact cont s _ he ⟨hd,rfl,.inr ⟨j,want,t,hg,ht,.inr (by rw[<-he.tm];exact hb),Wb,rfl,rfl⟩⟩ h
   case h_1 b hb=>
   have hokt:aal t=true:=by
    obtain⟨o',h1,h2⟩:=Option.bind_eq_some_iff.1 ht;have:=hall o' (W4 h1);unfold iM at this;rw[h2,VO]at this;exact this.2
   obtain⟨h1,h2⟩:=hD.1 h;have run:∀c,b=c->c=want->dM P T (ec s o) (s.nx+8*i) (s.nx+8*i) o (λ v up=>mF P T nt kb all pr (i+1) l (AS.eff {s with tm:=s.tm.set t (some (.v (.bool c)))} i (dH T s t o v up)) (dH T s t o v up::log) K)->qU P T nt kb all pr K (o::l) i S log:=λ c hbc hcw hv=>by
    obtain⟨v,up,h1,h2⟩:=f7 hv;have he1:=he.know (t:=t) (d:=.v (.bool c)) (by rw[hb,hbc]) hokt;exact cont _ _ he1 ⟨hd,rfl,.inl ⟨.inr ⟨j,want,t,hg,ht,by rw[<-he.tm,hb,hbc,hcw],Wb⟩,s,_,he,λ t ht=>Wa _ ht,by rw[<-he.nx];exact h1,AK he rfl rfl⟩⟩ h2
   have skip:∀c,b=c->c= !want->mF P T nt kb all pr (i+1) l (AS.eff {s with tm:=s.tm.set t (some (.v (.bool c)))} i ⟨[t],[],o.dst,some (.tup []),[],none⟩) (⟨[t],[],o.dst,some (.tup []),[],none⟩::log) K->qU P T nt kb all pr K (o::l) i S log:=λ c hbc hcw hv=>by
    have he1:=he.know (t:=t) (d:=.v (.bool c)) (by rw[hb,hbc]) hokt;exact cont _ _ he1 ⟨hd,rfl,.inr ⟨j,want,t,hg,ht,.inl (by rw[<-he.tm,hb,hbc,hcw]),Wb,rfl,rfl⟩⟩ hv
   cases b<;>cases want
   ·exact run false rfl rfl (h2 rfl)
   ·exact skip false rfl rfl (h2 rfl)
   ·exact skip true rfl rfl (h1 rfl)
   ·exact run true rfl rfl (h1 rfl)
end
section
variable {P:Program} {cx:Cx} {E:Env} {s:AS} {a:Act} {w:World} {i:Nat} {o:Oper} {T:TT} {F:Fence} {n:Nat}

theorem nR (tm:Tr D)(hp:Tr (Nat×Ob))(nx:Nat)(u u':List Nat)(x:Operand):eN ⟨tm,hp,nx,u⟩ x=eN ⟨tm,hp,nx,u'⟩ x:=by cases x<;>rfl
theorem lg (tm:Tr D)(hp:Tr (Nat×Ob))(nx:Nat)(u u':List Nat):∀l,gd ⟨tm,hp,nx,u⟩ l=gd ⟨tm,hp,nx,u'⟩ l
 |[]=>rfl
 |x::r=>by simp only[gd,nR tm hp nx u u',lg tm hp nx u u' r]
theorem nS (tm:Tr D)(hp:Tr (Nat×Ob))(nx:Nat)(u u':List Nat):∀l,f6 ⟨tm,hp,nx,u⟩ l=f6 ⟨tm,hp,nx,u'⟩ l
 |[]=>rfl
 |(m,x)::r=>by simp only[f6,nR tm hp nx u u',nS tm hp nx u u' r]
theorem pW (tm:Tr D)(hp:Tr (Nat×Ob))(nx:Nat)(u u':List Nat)(k:Nat):AS.at ⟨tm,hp,nx,u⟩ k=AS.at ⟨tm,hp,nx,u'⟩ k:=rfl
theorem zp (tm:Tr D)(hp:Tr (Nat×Ob))(nx:Nat)(u u':List Nat)(d:D):k8 ⟨tm,hp,nx,u⟩ d=k8 ⟨tm,hp,nx,u'⟩ d:=by cases d<;>rfl
theorem Ew (tm:Tr D)(hp:Tr (Nat×Ob))(nx:Nat)(u u':List Nat)(es:Nat)(dd:TypeDesc)(d:D):g7 ⟨tm,hp,nx,u⟩ es dd d=g7 ⟨tm,hp,nx,u'⟩ es dd d:=by
 unfold g7;split<;>first|rfl|(simp only[pW tm hp nx u u'])
theorem Ex (tm:Tr D)(hp:Tr (Nat×Ob))(nx:Nat)(u u':List Nat)(e:TypeId)(es:Nat)(d:D):vi ⟨tm,hp,nx,u⟩ e es d=vi ⟨tm,hp,nx,u'⟩ e es d:=by
 unfold vi;split<;>first|rfl|(simp only[pW tm hp nx u u'])
theorem Je (tm:Tr D)(hp:Tr (Nat×Ob))(nx:Nat)(u u':List Nat)(x:Option Operand):Ay ⟨tm,hp,nx,u⟩ x=Ay ⟨tm,hp,nx,u'⟩ x:=by
 cases x with
 |none=>rfl
 |some x=>simp only[Ay,nR tm hp nx u u']
theorem wY (tm:Tr D)(hp:Tr (Nat×Ob))(nx:Nat)(u u' fp:List Nat)(d:D):zg ⟨tm,hp,nx,u⟩ fp d=zg ⟨tm,hp,nx,u'⟩ fp d:=by cases d<;>rfl
theorem tf (tm:Tr D)(hp:Tr (Nat×Ob))(nx:Nat)(u u' fp:List Nat):∀l,mc ⟨tm,hp,nx,u⟩ fp l=mc ⟨tm,hp,nx,u'⟩ fp l
 |[]=>rfl
 |d::r=>by simp only[mc,wY tm hp nx u u' fp d,tf tm hp nx u u' fp r]
theorem Ey (tm:Tr D)(hp:Tr (Nat×Ob))(nx:Nat)(u u' fp:List Nat)(b:Blk)(off m:Nat):zh ⟨tm,hp,nx,u⟩ fp b off m=zh ⟨tm,hp,nx,u'⟩ fp b off m:=by
 unfold zh;rw[tf tm hp nx u u']
theorem tg (tm:Tr D)(hp:Tr (Nat×Ob))(nx:Nat)(u u' fp:List Nat):∀l,iB ⟨tm,hp,nx,u⟩ fp l=iB ⟨tm,hp,nx,u'⟩ fp l
 |[]=>rfl
 |d::r=>by simp only[iB,wY tm hp nx u u' fp d,tg tm hp nx u u' fp r]
theorem Ez (tm:Tr D)(hp:Tr (Nat×Ob))(nx:Nat)(u u' fp:List Nat)(b:Blk):pj ⟨tm,hp,nx,u⟩ fp b=pj ⟨tm,hp,nx,u'⟩ fp b:=by
 unfold pj;rw[tg tm hp nx u u']
mutual
theorem AN (tm:Tr D)(hp:Tr (Nat×Ob))(nx:Nat)(u u':List Nat)(al:Bool)(fp:List Nat):∀d,nH ⟨tm,hp,nx,u⟩ al fp d=nH ⟨tm,hp,nx,u'⟩ al fp d
 | .v _=>rfl
 | .sl ..=>rfl
 | .ref ..=>by simp only[nH,pW tm hp nx u u',Ey tm hp nx u u']
 | .ptr ..=>by simp only[nH,pW tm hp nx u u',Ez tm hp nx u u']
 | .ep ..=>rfl
 | .yl ..=>rfl
 | .fn _ fi ca=>by simp only[nH,ib tm hp nx u u' al fp fi,ib tm hp nx u u' al fp ca]
 | .agg cs=>by simp only[nH,ib tm hp nx u u' al fp cs]
 | .tup cs=>by simp only[nH,ib tm hp nx u u' al fp cs]
 | .ifc t x=>by simp only[nH,AN tm hp nx u u' al fp x]
theorem ib (tm:Tr D)(hp:Tr (Nat×Ob))(nx:Nat)(u u':List Nat)(al:Bool)(fp:List Nat):∀l,jz ⟨tm,hp,nx,u⟩ al fp l=jz ⟨tm,hp,nx,u'⟩ al fp l
 |[]=>rfl
 |d::r=>by simp only[jz,AN tm hp nx u u' al fp d,ib tm hp nx u u' al fp r]
end
theorem th (tm:Tr D)(hp:Tr (Nat×Ob))(nx:Nat)(u u' fp:List Nat):∀l,jH ⟨tm,hp,nx,u⟩ fp l=jH ⟨tm,hp,nx,u'⟩ fp l
 |[]=>rfl
 |k::r=>by simp only[jH,pW tm hp nx u u',th tm hp nx u u' fp r,ib tm hp nx u u']
theorem MA (tm:Tr D)(hp:Tr (Nat×Ob))(nx:Nat)(u u':List Nat)(nm ky:Nat):ev T ⟨tm,hp,nx,u⟩ nm ky o=ev T ⟨tm,hp,nx,u'⟩ nm ky o:=by
 unfold ev
 split<;>(try unfold vq)<;>(try unfold vr)<;>(try split)<;>
  simp only[gZ,qz,mN,wH,mY,ft,gY,mO,wI,Ek,wM,wN,wO,mV,mQ,qJ,qI,mX,fX,mR,fY,mT,jh,wK,AE,qM,wP,qN,ki,sY,Em,qy,
   nR tm hp nx u u',lg tm hp nx u u',nS tm hp nx u u',pW tm hp nx u u',zp tm hp nx u u',Ew tm hp nx u u',Ex tm hp nx u u',Je tm hp nx u u']
theorem EA (u':List Nat){nm ky:Nat}{K:Option D->Up->Prop}(h:dM P T s nm ky o K):dM P T {s with us:=u'} nm ky o K:=by
 obtain⟨tm,hp,nx,u⟩:=s;have e1:d9 ⟨tm,hp,nx,u'⟩ o=d9 ⟨tm,hp,nx,u⟩ o:=by
  unfold d9
  split<;>(try rfl)
  split<;>(try rfl)
  simp only[nR tm hp nx u' u,lg tm hp nx u' u]
 unfold dM at h ⊢;dsimp only;rw[e1,MA tm hp nx u' u]
 split at h
 case h_1 p hp'=>
  obtain⟨al,fp,q,hin,r,bs,h1,h2,h3⟩:=h.h;exact⟨al,fp,q,hin,r,bs,by rw[ib tm hp nx u' u];exact h1,by rw[th tm hp nx u' u];exact h2,h3⟩
 case h_2 hp'=>exact h

theorem EB {s s2:AS}{nm ky:Nat}{o:Oper}{K:Option D->Up->Prop}{ty:TypeId}{t:Nat}{ti:TI}{k gp off g:Nat}{c:Option D}{b2:Blk}(ho:o.op= .load ty (.tmp t))(hti:T.get ty=some ti)(hrow:ti.desc.isRow=false)
  (h1:∀d,s.tm.get t=some d->d= .ptr k gp off) (h2:∀p:Nat×Blk,s.at k=some (p.1,p.2)->p.1=g∧p.2.cells[off]? =c) (ht2:s2.tm.get t=some (.ptr k gp off)) (hk2:s2.at k=some (g,b2)) (hc2:b2.cells[off]? =c) (h:dM P T s nm ky o K):dM P T s2 nm ky o K:=by
 have hn:∀S:AS,d9 S o=none:=λ S=>by unfold d9;rw[ho]
 have he:∀S:AS,ev T S nm ky o=gY T S ty (.tmp t):=λ S=>by unfold ev;rw[ho]
 unfold dM at h ⊢;rw[hn]at h ⊢;dsimp only at h ⊢;rw[he]at h ⊢;unfold gY at h ⊢;rw[hti]at h ⊢;have e2:eN s2 (.tmp t)=some (.ptr k gp off):=ht2;rw[e2]
 cases hd:eN s (.tmp t)with
 |none=>rw[hd]at h;exact h.elim
 |some d=>
  rw[hd]at h;have:=h1 d hd;subst this;dsimp only[k8]at h ⊢;rw[hk2]
  cases hp:s.at k with
  |none=>rw[hp]at h;exact h.elim
  |some p=>
   rw[hp]at h;obtain⟨e3,e4⟩:=h2 p hp;dsimp only at h ⊢;rw[e3]at h;unfold mM at h ⊢;rw[hrow]at h ⊢;rw[cond_false,e4]at h;rw[cond_false,hc2];exact h

theorem nT {E:Env}{w:World}:RD E w (.tup []) undef:=RD.tup [] [] rfl (by simp)
theorem nU {cx:Cx}{E:Env}{s:AS}{a:Act}{w:World}(h:SR cx E s a w){all:List Oper}{j t:Nat}(hj:(all[j]?).bind (·.dst)=some t)(ht:s.tm.get t=some (.tup [])):yielded all.toArray a.tmps j=none:=by
 obtain⟨u,hu,hr⟩:=h.fr t _ ht
 cases hr
 unfold yielded;have e1:((all.toArray[j]?).bind (·.dst))=some t:=by simpa using hj
 rw[e1];simp only[Option.bind_some,hu]
theorem ic {nt kb:Nat}{all:List Oper}{pr:List (List Nat)}{K:AS->Prop}:∀(l:List Oper) (i:Nat) (s:AS) (log:List Rec),mF P T nt kb all pr i l s log K->∀o∈l,iM nt o=true
 |[],i,s,log,h,o,ho=>by cases ho
 |o::l,i,s,log,h,o',ho=>by
  obtain⟨hd,h⟩:=bE.1 h;rcases List.mem_cons.1 ho with rfl|ho
  ·exact hd
  cases hg:o.guard with
  |none=>
   rw[hg]at h;obtain⟨v,up,h1,h2⟩:=f7 h;exact ic l _ _ _ h2 o' ho
  |some jw=>
   rw[hg]at h;dsimp only at h
   split at h
   case h_2=>exact h.elim
   case h_1 t ht=>
   split at h
   case h_3=>exact h.elim
   case h_2 hb=>exact ic l _ _ _ h o' ho
   case h_1 b hb=>
   obtain⟨h1,h2⟩:=hD.1 h;obtain⟨j,want⟩:=jw
   cases b<;>cases want
   ·obtain⟨v,up,_,h4⟩:=f7 (h2 rfl);exact ic l _ _ _ h4 o' ho
   ·exact ic l _ _ _ (h2 rfl) o' ho
   ·exact ic l _ _ _ (h1 rfl) o' ho
   ·obtain⟨v,up,_,h4⟩:=f7 (h1 rfl);exact ic l _ _ _ h4 o' ho

theorem iP (recs:List Rec)(s:AS):∀π:List Nat,(ia recs s π).us=π.reverse++s.us∧(ia recs s π).nx=s.nx:=by
 intro π
 induction π generalizing s with
 |nil=>exact⟨rfl,rfl⟩
 |cons i π ih=>
  obtain⟨h1,h2⟩:=ih (s.eff i (recs.getD i bh));refine⟨?_,h2⟩;show(ia recs (s.eff i (recs.getD i bh)) π).us=_;rw[h1];simp[AS.eff]

theorem nV (recs:List Rec)(hok:recs.all dj=true)(s:AS):∀k,k<=recs.length->AEq ((recs.take k).foldl (λ S r=>S.eff 0 r) s) (ia recs s (WP k))
 |0,_=>.refl s
 |k+1,hk=>by
  have ih:=nV recs hok s k (by omega);have hlt:k<recs.length:=by omega
  rw[Yv,nO,List.take_succ_eq_append_getElem hlt,List.foldl_append];have e:recs.getD k bh=recs[k]:=by simp[hlt]
  rw[e];exact ih.eff 0 k _ (List.all_eq_true.1 hok _ (WE hlt))

theorem pX:∀(N:Nat) (l:List Nat),l.Nodup->(∀x∈l,x<N)->l.length<=N
 |0,l,_,h=>by
  cases l with
  |nil=>exact VT _
  |cons x l=>have:=h x Wb;omega
 |N+1,l,hn,h=>by
  have ih:=pX N (l.erase N) (hn.erase N) λ x hx=>by
   rw[hn.mem_erase_iff]at hx;have:=h x hx.2;omega
  by_cases hm:N∈l
  ·rw[List.length_erase_of_mem hm]at ih;omega
  ·rw[List.erase_of_not_mem hm]at ih;omega

theorem SR.alike {S S':AS}(h:SR cx E S a w)(he:AEq S' S){N:Nat}(hus:∀k∈S.us,k<N):SR cx E (S'.fin N) a w:=by
 have hat:∀k,(S'.fin N).gat k=S.gat k:=he.hp;have hob:∀{k g o},(S'.fin N).gat k=some (g,o)->OB E w g o:=fun{k g o} hk=>h.ob (by rw[<-hat];exact hk)
 exact{
     fr:=λ t d hd=>h.fr t d (by rw[<-he.tm];exact hd),sz:=h.sz,df:=h.df,hp:=λ k g b hk=>hob (AS.at_iff.1 hk),lp:=λ k g b hk=>hob (AS.lat_iff.1 hk)
     inj:=λ k k' g g' b b' hkk h1 h2=>h.inj k k' g g' b b' hkk (by rw[<-hat];exact h1) (by rw[<-hat];exact h2),lt:=h.lt,low:=λ x ⟨k,g,b,hk,hx⟩=>h.low x ⟨k,g,b,by rw[<-hat];exact hk,hx⟩,base:=h.base,bel:=h.bel,szB:=h.szB
     nm:=λ g hg=>.inl (by
      show g<S'.nx+8*N;rw[he.nx];rcases h.nm g hg with h1|⟨j,hj,h1⟩
      ·omega
      ·have:=hus j hj;omega)}
theorem AEq.own {S S':AS}(he:AEq S' S){φ:Nat->Option Nat}{x N:Nat}(h:bB (S'.fin N) φ x):bB S φ x:=by
 obtain⟨k,g,o,hk,hx⟩:=h;refine⟨k,g,o,?_,hx⟩;show S.hp.get k=_;rw[<-he.hp];exact hk

theorem AWP.draw {rd:Bool}{nt kb xn id:Nat}{ops:Array Oper}{K:AX->AS->Prop}(hT:T.ok P)(hfol:P.follows .mixedOrders=true)(pr:List (List Nat))(hpr:AH pr 0 ops.toList=true)
  (h:mF P T nt kb ops.toList pr 0 ops.toList s [] λ s'=>K .normal (s'.fin ops.size)):AWP P rd nt xn (.region id ops true) s K:=by
 refine⟨λ F n cx E0 a0 w0 Q hF hro hn hu hs hQ=>?_⟩;subst hn;obtain⟨recs,hlen,hcf,hrok,⟨s',hK,hAE⟩,hfacts⟩:=AM (ic ops.toList 0 s [] h) ops.toList 0 s s [] (.refl s) h;rw[List.reverse_nil,Yu]at hcf;have hlen:recs.length=ops.size:=by simpa using hlen
 have hspec:=pM ops.toList 0 hpr;have main:∀fuel listed (π:List Nat) a w E,fuel+π.length=ops.size->listed.size=ops.size->(∀x,x<ops.size->(listed.getD x true=true↔x∈π))->Ord pr recs π->(∀x∈π,∀o,ops.toList[x]? =some o->∀e∈eb o,e∈π)->
   SR cx E (ia recs s π) a w->Stp E0 E w0 w->Mut s (ia recs s π) E0 E w0 w->wpAnyIn F n P .any ops Q fuel listed a w:=by
  intro fuel;have fin:∀(π:List Nat) a w E,Ord pr recs π->(∀x,x<ops.size->x∈π)->SR cx E (ia recs s π) a w->Stp E0 E w0 w->Mut s (ia recs s π) E0 E w0 w->Q .normal a w:=by
   intro π a w E ho hall hsr hst hmut;have e1:AEq s' (ia recs s π):=by
    have e2:=nV recs hrok s recs.length (VT _);rw[Xh]at e2;refine⟨λ t=>?_,λ k=>?_,?_⟩
    ·rw[hAE.tm,e2.tm,pR hrok hcf ho (m:=recs.length) (VT _) (.inl ⟨rfl,λ x hx=>hall x (by omega)⟩)]
    ·rw[hAE.hp,e2.hp,pS hrok hcf ho (m:=recs.length) (VT _) (.inl ⟨rfl,λ x hx=>hall x (by omega)⟩)]
    ·rw[hAE.nx,e2.nx,(iP recs s _).2,(iP recs s π).2]
   refine hQ .normal _ E a w hK rfl (hsr.alike e1 λ k hk=>?_) (hst.x _) ⟨hmut.own,hmut.heap,λ x hx ho'=>hmut.old x hx (e1.own ho')⟩;rw[(iP recs s π).1,hu,WN,aa1]at hk;have:=ho.lt k hk;omega
  induction fuel with
  |zero=>
   intro listed π a w E hf hsz hli ho hed hsr hst hmut;have hnd:π.Nodup:=ho.lin.imp λ h=>h.2
   have hall:∀x,x<ops.size->x∈π:=λ x hx=>by
    apply Classical.byContradiction;intro hn;have:=pX ops.size (x::π) (List.nodup_cons.2 ⟨hn,hnd⟩) λ y hy=>by
     rcases List.mem_cons.1 hy with rfl|hy
     ·exact hx
     ·have:=ho.lt y hy;omega
    simp only[Wj]at this;omega
   refine⟨?_,fin π a w E ho hall hsr hst hmut⟩;apply List.eq_nil_iff_forall_not_mem.2;intro x hx;rw[mem_ready]at hx;obtain⟨h1,o,h2,_⟩:=hx;have hlt:x<ops.size:=(Array.getElem?_eq_some_iff.1 h2).1;rw[(hli x hlt).2 (hall x hlt)]at h1;cases h1
  |succ fuel ih=>
   intro listed π a w E hf hsz hli ho hed hsr hst hmut;have hready:∀x o,ops[x]? =some o->x∉π->(∀e∈eb o,e∈π)->x∈Region.ready .any ops listed:=λ x o hxo hxp he=>by
    have hlt:x<ops.size:=(Array.getElem?_eq_some_iff.1 hxo).1;rw[mem_ready];refine⟨?_,o,hxo,λ e hea hb=>?_⟩
    ·cases hl:listed.getD x true with
     |false=>rfl
     |true=>exact absurd ((hli x hlt).1 hl) hxp
    ·have hm:e.on∈eb o:=by
      unfold eb;exact List.mem_map.2 ⟨e,List.mem_filter.2 ⟨by simpa using hea,hb⟩,rfl⟩
     have hep:=he _ hm;have hlt2:e.on<ops.size:=by have:=ho.lt _ hep;omega
     have:=(hli _ hlt2).2 hep;simp only[Yb]at this ⊢;rw[Xu (by omega)]at this ⊢;exact this
   refine⟨λ hr=>?_,λ i hi=>?_⟩
   ·refine fin π a w E ho (λ x=>?_) hsr hst hmut
    induction x using Nat.strongRecOn with
    |_ x ihx=>
     intro hx;apply Classical.byContradiction;intro hxp;have hxo:ops[x]? =some ops[x]:=Xu hx;have:=hready x ops[x] hxo hxp λ e he=>by
      have h1:=(hspec x ops[x] (by simp[hx])).1 e he;rw[Wd]at h1;exact ihx e h1 (by omega)
     rw[hr]at this;cases this
   ·rw[mem_ready]at hi
    obtain⟨hl,o,hio,hedges⟩:=hi;have hlt:i<ops.size:=(Array.getElem?_eq_some_iff.1 hio).1;have hip:i∉π:=λ h=>by rw[(hli i hlt).2 h]at hl;cases hl
    have hedg:∀e∈eb o,e∈π:=λ e he=>by
     unfold eb at he;obtain⟨e',he',rfl⟩:=List.mem_map.1 he;obtain⟨h1,h2⟩:=List.mem_filter.1 he';have h3:=hedges e' (by simpa using h1) h2;have hlt2:e'.on<ops.size:=by
      rcases Wl e'.on ops.size with h|h
      ·exact h
      ·simp only[Yb]at h3
       rw[Array.getElem?_eq_none (by omega)]at h3;cases h3
     refine(hli _ hlt2).1 ?_;simp only[Yb]at h3 ⊢;rw[Xu (by omega)]at h3 ⊢;exact h3
    have hol:ops.toList[i]? =some o:=by simpa using hio
    have hprs:∀y∈pr.getD i [],y∈π:=λ y hy=>by
     have:=(hspec i o hol).2 y (by rw[Wd];exact hy);obtain⟨e,he,h1⟩:=this;rcases h1 with rfl|h1
     ·exact hedg _ he
     ·exact ho.cl e (hedg e he) y h1
    have hilen:i<recs.length:=by omega
    have hri:recs[i]? =some (recs.getD i bh):=by simp[hilen]
    have hfact:=hfacts i o (recs.getD i bh) hol hri;rw[Wd]at hfact;have hfa:=(nV recs hrok s i (by omega))
    have hfact:=hfact.congr hfa;obtain⟨hdst,hrd,hcase⟩:=hfact;have lookT:∀t,t∈(recs.getD i bh).rt->(ia recs s π).tm.get t=(ia recs s (WP i)).tm.get t:=λ t ht=>pR hrok hcf ho (by omega) (.inr ⟨hip,hprs,hilen,ht⟩) s
    have lookH:(recs.getD i bh).ld=none->∀k,k∈(recs.getD i bh).rk->(ia recs s π).hp.get k=(ia recs s (WP i)).hp.get k:=λ hn k hk=>pS hrok hcf ho (by omega) (.inr ⟨hip,hprs,hilen,hk,hn⟩) s
    have hius:i∉(ia recs s π).us:=by rw[(iP recs s π).1,hu,WN,aa1];exact hip
    have next:∀E' a' w',SR cx E' ((ia recs s π).eff i (recs.getD i bh)) a' w'->Stp E E' w w'->Mut (ia recs s π) ((ia recs s π).eff i (recs.getD i bh)) E E' w w'->wpAnyIn F n P .any ops Q fuel (listed.setIfInBounds i true) a' w':=by
     intro E' a' w' hs' hst' hmut';refine ih (listed.setIfInBounds i true) (π++[i]) a' w' E' (by simp;omega) (by simpa using hsz) (λ x hx=>?_) ⟨?_,?_,?_⟩ ?_ (by rw[nO];exact hs') (hst.trans hst') (by rw[nO];exact hmut.trans hmut' hst.size)
     ·by_cases e:i=x
      ·subst e
       simp[hsz,hlt]
      ·have h1:=hli x hx
       simp only[Yb,Array.getElem?_setIfInBounds_ne e]at h1 ⊢;rw[h1];simp[Ne.symm e]
     ·rw[Zn]
      refine⟨ho.lin,List.pairwise_singleton _ _,λ x hx y hy=>?_⟩;rw[YT]at hy;subst hy;exact⟨λ h=>hip (ho.cl x hx _ h),λ h=>by subst h;exact hip hx⟩
     ·intro x hx y hy
      rcases List.mem_append.1 hx with hx|hx
      ·exact XW _ (ho.cl x hx y hy)
      ·rw[YT]at hx;subst hx
       exact XW _ (hprs y hy)
     ·intro x hx
      rcases List.mem_append.1 hx with hx|hx
      ·exact ho.lt x hx
      ·rw[YT]at hx;subst hx;exact hilen
     ·intro x hx o' ho' e he
      rcases List.mem_append.1 hx with hx|hx
      ·exact XW _ (hed x hx o' ho' e he)
      ·rw[YT]at hx;subst hx
       rw[hol]at ho';cases ho';exact XW _ (hedg e he)
    unfold wpOpIn;rw[hio];dsimp only;rcases hcase with⟨hg,s1,ts,bM,hts,hv,hldG⟩|⟨j,want,t,hg,hjt,hgt,htr,hv0,hup0⟩
    ·have hwant:Ye o (yielded ops a.tmps)=true:=by
      rcases hg with hg|⟨j,want,t,hg,hjt,hgt,htr⟩
      ·simp[Ye,hg]
      ·have hy:=jS (all:=ops.toList) hsr hjt (b:=want) (by rw[lookT t htr];exact hgt)
       simp only[Xk]at hy;simp[Ye,hg,hy]
     rw[ZF hwant];have hgo:∃s2,Sub s2 (ia recs s π)∧s2.nx=(ia recs s (WP i)).nx∧dM P T s2 ((ia recs s (WP i)).nx+8*i) ((ia recs s (WP i)).nx+8*i) o λ v up=>v=(recs.getD i bh).v∧up=(recs.getD i bh).up:=by
      cases hld:(recs.getD i bh).ld with
      |none=>
       refine⟨AG s1 ts (recs.getD i bh).rk,⟨λ t d hd=>?_,λ k g b hk=>?_,?_⟩,bM.nx,hv⟩
       ·obtain⟨h1,h2⟩:=jn _ _ _ _ hd
        rw[lookT t (hts t h1),<-bM.tm];exact h2
       ·obtain⟨h1,h2⟩:=jo _ _ _ _ hk
        show(ia recs s π).hp.get k=_;rw[lookH hld k h1,<-bM.hp];exact h2
       ·show s1.nx=_
        rw[bM.nx,(iP recs s _).2,(iP recs s π).2]
      |some q=>
       obtain⟨k,off,g,c⟩:=q;obtain⟨ty,t,ti,gp,b,a1,a2,a3,a4,a5,a6,a7,a8⟩:=hldG k off g c hld;obtain⟨b2,e1,e2⟩:=Eu hrok hcf ho hilen hip hprs hld a8 s a6 a7;refine⟨{ia recs s π with us:=[]},⟨λ t d hd=>hd,λ k g b hk=>hk,rfl⟩,?_,?_⟩
       ·exact(iP recs s π).2.trans (iP recs s _).2.symm
       ·have ht2:(ia recs s π).tm.get t=some (.ptr k gp off):=by rw[lookT t (hts t a4)];exact a5
        exact EB a1 a2 a3 (λ d hd=>by
         obtain⟨_,h2⟩:=jn _ _ _ _ hd;rw[bM.tm,a5]at h2;exact(Option.some.inj h2).symm) (λ p hp=>by
         obtain⟨h1,h2⟩:=jo _ _ _ _ (AS.at_iff.1 hp);rw[bM.hp,a6]at h2;have h3:=Option.some.inj h2;simp only[Prod.mk.injEq,Ob.b.injEq]at h3;exact⟨h3.1.symm,by rw[<-h3.2,a7]⟩) ht2 (AS.at_iff.2 e1) e2 hv
     obtain⟨s2,hsub,hnx,hv⟩:=hgo;have hrk:=vA hrok i;rw[dj,VO]at hrk;refine zm (s:=s2) (K:=λ v up=>v=(recs.getD i bh).v∧up=(recs.getD i bh).up) hF hT hsr hsub hius hdst (EA _ (by rw[hnx];exact hv)) (λ v up hvu=>by rw[hvu.2];exact hrk.2) λ v up E' a' w' hvu hs' hst' hmut'=>?_
     obtain⟨rfl,rfl⟩:=hvu;refine next E' a' w' ?_ hst' ?_
     ·unfold AS.eff
      rw[hrd];exact hs'
     ·unfold AS.eff
      rw[hrd];exact hmut'
    ·have hwant:Ye o (yielded ops a.tmps)=false:=by
      rcases hgt with hgt|hgt
      ·have hy:=jS (all:=ops.toList) hsr hjt (b:=!want) (by rw[lookT t htr];exact hgt)
       simp only[Xk]at hy;simp only[Ye,hg,hy];cases want<;>rfl
      ·have hy:=nU (all:=ops.toList) hsr hjt (by rw[lookT t htr];exact hgt)
       simp only[Xk]at hy;simp only[Ye,hg,hy];rfl
     rw[ZE (by rw[hwant];simp)];refine⟨λ f _=>hF.fn f,next E _ w ?_ (Stp.refl E w) ?_⟩
     ·unfold AS.eff
      rw[hrd,hv0,hup0];exact cP (s:={ia recs s π with us:=i::(ia recs s π).us}) (hsr.us i) hdst (v:=some (.tup [])) nT
     ·unfold AS.eff
      rw[hup0];exact⟨λ _ _ h _=>h,λ _ _ _=>rfl,λ _ _ h=>h⟩
 refine wpIn_region_any hfol (main ops.size _ [] a0 _ E0 (by simp) (by simp) (λ x hx=>?_) ⟨List.Pairwise.nil,(λ x hx=>by cases hx),(λ x hx=>by cases hx)⟩ (λ x hx=>by cases hx) (hs.drew) (Stp.drew E0 w0) ⟨λ _ _ h _=>h,λ _ _ _=>rfl,λ _ _ h=>h⟩);simp[hx]
end

def RU (x:Nat)(l:List Nat):List Nat:=bif l.any (λ y=>VK x y)then l else x::l
def AO:List Nat->List Nat->List Nat
 |[],m=>m
 |x::l,m=>AO l (RU x m)
def Jf:List Oper->List (List Nat)->List (List Nat)
 |[],acc=>acc
 |o::r,acc=>Jf r (acc++[(eb o).foldl (λ m e=>AO (e::acc.getD e []) m) []])

def gF (s:AS)(c:Operand)(b:Bool):AS:=
 match c with
 | .tmp t=>{s with tm:=s.tm.set t (some (.v (.bool b)))}
 |_=>s
section
variable {P:Program} {T:TT} {rd:Bool} {nt xn kb:Nat}

theorem SR.know' {cx:Cx}{E:Env}{s:AS}{a:Act}{w:World}(h:SR cx E s a w){c:Operand}{b:Bool}(hc:eN s c=some (.v (.bool b))):SR cx E (gF s c b) a w:=by
 cases c with
 |tmp t=>exact h.know hc rfl
 |_=>exact h
theorem qV (s:AS)(c:Operand)(b:Bool):(gF s c b).us=s.us∧(gF s c b).hp=s.hp:=by cases c<;>exact⟨rfl,rfl⟩
theorem Mut.know {s s':AS}{E E':Env}{w w':World}{c:Operand}{b:Bool}(h:Mut (gF s c b) s' E E' w w'):Mut s s' E E' w w':=by
 have e:∀φ x,bB (gF s c b) φ x↔bB s φ x:=λ φ x=>by
  unfold bB AS.gat;rw[(qV s c b).2]
 exact⟨λ b hz hb hn=>h.own b hz hb λ ho=>hn ((e _ _).1 ho),λ x hx hn=>h.heap x hx λ ho=>hn ((e _ _).1 ho),λ x hx ho=>(e _ _).1 (h.old x hx ho)⟩

def D.sim (d d':D):Prop:=∀E w u,RD E w d u->RD E w d' u
theorem D.sim.refl (d:D):d.sim d:=λ _ _ _ h=>h
def cQ:List D->List D->Prop
 |[],[]=>True
 |d::r,d'::r'=>d.sim d'∧cQ r r'
 |_,_=>False
theorem cQ.refl:∀l:List D,cQ l l
 |[]=>trivial
 |d::r=>⟨.refl d,cQ.refl r⟩
theorem cQ.get:∀{l l':List D},cQ l l'->l.length=l'.length∧∀(j:Nat) d',l'[j]? =some d'->∃d,l[j]? =some d∧d.sim d'
 |[],[],_=>⟨rfl,λ j d h=>by simp at h⟩
 |d::r,d'::r',⟨h1,h2⟩=>by
  obtain⟨e,g⟩:=cQ.get h2;refine⟨by simp[e],λ j x hx=>?_⟩
  cases j with
  |zero=>simp at hx;subst hx;exact⟨d,rfl,h1⟩
  |succ j=>simpa using g j x (by simpa using hx)
 |[],_::_,h=>h.elim
 |_::_,[],h=>h.elim
theorem D.sim.agg {l l':List D}(h:cQ l l'):(Wu l).sim (.agg l'):=λ E w u hr=>by
 obtain⟨e,g⟩:=h.get
 cases hr with
 |agg _ us hlen hd h1=>
  refine .agg _ us (by rw[hlen,e]) (λ i d' u hd' hu=>?_) h1;obtain⟨d,hd1,hs⟩:=g i d' hd';exact hs _ _ _ (hd i d u hd1 hu)

def GD (s:AS):List (Nat×D)->Prop
 |[]=>True
 |p::r=>(∃d,s.tm.get p.1=some d∧d.sim p.2)∧GD s r
def GF (s:AS):List (Nat×(Nat×Blk))->List Nat->Prop
 |[],[]=>True
 |(_,(g,b))::r,k::ks=>(∃b0,s.at k=some (g,b0)∧b0.elem=b.elem∧(b.row=false->b0.row=false)∧(b0.row=true->b.row=true)∧cQ b0.cells b.cells)∧GF s r ks
 |_,_=>False
def Vk (tm:List (Nat×D))(hp:List (Nat×(Nat×Blk)))(lp:List (Nat×(Nat×LRec)))(nx:Nat):AS:=⟨aa2 tm,aa2 (hp.map (λ p=>(p.1,(p.2.1,Ob.b p.2.2)))++lp.map (λ p=>(p.1,(p.2.1,Ob.l p.2.2)))),nx,[]⟩
def GG (s:AS):List (Nat×(Nat×LRec))->List Nat->Prop
 |[],[]=>True
 |(_,(g,r))::l,k::ks=>(∃r0,s.lat k=some (g,r0)∧r0.st=r.st∧r0.pend=r.pend∧r0.params=r.params∧r0.assign=r.assign∧r0.body=r.body∧r0.nt=r.nt∧∃tm,r.tm=aa2 tm∧∀p∈tm,∃d,r0.tm.get p.1=some d∧d.sim p.2)∧GG s l ks
 |_,_=>False

structure Le (s s':AS):Prop where
 h:∃tm hp lp nx,s'=Vk tm hp lp nx∧GD s tm∧(∃ks ls,GF s hp ks∧GG s lp ls∧fG (ks++ls)=true)∧s.nx<=nx∧s.us=[]

end

def AP:Nat->List Blk->Tr (Nat×Ob)
 |_,[]=>.e
 |i,b::r=>(AP (i+1) r).set i (some (i,.b b))
theorem pY:∀(bs:List Blk) (i k:Nat) {g:Nat} {o:Ob},(AP i bs).get k=some (g,o)->i<=k∧g=k∧∃b,o= .b b∧bs[k-i]? =some b
 |[],i,k,g,o,h=>by cases h
 |x::r,i,k,g,o,h=>by
  rcases Xb h with⟨rfl,hv⟩|⟨e,h⟩
  ·cases hv;exact⟨VT _,rfl,x,rfl,by simp⟩
  ·obtain⟨h1,h2,b,h3,h4⟩:=pY r (i+1) k h
   exact⟨by omega,h2,b,h3,by rw[show k-i=(k-(i+1))+1 by omega,List.getElem?_cons_succ];exact h4⟩
def s0 (ds:List D)(hin:List Blk):AS:={tm:=mh 0 ds,hp:=AP 0 hin,nx:=hin.length}

mutual
def D.pl:D->Bool
 | .v _=>true
 | .agg cs=>wZ cs
 | .ifc _ x=>x.pl
 |_=>false
def wZ:List D->Bool
 |[]=>true
 |d::r=>d.pl&&wZ r
end
theorem jp {l:List D}:wZ l=true↔∀d∈l,d.pl=true:=by
 induction l with
 |nil=>simp[wZ]
 |cons x l ih=>simp[wZ,ih]
theorem aI (bs:Z4):wZ (bs.map dB)=true:=jp.2 λ d hd=>by simp only[List.mem_map]at hd;obtain⟨b,_,rfl⟩:=hd;rfl
theorem RD.plain {E:Env}{w:World}{d:D}{u:Value}(h:RD E w d u):d.pl=true->∀(E':Env) (w':World),RD E' w' d u:=by
 induction h with
 |v c h=>exact λ _ _ _=>.v c h
 |agg cs us hlen _ h1 ih=>exact λ hc E' w'=> .agg cs us hlen (λ i d u a1 a2=>ih i d u a1 a2 (jp.1 hc d (W4 a1)) E' w') h1
 |ifc t x u _ ih=>exact λ hc E' w'=> .ifc t x u (ih hc E' w')
 |_=>intro hc;cases hc
mutual
theorem D.pl_closed:∀(d:D),d.pl=true->d.closed=true
 | .v _,_=>rfl
 | .agg cs,h=>ie cs h
 | .ifc _ x,h=>D.pl_closed x h
 | .sl ..,h=>nomatch h
 | .ref ..,h=>nomatch h
 | .ptr ..,h=>nomatch h
 | .ep ..,h=>nomatch h
 | .tup _,h=>nomatch h
 | .fn ..,h=>nomatch h
 | .yl ..,h=>nomatch h
theorem ie:∀(l:List D),wZ l=true->ae l=true
 |[],_=>rfl
 |d::r,h=>by
  have h':(d.pl&&wZ r)=true:=h;rw[VO]at h';show(d.closed&&ae r)=true;rw[D.pl_closed d h'.1,ie r h'.2];rfl
end


mutual
def mG (al:Bool)(n:Nat):D->Bool
 | .v _=>true
 | .sl _ _ _ _=>al
 | .ref _ g _ _ _=>XS g n
 | .ptr _ g _=>XS g n
 | .ep _ _=>al
 | .agg cs=>eu al n cs
 | .tup cs=>eu al n cs
 | .ifc _ x=>mG al n x
 | .fn _ fi ca=>eu al n fi&&eu al n ca
 | .yl _ g=>XS g n
def eu (al:Bool)(n:Nat):List D->Bool
 |[]=>true
 |d::r=>mG al n d&&eu al n r
end
theorem fH {al:Bool}{n:Nat}:∀{l:List D},eu al n l=true->∀(j:Nat) d,l[j]? =some d->mG al n d=true
 |[],_,j,d,h=>by simp at h
 |x::r,h,j,d,hj=>by
  simp only[eu,VO]at h
  cases j with
  |zero=>simp at hj;subst hj;exact h.1
  |succ j=>exact fH h.2 j d (by simpa using hj)

def w5 (al:Bool)(n:Nat)(b:Blk):Bool:=bif b.row then(bif al then ae b.cells else wZ b.cells)else eu al n b.cells
def EC (al:Bool)(n:Nat)(κ γ:Nat->Nat)(s:AS):List Nat->List Nat->List Blk->Prop
 |[],[],[]=>True
 |k::ks,g::gs,b::bs=>s.at k=some (g,cm κ γ b)∧w5 al n b=true∧EC al n κ γ s ks gs bs
 |_,_,_=>False
theorem tj {al:Bool}{n:Nat}{κ γ:Nat->Nat}{s:AS}:∀{ks gs:List Nat} {bs:List Blk},EC al n κ γ s ks gs bs->ks.length=bs.length∧gs.length=bs.length∧∀(j:Nat) b,bs[j]? =some b->s.at (ks.getD j 0)=some (gs.getD j 0,cm κ γ b)∧w5 al n b=true
 |[],[],[],_=>⟨rfl,rfl,λ j b h=>by simp at h⟩
 |k::ks,g::gs,b::bs,⟨h1,h2,h3⟩=>by
  obtain⟨e1,e2,e3⟩:=tj h3;refine⟨by simp[e1],by simp[e2],λ j b' hb=>?_⟩
  cases j with
  |zero=>simp at hb;subst hb;exact⟨h1,h2⟩
  |succ j=>simpa using e3 j b' (by simpa using hb)
 |[],[],_::_,h=>h.elim
 |[],_::_,_,h=>h.elim
 |_::_,[],_,h=>h.elim
 |_::_,_::_,[],h=>h.elim
def jq:Nat->Nat->List Nat->Bool
 |_,0,_=>true
 |i,m+1,g::r=>VK g i&&jq (i+1) m r
 |_,_+1,[]=>false
theorem iQ:∀{m i:Nat} {gs:List Nat},jq i m gs=true->∀j,j<m->gs.getD j 0=i+j
 |0,_,_,_,j,hj=>by omega
 |m+1,i,[],h,j,hj=>by simp[jq]at h
 |m+1,i,g::r,h,j,hj=>by
  simp only[jq,VO]at h
  cases j with
  |zero=>simpa using VQ h.1
  |succ j=>
   have:=iQ h.2 j (by omega);simp only[List.getD_cons_succ];omega

structure Out (al:Bool)(m:Nat)(s:AS)(l:List D)(r:D)(bs:List Blk):Prop where
 h:∃ks gs:List Nat,EC al bs.length (λ j=>ks.getD j 0) (λ j=>gs.getD j 0) s ks gs bs∧fG ks=true∧jq 0 m gs=true∧di (λ j=>ks.getD j 0) (λ j=>gs.getD j 0) r=s8 l∧mG al bs.length r=true

section
variable {P:Program} {T:TT} {nt kb:Nat}

theorem AQ {E Er:Env}{w:World}{κ γ:Nat->Nat}{n:Nat}{al:Bool}(hg:∀j,j<n->E.nm (γ j)->Er.nm j∧E.φ (γ j)=Er.φ j)(ho:al=true->∀b,Er.own b->E.own b):∀{d:D} {u:Value},RD E w d u->∀r,di κ γ r=d->mG al n r=true->RD Er w r u:=by
 have lst:∀{rs cs:List D},fF κ γ rs=cs->cs.length=rs.length∧∀j:Nat,cs[j]? =(rs[j]?).map (di κ γ):=fun{rs cs} h=>by
  subst h;rw[eU];exact⟨by simp,λ j=>by simp⟩
 intro d u h
 induction h with
 |v c h=>
  intro r hr hok
  cases r<;>simp only[di,reduceCtorEq,D.v.injEq]at hr
  subst hr;exact .v _ h
 |@sl E1 w1 nn m sz cells ad c us hlen hd h1 hn hs hc h0 hr' ih=>
  intro r hr hok
  cases r<;>simp only[di,reduceCtorEq,D.sl.injEq]at hr
  obtain⟨rfl,rfl,rfl,rfl⟩:=hr;exact RD.ofCl (RD.step (E:=E1.cl) (E':=Er.cl) (w:=w1) (w':=w1) ⟨λ _ h=>h.elim,λ _ h=>h.elim,VT _,λ b _ hb=>⟨λ h=>hb (ho hok b h),rfl⟩,λ _ _=>rfl⟩ ((RD.sl _ _ _ _ ad c us hlen hd h1 hn hs hc h0 hr').weak rfl))
 |ref k g off m sz c b off' t mm hg' hb hc ho' hsh hm=>
  intro r hr hok
  cases r<;>simp only[di,reduceCtorEq,D.ref.injEq]at hr
  obtain⟨rfl,rfl,rfl,rfl,rfl⟩:=hr
  rename_i k0 g0 _ _ _
  have hlt:g0<n:=VS hok;exact .ref k0 g0 _ _ _ c b off' t mm (hg g0 hlt hg').1 ((hg g0 hlt hg').2.symm.trans hb) hc ho' hsh hm
 |refn k g sz hg' hb=>
  intro r hr hok
  cases r<;>simp only[di,reduceCtorEq,D.ref.injEq]at hr
  obtain⟨rfl,rfl,rfl,rfl,rfl⟩:=hr
  rename_i k0 g0 sz0
  have hlt:g0<n:=VS hok;exact .refn k0 g0 _ (hg g0 hlt hg').1 ((hg g0 hlt hg').2.symm.trans hb)
 |ptr k g off b hg' hb=>
  intro r hr hok
  cases r<;>simp only[di,reduceCtorEq,D.ptr.injEq]at hr
  obtain⟨rfl,rfl,rfl⟩:=hr
  rename_i k0 g0 _
  have hlt:g0<n:=VS hok;exact .ptr k0 g0 _ b (hg g0 hlt hg').1 ((hg g0 hlt hg').2.symm.trans hb)
 |@ep E1 w1 cells off b o us hlen hd h1 hb ho' hr' ih=>
  intro r hr hok
  cases r<;>simp only[di,reduceCtorEq,D.ep.injEq]at hr
  obtain⟨rfl,rfl⟩:=hr;exact .ep _ _ b o us hlen (λ i d u a1 a2=>(hd i d u a1 a2).step (E:=E1.cl) (E':=Er.cl) (w:=w1) (w':=w1) ⟨λ _ h=>h.elim,λ _ h=>h.elim,VT _,λ b _ hb=>⟨λ h=>hb (ho hok b h),rfl⟩,λ _ _=>rfl⟩) h1 hb (λ hh=>ho' (ho hok b hh)) hr'
 |agg cs us hlen _ h1 ih=>
  intro r hr hok
  cases r<;>simp only[di,reduceCtorEq,D.agg.injEq]at hr
  rename_i rs
  obtain⟨e1,e2⟩:=lst hr;refine .agg rs us (by rw[hlen,e1]) (λ i d u a1 a2=>?_) h1;exact ih i _ u (by rw[e2,a1];rfl) a2 hg ho d rfl (fH hok i d a1)
 |tup cs us hlen _ ih=>
  intro r hr hok
  cases r<;>simp only[di,reduceCtorEq,D.tup.injEq]at hr
  rename_i rs
  obtain⟨e1,e2⟩:=lst hr;refine .tup rs us (by rw[hlen,e1]) (λ i d u a1 a2=>?_);exact ih i _ u (by rw[e2,a1];rfl) a2 hg ho d rfl (fH hok i d a1)
 |ifc t x u _ ih=>
  intro r hr hok
  cases r<;>simp only[di,reduceCtorEq,D.ifc.injEq]at hr
  obtain⟨rfl,rfl⟩:=hr;exact .ifc _ _ u (ih hg ho _ rfl hok)
 |fn f fi ca us vs hl1 hl2 _ _ ih1 ih2=>
  intro r hr hok
  cases r<;>simp only[di,reduceCtorEq,D.fn.injEq]at hr
  rename_i f' fi' ca'
  obtain⟨rfl,hr1,hr2⟩:=hr;rw[mG,VO]at hok;obtain⟨e1,e2⟩:=lst hr1;obtain⟨e3,e4⟩:=lst hr2;exact .fn _ fi' ca' us vs (by rw[hl1,e1]) (by rw[hl2,e3]) (λ i d u a1 a2=>ih1 i _ u (by rw[e2,a1];rfl) a2 hg ho d rfl (fH hok.1 i d a1)) (λ i d u a1 a2=>ih2 i _ u (by rw[e4,a1];rfl) a2 hg ho d rfl (fH hok.2 i d a1))
 |yl k g b hg' hb=>
  intro r hr hok
  cases r<;>simp only[di,reduceCtorEq,D.yl.injEq]at hr
  obtain⟨rfl,rfl⟩:=hr
  rename_i k0 g0
  have hlt:g0<n:=VS hok;exact .yl k0 g0 b (hg g0 hlt hg').1 ((hg g0 hlt hg').2.symm.trans hb)

theorem SpecH.of {al:Bool}(hT:T.ok P){f:FuncId}{fn:Func}{c:Code}(hf:P.funcs[f]? =some fn)(hb:fn.body=some c){rs:List ResultVar}(hrs:fn.results=⟨rs⟩){ds:List D}{hin:List Blk}{r:D}{bs:List Blk}(hle:VN hin.length bs.length=true)
  (h:AWP P false fn.ntmps hin.length c (s0 ds hin) λ e s'=>(e= .normal∨e= .ret)∧iN T s' rs λ l=>Out al hin.length s' l r bs):SpecH al P f ds hin r bs:=by
 refine⟨VS hle,λ O φ w args hOlt hhin hinj hal hargs=>?_⟩;have hm:=VS hle;have hnamed:∀{j x},j<hin.length->φ j=some x->x<w.heap.size:=fun{j x} hj hx=>by
  have:=(hhin j _ (VG hj)).2;have hx':(fu O φ hin.length).φ j=some x:=hx;rw[hx']at this;exact this.2.1
 let cx:Cx:=⟨w.heap.size,w,fn.ntmps,O,λ k=>w.heap.size<=k∨∃j,j<hin.length∧φ j=some k,λ _ h=>.inl h,hin.length,λ h0 x hx hm=>hm.elim (λ h1=>absurd (hOlt x hx) (Nat.not_lt_of_le h1)) fun⟨j,hj,_⟩=>absurd hj (by omega)⟩
 have hin_:∀{k g o},(s0 ds hin).gat k=some (g,o)->k<hin.length∧g=k∧∃b,o= .b b∧hin[k]? =some b:=fun{k g o} hk=>by
  obtain⟨_,h2,b,h3,h4⟩:=pY hin 0 k hk;rw[Nat.sub_zero]at h4;exact⟨(List.getElem?_eq_some_iff.1 h4).1,h2,b,h3,h4⟩
 have hsr:SR cx (fu O φ hin.length) (s0 ds hin) {
                           tmps:=args.toArray++Zq (fn.ntmps-args.toArray.size) undef,defers:=[]} w:={
  fr:=qR hal hargs
  sz:=by show fn.ntmps<=_;simp;omega
  df:=l8.nil _ _ _
  hp:=λ k g b hk=>by
   obtain⟨_,rfl,b',e,h4⟩:=hin_ (AS.at_iff.1 hk)
   cases e;exact hhin _ _ h4
  lp:=λ k g b hk=>by
   obtain⟨_,_,b',e,_⟩:=hin_ (AS.lat_iff.1 hk)
   cases e
  inj:=λ k k' g g' o o' hkk h1 h2=>by
   obtain⟨a1,rfl,_⟩:=hin_ h1;obtain⟨a2,rfl,_⟩:=hin_ h2;exact λ x=>hinj _ _ x a1 a2 hkk
  lt:=λ x hx=>by
   rcases hx with hx|⟨j,hj,hx⟩
   ·exact hOlt x hx
   ·exact hnamed hj hx
  low:=λ x ⟨k,g,o,hk,hx⟩=>by
   obtain⟨a1,rfl,_⟩:=hin_ hk;exact .inr ⟨_,a1,hx⟩
  base:=λ x hx=>.inl hx
  bel:=Fr.refl _ _
  nm:=λ g hg=>.inl hg
  szB:=VT _}
 refine(qQ (Φ:=λ l s'=>Out al hin.length s' l r bs) hT hf hb hrs h (cx:=cx) rfl (VT _) rfl hsr).mono ?_;rintro e w' ⟨l,s',E',a',v,rfl,⟨ks,gs,hexp,hnd,hgs,hmap,hok⟩,hu,hs',_,hst,hown,hold,hr⟩;obtain⟨x1,x2,x3⟩:=tj hexp;refine⟨v,rfl,hs'.bel,λ j=>if j<bs.length then E'.φ (gs.getD j 0)else none,λ j hj=>?_,?_,λ j b hb=>?_,λ i j x hi hj hij h1 h2=>?_,λ j x hmj hj hx=>?_⟩
 ·have hj':j<bs.length:=by omega
  show(if j<bs.length then E'.φ (gs.getD j 0)else none)=φ j;rw[ZF hj',iQ hgs j hj,Wd];exact hst.φ j hj hj
 ·have hφ:∀j,j<bs.length->(λ j=>if j<bs.length then E'.φ (gs.getD j 0)else none) j=E'.φ (gs.getD j 0):=λ j hj=>ZF hj
  refine AQ (λ j hj _=>⟨hj,(hφ j hj).symm⟩) (λ hal' b hb=>?_) hr r hmap hok;rcases hb with hb|⟨j,hj,hx⟩
  ·unfold lb at hb;rw[ZF hal']at hb;exact hs'.base b hb
  ·rw[hφ j hj]at hx
   obtain⟨y1,_⟩:=x3 j _ (VG hj);exact hs'.own_of ⟨_,_,_,AS.at_iff.1 y1,hx⟩
 ·have hj:j<bs.length:=(List.getElem?_eq_some_iff.1 hb).1
  have hφ:∀j,j<bs.length->(λ j=>if j<bs.length then E'.φ (gs.getD j 0)else none) j=E'.φ (gs.getD j 0):=λ j hj=>ZF hj
  have hownr:al=true->∀b,(fu (lb al O w) (λ j=>if j<bs.length then E'.φ (gs.getD j 0)else none) bs.length).own b->E'.own b:=λ hal' b hb=>by
   rcases hb with hb|⟨j,hj,hx⟩
   ·unfold lb at hb;rw[ZF hal']at hb;exact hs'.base b hb
   ·rw[hφ j hj]at hx
    obtain⟨y1,_⟩:=x3 j _ (VG hj);exact hs'.own_of ⟨_,_,_,AS.at_iff.1 y1,hx⟩
  obtain⟨y1,y2⟩:=x3 j b hb;obtain⟨z1,z2⟩:=hs'.hp _ _ _ y1;obtain⟨m1,m2,m3⟩:=g8 (λ j=>ks.getD j 0) (λ j=>gs.getD j 0) b;refine⟨⟨hj,?_⟩,λ hrow=>?_⟩
  rotate_left
  ·unfold w5 at y2
   rw[hrow,cond_true]at y2
   cases al with
   |true=>exact y2
   |false=>exact ie _ y2
  show match(λ j=>if j<bs.length then E'.φ (gs.getD j 0)else none) j with|none=>_|some b=>_
  rw[hφ j hj]
  cases hp:E'.φ (gs.getD j 0)with
  |none=>
   rw[hp]at z2;exact⟨Wq (by rw[<-m3,z2.1];rfl),by rw[<-m2];exact z2.2⟩
  |some x=>
   rw[hp]at z2;obtain⟨_,c0,cur,fr,c1,c2,c3,c4,c5⟩:=z2;refine⟨.inr ⟨j,hj,(hφ j hj).trans hp⟩,c0,cur,fr,by rw[<-m1];exact c1,c2,by rw[<-m3];exact c3,λ hr=>by rw[<-m3];exact c4 (by rw[m2];exact hr),λ i d hd=>?_⟩;unfold w5 at y2
   cases hrow:b.row with
   |true=>
    rw[hrow,cond_true]at y2;have e:(cm (λ j=>ks.getD j 0) (λ j=>gs.getD j 0) b).cells=b.cells:=by unfold cm;rw[hrow];rfl
    obtain⟨v,v1,v2,v3⟩:=c5 i d (by rw[e];exact hd);refine⟨v,v1,v2,?_⟩
    cases al with
    |true=>exact RD.ofCl ((v3.weak (bn y2 hd)).step (E:=E'.cl) (E':=Env.cl (fu (lb true O w) _ bs.length)) (w:=w') (w':=w') ⟨λ _ h=>h.elim,λ _ h=>h.elim,VT _,λ b _ hb=>⟨λ h=>hb (hownr rfl b h),rfl⟩,λ _ _=>rfl⟩)
    |false=>exact v3.plain (jp.1 y2 d (W4 hd)) _ _
   |false=>
    rw[hrow,cond_false]at y2;have e:(cm (λ j=>ks.getD j 0) (λ j=>gs.getD j 0) b).cells=fF (λ j=>ks.getD j 0) (λ j=>gs.getD j 0) b.cells:=by unfold cm;rw[hrow];rfl
    obtain⟨v,v1,v2,v3⟩:=c5 i (di (λ j=>ks.getD j 0) (λ j=>gs.getD j 0) d) (by rw[e,eU,V6,hd];rfl);exact⟨v,v1,v2,AQ (λ j hj _=>⟨hj,(hφ j hj).symm⟩) hownr v3 d rfl (fH y2 i d hd)⟩
 ·simp only[hi,hj,if_true]at h1 h2
  obtain⟨y1,_⟩:=x3 i _ (VG hi);obtain⟨y2,_⟩:=x3 j _ (VG hj);refine hs'.inj _ _ _ _ _ _ (λ e=>hij ?_) (AS.at_iff.1 y1) (AS.at_iff.1 y2) x h1 h2;have e1:ks[i]? =some (ks.getD i 0):=by simp[show i<ks.length by omega]
  have e2:ks[j]? =some (ks.getD j 0):=by simp[show j<ks.length by omega]
  exact jm (dQ hnd) e1 (by rw[e];exact e2)
 ·simp only[hj,if_true]at hx
  obtain⟨y1,_⟩:=x3 j _ (VG hj);rcases hs'.low x ⟨_,_,_,AS.at_iff.1 y1,hx⟩with h1|⟨j0,hj0,hx0⟩
  ·exact h1
  ·exfalso
   have hj0':j0<bs.length:=by omega
   obtain⟨y2,_⟩:=x3 j0 _ (VG hj0');have e0:E'.φ (gs.getD j0 0)=some x:=by
    rw[iQ hgs j0 hj0,Wd];exact(hst.φ j0 hj0 hj0).trans hx0
   refine hs'.inj _ _ _ _ _ _ (λ e=>?_) (AS.at_iff.1 y1) (AS.at_iff.1 y2) x hx e0;have e1:ks[j]? =some (ks.getD j 0):=by simp[show j<ks.length by omega]
   have e2:ks[j0]? =some (ks.getD j0 0):=by simp[show j0<ks.length by omega]
   have:=jm (dQ hnd) e1 (by rw[e];exact e2);omega
end
def ED (P:Program)(p:Nat×TI):Prop:=P.underlying p.1=some p.2.desc∧(P.info? p.1).map (λ i=>(i.zero,i.size,i.bytes))=some (some p.2.zero,p.2.size,p.2.bytes)∧p.2.zero.cells.size=p.2.size∧(p.2.plain=true->P.stoodInHeld p.1=false∧P.eqGuardType P.depth p.1=false∧∀fs,p.2.desc= .struct fs->fs.toList.all (λ f=>f.name != "_")=true)
theorem RV {P:Program}{t:Nat}{d:TypeDesc}{z:Value}{sz b:Nat}(h1:P.underlying t=some d)(h2:(P.info? t).map (λ i=>(i.zero,i.size,i.bytes))=some (some z,sz,b))(h3:z.cells.size=sz):ED P (t,⟨d,z,sz,b,false⟩):=⟨h1,h2,h3,λ h=>by cases h⟩
theorem MB {P:Program}{t:Nat}{d:TypeDesc}{z:Value}{sz b:Nat}(h1:P.underlying t=some d)(h2:(P.info? t).map (λ i=>(i.zero,i.size,i.bytes))=some (some z,sz,b))(h3:z.cells.size=sz)(h4:P.stoodInHeld t=false)(h5:P.eqGuardType P.depth t=false)(h6:(match d with| .struct fs=>fs.toList.all (λ f=>f.name != "_")|_=>true)=true):ED P (t,⟨d,z,sz,b,true⟩):=⟨h1,h2,h3,λ _=>⟨h4,h5,λ fs e=>by subst e;exact h6⟩⟩
def AR (P:Program):List (Nat×TI)->Prop
 |[]=>True
 |p::r=>ED P p∧AR P r
theorem pZ {P:Program}:∀{l:List (Nat×TI)},AR P l->∀p∈l,ED P p
 |[],_,p,h=>by cases h
 |q::r,h,p,hp=>by
  rcases List.mem_cons.1 hp with rfl|hp
  ·exact h.1
  ·exact pZ h.2 p hp
theorem TT.ok_ofL {P:Program}{l:List (Nat×TI)}{T:TT}(h:AR P l)(e:T=aa2 l):TT.ok P T:=by
 intro t i hi;subst e;obtain⟨h1,h2,h3,h4⟩:=pZ h _ (aa3 hi);obtain⟨j,j1,j2,j3,j4⟩:=info_parts h2;exact⟨h1,h3,⟨j,j1,j2,j3,j4⟩,h4⟩
theorem ao.of {P:Program}{f:FuncId}{fn:Func}(hf:P.funcs[f]? =some fn)(h1:fn.body.isNone=false)(h2:(fn.name== "runtime.NumGoroutine")=false):ao P f:=⟨fn,hf,h1,h2⟩
theorem D.sim.of_eq {d d':D}(h:d=d'):d.sim d':=h▸ .refl d
theorem D.sim.slw {nn:Bool}{n n' sz:Nat}{cells cells':List D}(h1:n=n')(h2:cells=cells'):(V3 nn n sz cells).sim (.sl false n' sz cells'):=by
 subst h1 h2;intro E w u h
 cases h with
 |sl _ _ _ _ a c us hlen hd h1 hn hs hc h0 hr=>exact .sl _ _ _ _ a c us hlen hd h1 hn hs hc (λ h=>⟨(h0 h).1,rfl⟩) hr
theorem ed (bs:Z4):dE (bs.map dB) 0 (bs.length*1)=bs.map dB:=by
 rw[gB,Xe,V5,<-VP (f:=dB) («as»:=bs),Xh]
theorem aF (bs:Z4):ae (bs.map dB)=true:=ie _ (aI bs)
theorem br {b:Bool}{X Y:Prop}(h1:b=true->X)(h2:b=false->Y):Mw b X Y:=hD.2 ⟨h1,h2⟩
theorem chk {b:Bool}{X:Prop}(h1:b=true)(h2:X):vt b X:=bE.2 ⟨h1,h2⟩
theorem RW {P:Program}{s:AS}{ds:List D}{f:FuncId}{nm ky:Nat}{K:Option D->Up->Prop}{al:Bool}(fp:List Nat){q q0:List D}{hin:List Blk}{r:D}{bs:List Blk}(hcall:CallOk al P f q0 hin r bs)(h1:jz s al fp ds=some (true,q))(h2:jH s fp fp=some (true,hin))(hsim:cQ q q0)
  (h3:(fG fp&&VN bs.length (fp.length+8))=true) (h4:K (some (qL (gD fp ky) (gf s fp nm) bs r)) (g9 (gD fp ky) (gf s fp nm) 0 bs)):callP P s ds f nm ky K:=by
 refine⟨al,fp,q,hin,r,bs,h1,h2,?_,h3,h4⟩;obtain⟨e,g⟩:=hsim.get
 cases hcall with
 |fn hf hspec=>
  refine .fn hf ⟨hspec.1,λ O φ w args hO hh hi hl ha=>hspec.2 O φ w args hO hh hi (hl.trans e) λ j d u hd hu=>?_⟩;obtain⟨d0,a1,a2⟩:=g j d hd;exact a2 _ _ _ (ha j d0 u a1 hu)
 |ext hspec=>
  refine .ext ⟨hspec.1,λ O φ w args hO hh hi hl ha=>hspec.2 O φ w args hO hh hi (hl.trans e) λ j d u hd hu=>?_⟩;obtain⟨d0,a1,a2⟩:=g j d hd;exact a2 _ _ _ (ha j d0 u a1 hu)
theorem RX {P:Program}{T:TT}{nt kb i:Nat}{o:Oper}{s:AS}{ds:List D}{f:FuncId}{K:AS->Prop}{fn:Func}{c:Code}{rs:List ResultVar}(h1:P.funcs[f]? =some fn)(h2:fn.body=some c)(h3:fn.results=⟨rs⟩)(h4:(fn.name== "runtime.NumGoroutine")=false)
  (h:AWP P false fn.ntmps (s.nx+8*(i+1)) c {tm:=mh 0 ds,hp:=s.hp,nx:=s.nx+8*(i+1),us:=[]} λ e s'=>(e= .normal∨e= .ret)∧iN T s' rs λ l=>K {tm:=ea s.tm o.dst (some (s8 l)),hp:=s'.hp,nx:=s'.nx,us:=[]}):callX P T nt kb i o s ds f K:=
 ⟨.inr ⟨fn,c,rs,h1,h2,h3,h4,h⟩⟩

inductive CO where
 |b (x:Blk)
 |c (x:Blk)
 /-- an array,told as a row of closed cells -/
 |r (x:Blk)
 |l (st:LoopState) (pend:Option Code) (params:Array Tmp) (assign body:Code) (nt:Nat) (tm:List (Nat×D))
def CO.ob:CO->Ob
 | .b x=>.b x
 | .c x=>.b x
 | .r x=>.b x
 | .l st pend params assign body nt tm=>.l ⟨st,pend,params,assign,body,nt,aa2 tm⟩
structure Ent where
 k':Nat
 g':Nat
 k:Nat
 g:Nat
 o:CO
structure CutS where
 tm:List (Nat×D)
 es:List Ent
 nx:Nat
def CutS.st (c:CutS):AS:=⟨aa2 c.tm,aa2 (c.es.map λ e=>(e.k',(e.g',e.o.ob))),c.nx,[]⟩
def γE:List Ent->Nat->Nat
 |[],g=>g
 |e::r,g=>bif VK e.g' g then e.g else γE r g
def κE:List Ent->Nat->Nat
 |[],k=>k
 |e::r,k=>bif VK e.k' k then e.k else κE r k

def Ro (s:AS)(κ γ:Nat->Nat):List (Nat×D)->Prop
 |[]=>True
 |p::r=>s.tm.get p.1=some (di κ γ p.2)∧Ro s κ γ r
def Jg (tm0:Tr D)(κ γ:Nat->Nat):List (Nat×D)->Prop
 |[]=>True
 |p::r=>tm0.get p.1=some (di κ γ p.2)∧Jg tm0 κ γ r
def RY (p:Nat×Blk):Nat×Blk:=(p.1,⟨p.2.cells,p.2.elem,true⟩)
def Rp (s:AS)(κ γ:Nat->Nat)(e:Ent):Prop:=
 match e.o with
 | .b x=>s.at e.k=some (e.g,cm κ γ x)
 | .c x=>s.at e.k=some (e.g,x)
 | .r x=>(s.at e.k).map RY=some (e.g,x)
 | .l st pend params assign body nt tm=>jA (s.lat e.k) λ p=>(p.1,p.2.st,p.2.pend,p.2.params,p.2.assign,p.2.body,p.2.nt)=(e.g,st,pend,params,assign,body,nt)∧Jg p.2.tm κ γ tm
def Rq (s:AS)(κ γ:Nat->Nat):List Ent->Prop
 |[]=>True
 |e::r=>Rp s κ γ e∧Rq s κ γ r
def CutS.ok (c:CutS)(xn:Nat):Bool:=
 fG (c.es.map (·.g'))&&fG (c.es.map (·.k))&&c.es.all (λ e=>XS e.g' c.nx&&(VK e.g' e.g||(VN xn e.g'&&VN xn e.g)))&&VN xn c.nx
def AT (n:Nat):List Ent->Prop
 |[]=>True
 |e::r=>(match e.o with
  | .b x=>(x.row=true->ae x.cells=true)∧(x.row=false->eu true n x.cells=true)
  | .c x=>ae x.cells=true
  | .r x=>ae x.cells=true
  | .l _ _ _ _ _ _ tm=>(tm.all λ p=>mG true n p.2)=true)∧AT n r
def ig (c:CutS):Prop:=AT c.nx c.es∧(c.tm.all λ p=>mG true c.nx p.2)=true
mutual
theorem iR:∀(d:D) {n:Nat},d.closed=true->mG true n d=true
 | .v _,_,_=>rfl
 | .sl _ _ _ _,_,_=>rfl
 | .agg cs,_,h=>cz cs h
 | .tup cs,_,h=>cz cs h
 | .ifc _ x,_,h=>iR x h
 | .fn _ fi ca,n,h=>by
  have h:(ae fi&&ae ca)=true:=h;rw[VO]at h;show(eu true n fi&&eu true n ca)=true;rw[cz fi h.1,cz ca h.2];rfl
 | .ref ..,_,h=>by cases h
 | .ptr ..,_,h=>by cases h
 | .ep ..,_,h=>rfl
 | .yl ..,_,h=>by cases h
theorem cz:∀(l:List D) {n:Nat},ae l=true->eu true n l=true
 |[],_,_=>rfl
 |d::r,n,h=>by
  have h:(d.closed&&ae r)=true:=h;rw[VO]at h;show(mG true n d&&eu true n r)=true;rw[iR d h.1,cz r h.2];rfl
end
theorem fI {n:Nat}:∀{a b:List D},eu true n a=true->eu true n b=true->eu true n (a++b)=true
 |[],_,_,h=>h
 |d::r,b,h1,h2=>by
  have h1:(mG true n d&&eu true n r)=true:=h1;rw[VO]at h1;show(mG true n d&&eu true n (r++b))=true;rw[h1.1,fI h1.2 h2];rfl
theorem cy {n:Nat}{d:D}{r:List D}(h1:mG true n d=true)(h2:eu true n r=true):eu true n (d::r)=true:=by
 show(mG true n d&&eu true n r)=true;rw[h1,h2];rfl
theorem eF {n:Nat}{p:Nat×D}{r:List (Nat×D)}(h1:mG true n p.2=true)(h2:(r.all λ p=>mG true n p.2)=true):((p::r).all λ p=>mG true n p.2)=true:=by
 rw[Zj,h1,h2];rfl

structure CutE (s:AS)(xn:Nat)(c:CutS):Prop where
 tm:Ro s (κE c.es) (γE c.es) c.tm
 es:Rq s (κE c.es) (γE c.es) c.es
 ok:c.ok xn=true
 rows:ig c
 us:s.us=[]

theorem w6 {s:AS}{κ γ:Nat->Nat}:∀{l:List (Nat×D)},Ro s κ γ l->∀p∈l,s.tm.get p.1=some (di κ γ p.2)
 |[],_,p,h=>by cases h
 |q::r,⟨h1,h2⟩,p,h=>by
  rcases List.mem_cons.1 h with rfl|h
  ·exact h1
  ·exact w6 h2 p h
theorem tl {s:Tr D}{κ γ:Nat->Nat}:∀{l:List (Nat×D)},Jg s κ γ l->∀p∈l,s.get p.1=some (di κ γ p.2)
 |[],_,p,h=>by cases h
 |q::r,⟨h1,h2⟩,p,h=>by
  rcases List.mem_cons.1 h with rfl|h
  ·exact h1
  ·exact tl h2 p h
theorem qW {s:AS}{κ γ:Nat->Nat}:∀{l:List Ent},Rq s κ γ l->∀e∈l,Rp s κ γ e
 |[],_,p,h=>by cases h
 |q::r,⟨h1,h2⟩,p,h=>by
  rcases List.mem_cons.1 h with rfl|h
  ·exact h1
  ·exact qW h2 p h
theorem qa {n:Nat}:∀{l:List Ent},AT n l->∀e∈l,match e.o with
  | .b x=>(x.row=true->ae x.cells=true)∧(x.row=false->eu true n x.cells=true)
  | .c x=>ae x.cells=true
  | .r x=>ae x.cells=true
  | .l _ _ _ _ _ _ tm=>(tm.all λ p=>mG true n p.2)=true
 |[],_,p,h=>by cases h
 |q::r,⟨h1,h2⟩,e,h=>by
  rcases List.mem_cons.1 h with rfl|h
  ·exact h1
  ·exact qa h2 e h
theorem nW:∀{l:List Ent},(l.map (·.g')).Nodup->∀e∈l,γE l e.g'=e.g
 |[],_,e,h=>by cases h
 |q::r,hn,e,h=>by
  simp only[W6,List.nodup_cons]at hn;simp only[γE];rcases List.mem_cons.1 h with rfl|h
  ·simp
  ·have:VK q.g' e.g'=false:=by
    cases hb:VK q.g' e.g' with
    |false=>rfl
    |true=>exact absurd (by rw[VQ hb];exact List.mem_map.2 ⟨e,h,rfl⟩) hn.1
   rw[this];exact nW hn.2 e h
theorem qX:∀{l:List Ent} {xn:Nat},(∀e∈l,e.g'=e.g∨(xn<=e.g'∧xn<=e.g))->∀g,g<xn->γE l g=g
 |[],_,_,g,_=>rfl
 |e::r,xn,h,g,hg=>by
  simp only[γE]
  cases hb:VK e.g' g with
  |true=>
   have:=VQ hb;rcases h e Wb with h1|⟨h1,_⟩
   ·rw[cond_true,<-h1,this]
   ·omega
  |false=>exact qX (λ e' he=>h e' (Wa _ he)) g hg

section
variable {P:Program} {rd:Bool} {nt:Nat}
theorem SR.cut {cx:Cx}{E:Env}{s:AS}{a:Act}{w:World}(h:SR cx E s a w){c:CutS}(hc:CutE s cx.xn c):∃E',SR cx E' c.st a w∧StpX cx.xn E E' w w∧Mut s c.st E E' w w:=by
 obtain⟨htm,hes,hok,hrows,hus⟩:=hc;obtain⟨hrows,htmok⟩:=hrows;have htmok:=List.all_eq_true.1 htmok;simp only[CutS.ok,VO,Za,Yk]at hok;obtain⟨⟨⟨hg',hk⟩,hall⟩,hxn⟩:=hok;have hg':=dQ hg';have hk:=dQ hk;have hxn:=VS hxn;have hfix:∀e∈c.es,e.g'=e.g∨(cx.xn<=e.g'∧cx.xn<=e.g):=λ e he=>by
  rcases(hall e he).2 with h1|h1
  ·exact .inl (VQ h1)
  ·exact .inr ⟨VS h1.1,VS h1.2⟩
 let E':Env:=⟨λ g=>E.φ (γE c.es g),E.own,λ g=>E.nm (γE c.es g)∧g<c.nx⟩
 have hmap:∀{d:D} {u:Value},RD E w (di (κE c.es) (γE c.es) d) u->mG true c.nx d=true->RD E' w d u:=λ hr ho=>AQ (Er:=E') (λ j hj hn=>⟨⟨hn,hj⟩,rfl⟩) (λ _ b hb=>hb) hr _ rfl ho
 have hcl:∀{d:D} {u:Value},RD E.cl w d u->RD E' w d u:=λ hr=>RD.ofCl (RD.step (E:=E.cl) (E':=E'.cl) (w:=w) (w':=w) ⟨λ _ h=>h.elim,λ _ h=>h.elim,VT _,λ b _ hb=>⟨hb,rfl⟩,λ _ _=>rfl⟩ hr)
 have hold:∀{k g o},c.st.gat k=some (g,o)->∃e∈c.es,e.k'=k∧e.g'=g∧e.o.ob=o:=fun{k g o} hkk=>by
  obtain⟨e,he,h1⟩:=List.mem_map.1 (aa3 hkk)
  cases h1;exact⟨e,he,rfl,rfl,rfl⟩
 have hgat:∀e∈c.es,∃o,s.gat e.k=some (e.g,o):=λ e he=>by
  have h1:=qW hes e he;unfold Rp at h1
  split at h1
  ·exact⟨_,AS.at_iff.1 h1⟩
  ·exact⟨_,AS.at_iff.1 h1⟩
  ·obtain⟨p,hp,h2⟩:=Option.map_eq_some_iff.1 h1
   obtain⟨g,r⟩:=p;have:g=e.g:=congrArg Prod.fst h2;subst this;exact⟨_,AS.at_iff.1 hp⟩
  ·obtain⟨p,hp,h2,_⟩:=aU.1 h1
   obtain⟨g,r⟩:=p;have:g=e.g:=congrArg Prod.fst h2;subst this;exact⟨_,AS.lat_iff.1 hp⟩
 have hob:∀{k g o},c.st.gat k=some (g,o)->OB E' w g o:=fun{k g o} hkk=>by
  obtain⟨e,he,rfl,rfl,rfl⟩:=hold hkk;have h1:=qW hes e he;have hγ:=nW hg' e he;have hlt:e.g'<c.nx:=VS (hall e he).1;have hco:=qa hrows e he;unfold Rp at h1
  cases hoo:e.o with
  |b x=>
   rw[hoo]at h1 hco;dsimp only at h1;obtain⟨c1,c2⟩:=h.hp _ _ _ h1;obtain⟨m1,m2,m3⟩:=g8 (κE c.es) (γE c.es) x;refine⟨⟨by rw[hγ];exact c1,hlt⟩,?_⟩;show match E.φ (γE c.es e.g')with|none=>_|some b=>_
   rw[hγ]
   cases hp:E.φ e.g with
   |none=>
    rw[hp]at c2;exact⟨Wq (by rw[<-m3,c2.1];rfl),by rw[<-m2];exact c2.2⟩
   |some b=>
    rw[hp]at c2;obtain⟨d1,d2,cur,fr,d3,d4,d5,d6,d7⟩:=c2;refine⟨d1,d2,cur,fr,by rw[<-m1];exact d3,d4,by rw[<-m3];exact d5,λ hr=>by rw[<-m3];exact d6 (by rw[m2];exact hr),λ i d hd=>?_⟩
    cases hrow:x.row with
    |true=>
     have e1:(cm (κE c.es) (γE c.es) x).cells=x.cells:=by unfold cm;rw[hrow];rfl
     obtain⟨v,v1,v2,v3⟩:=d7 i d (by rw[e1];exact hd);exact⟨v,v1,v2,hcl (v3.weak (bn (hco.1 hrow) hd))⟩
    |false=>
     have e1:(cm (κE c.es) (γE c.es) x).cells=fF (κE c.es) (γE c.es) x.cells:=by unfold cm;rw[hrow];rfl
     obtain⟨v,v1,v2,v3⟩:=d7 i (di (κE c.es) (γE c.es) d) (by rw[e1,eU,V6,hd];rfl);exact⟨v,v1,v2,hmap v3 (fH (hco.2 hrow) i d hd)⟩
  |c x=>
   rw[hoo]at h1 hco;dsimp only at h1 hco;obtain⟨c1,c2⟩:=h.hp _ _ _ h1;refine⟨⟨by rw[hγ];exact c1,hlt⟩,?_⟩;show match E.φ (γE c.es e.g')with|none=>_|some b=>_
   rw[hγ]
   cases hp:E.φ e.g with
   |none=>rw[hp]at c2;exact c2
   |some b=>
    rw[hp]at c2;obtain⟨d1,d2,cur,fr,d3,d4,d5,d6,d7⟩:=c2;refine⟨d1,d2,cur,fr,d3,d4,d5,d6,λ i d hd=>?_⟩;obtain⟨v,v1,v2,v3⟩:=d7 i d hd;exact⟨v,v1,v2,hcl (v3.weak (bn hco hd))⟩
  |r x=>
   rw[hoo]at h1 hco;dsimp only at h1 hco;obtain⟨p,hp0,h2⟩:=Option.map_eq_some_iff.1 h1;obtain⟨g,y⟩:=p;have e1:g=e.g:=congrArg Prod.fst h2;have e2:(⟨y.cells,y.elem,true⟩:Blk)=x:=congrArg Prod.snd h2;subst e1 e2;obtain⟨c1,c2⟩:=h.hp _ _ _ hp0;refine⟨⟨by rw[hγ];exact c1,hlt⟩,?_⟩;show match E.φ (γE c.es e.g')with|none=>_|some b=>_
   rw[hγ]
   cases hp:E.φ e.g with
   |none=>rw[hp]at c2;exact⟨c2.1,rfl⟩
   |some b=>
    rw[hp]at c2;obtain⟨d1,d2,cur,fr,d3,d4,d5,d6,d7⟩:=c2;refine⟨d1,d2,cur,fr,d3,d4,d5,λ q=>Bool.noConfusion q,λ i d hd=>?_⟩;obtain⟨v,v1,v2,v3⟩:=d7 i d hd;exact⟨v,v1,v2,hcl (v3.weak (bn hco hd))⟩
  |l st pend params assign body nt tm=>
   rw[hoo]at h1 hco;dsimp only at h1;obtain⟨p,hp,h2,h3⟩:=aU.1 h1;obtain⟨g,r⟩:=p;simp only[Prod.mk.injEq]at h2;obtain⟨rfl,e1,e2,e3,e4,e5,e6⟩:=h2;obtain⟨c1,b,L,c2,c3,c4,c5,c6,c7,c8,c9,c10,c11,c12⟩:=h.lp _ _ _ hp;refine⟨⟨by rw[hγ];exact c1,hlt⟩,b,L,by show E.φ (γE c.es e.g')=_;rw[hγ];exact c2,c3,c4,c5,c6.trans e1,c7.trans e2,c8.trans e3,c9.trans e4,c10.trans e5,by show nt<=_;rw[<-e6];exact c11,λ t d hd=>?_⟩;have hm:=aa3 hd;obtain⟨u,u1,u2⟩:=c12 t _ (tl h3 _ hm);exact⟨u,u1,hmap u2 (List.all_eq_true.1 hco _ hm)⟩
 have hown:∀{x},bB c.st E'.φ x->bB s E.φ x:=fun⟨k,g,o,hkk,hx⟩=>by
  obtain⟨e,he,rfl,rfl,rfl⟩:=hold hkk;obtain⟨o,ho⟩:=hgat e he;have hx:E.φ (γE c.es e.g')=some _:=hx;rw[nW hg' e he]at hx;exact⟨e.k,e.g,o,ho,hx⟩
 refine⟨E',{h with
  fr:=λ t d hd=>?_
  df:=h.df.step (λ b hb _=>hb) λ b _ _=>rfl
  hp:=λ k g b hk=>hob (AS.at_iff.1 hk)
  lp:=λ k g b hk=>hob (AS.lat_iff.1 hk)
  inj:=λ k1 k2 g1 g2 o1 o2 hkk h1 h2 x hx1 hx2=>?_
  low:=λ x hx=>h.low x (hown hx)
  nm:=λ g hg=>.inl hg.2},⟨λ g hg hn=>⟨by rw[qX hfix g hg];exact hn,Wp hg hxn⟩,λ g hg _=>by show E.φ (γE c.es g)=_;rw[qX hfix g hg],VT _,λ b _ hb=>⟨hb,rfl⟩,λ _ _=>rfl⟩,⟨λ _ _ hb _=>hb,λ _ _ _=>rfl,λ _ _ hx=>hown hx⟩⟩
 ·have hm:=aa3 hd
  obtain⟨u,u1,u2⟩:=h.fr t _ (w6 htm _ hm);exact⟨u,u1,hmap u2 (htmok _ hm)⟩
 ·obtain⟨e1,he1,rfl,rfl,rfl⟩:=hold h1
  obtain⟨e2,he2,rfl,rfl,rfl⟩:=hold h2;obtain⟨o1',ho1⟩:=hgat e1 he1;obtain⟨o2',ho2⟩:=hgat e2 he2;have hx1:E.φ (γE c.es e1.g')=some x:=hx1;have hx2:E.φ (γE c.es e2.g')=some x:=hx2;rw[nW hg' e1 he1]at hx1;rw[nW hg' e2 he2]at hx2;refine h.inj e1.k e2.k e1.g e2.g o1' o2' (λ e=>hkk ?_) ho1 ho2 x hx1 hx2;have:e1=e2:=by
   obtain⟨i,hi⟩:=WO he1;obtain⟨j,hj⟩:=WO he2;have q1:(c.es.map (·.k))[i]? =some e1.k:=by rw[V6,hi];rfl
   have q2:(c.es.map (·.k))[j]? =some e1.k:=by rw[V6,hj,e];rfl
   have:=jm hk q1 q2;subst this;rw[hi]at hj;cases hj;rfl
  rw[this]

theorem CutE.le {s:AS}{xn xn':Nat}{c:CutS}(h:CutE s xn c)(hx:xn'<=xn):CutE s xn' c:=by
 refine⟨h.tm,h.es,?_,h.rows,h.us⟩;have hok:=h.ok;simp only[CutS.ok,VO,Za,Yk]at hok ⊢;obtain⟨⟨h1,h2⟩,h3⟩:=hok;refine⟨⟨h1,λ e he=>?_⟩,VL (VR hx (VS h3))⟩;obtain⟨a1,a2⟩:=h2 e he;exact⟨a1,a2.imp id fun⟨b1,b2⟩=>⟨VL (VR hx (VS b1)),VL (VR hx (VS b2))⟩⟩
theorem AWP.cutEnd {xn:Nat}{c:Code}{s:AS}{Q:AX->AS->Prop}(h:AWP P rd nt xn c s λ e s'=>∃d:CutS,CutE s' xn d∧Q e d.st):AWP P rd nt xn c s Q:=
 ⟨λ F n cx E a w Q' hF hro hn hu hs hQ=>h.run F n cx E a w Q' hF hro hn hu hs λ e s' E' a' w' ⟨d,hd,hK⟩ hu' hs' hst hmut=>by
  obtain⟨E2,q1,q2,q3⟩:=hs'.cut (hd.le hro.2);exact hQ e d.st E2 a' w' hK rfl q1 (hst.trans q2) (hmut.trans q3 hst.size)⟩
theorem AWP.cutStart {xn:Nat}{c:Code}{s:AS}{Q:AX->AS->Prop}{d:CutS}(hd:CutE s xn d)(h:AWP P rd nt xn c d.st Q):AWP P rd nt xn c s Q:=
 ⟨λ F n cx E a w Q' hF hro hn hu hs hQ=>by
  obtain⟨E2,q1,q2,q3⟩:=hs.cut (hd.le hro.2);exact h.run F n cx E2 a w Q' hF hro hn rfl q1 λ e s' E' a' w' hK hu' hs' hst hmut=>hQ e s' E' a' w' hK hu' hs' (q2.trans hst) (q3.trans hmut q2.size)⟩
def nX (F:Fence)(n:Nat)(P:Program)(c:Code)(Q:Exit->Act->World->Prop)(a:Act)(w:World):Prop:=
 ∀(b:Frame) (k:List Item) (cs:List Frame),b.roundOf=F.round->F.fn b.fn->F.room (cs.length+1+n)->
  ∃e a' w',Q e a' w'∧ArrivesIn (Machine.fenced P F) P (lone (b.atR a (.code c:: .inLoop c::k)) cs w) b k cs e a' w'
theorem mi {F:Fence}{n:Nat}{c:Code}{Q:Exit->Act->World->Prop}{a:Act}{w:World}(h:c.wpIn F n P (Exit.then (nX F n P c Q) Q) a w):nX F n P c Q a w:=by
 intro b k cs hro hb hr;obtain⟨e,a₁,w₁,hq,harr⟩:=h b (.inLoop c::k) cs hro hb hr
 cases e with
 |normal=>
  obtain⟨e₂,a₂,w₂,hq₂,harr₂⟩:=hq b k cs hro hb hr;exact⟨e₂,a₂,w₂,hq₂,.of_steps (StepsIn.trans harr (.one (fenced_calm hb hr rfl) stepR_inLoop)) harr₂⟩
 |exit id=>exact⟨_,a₁,w₁,hq,.pass (x:=.inLoop c) rfl (λ _ _=>.inl (by simp)) harr⟩
 |goto l=>exact⟨_,a₁,w₁,hq,.pass (x:=.inLoop c) rfl (λ _ _=>.inl (by simp)) harr⟩
 |ret=>exact⟨_,a₁,w₁,hq,.pass (x:=.inLoop c) rfl (λ _ _=>.inl (by simp)) harr⟩
 |panic ch=>exact⟨_,a₁,w₁,hq,.pass (x:=.inLoop c) rfl (λ _ _=>.inl (by simp)) harr⟩
 |outgrown=>exact⟨_,a₁,w₁,hq,.pass (x:=.inLoop c) rfl (λ _ _=>.inl (by simp)) harr⟩
theorem gh {F:Fence}{n:Nat}{c:Code}{Q:Exit->Act->World->Prop}:∀(m:Nat) {a:Act} {w:World},Code.roundsIn F n P c Q m a w->nX F n P c Q a w
 |0,_,_,h=>h.elim
 |m+1,_,_,h=>mi (wpIn_mono h λ e a' w' hq=>by
  cases e with
  |normal=>exact gh m hq
  |_=>exact hq)
theorem zr {F:Fence}{n:Nat}{c:Code}{Q:Exit->Act->World->Prop}{a:Act}{w:World}(h:nX F n P c Q a w):(Code.loop c).wpIn F n P Q a w:=by
 intro b k cs hro hb hr;obtain⟨e,a',w',hq,harr⟩:=h b k cs hro hb hr;exact⟨e,a',w',hq,.of_steps (.one (fenced_calm hb hr rfl) stepR_loop) harr⟩
structure AWPl (P:Program)(rd:Bool)(nt xn:Nat)(c:Code)(s:AS)(K:AX->AS->Prop):Prop where
 run:∀(F:Fence) (n:Nat) (cx:Cx) (E:Env) (a:Act) (w:World) (Q:Exit->Act->World->Prop),FOK F->((rd=false->F.round=none)∧cx.xn<=xn)->cx.nt=nt->s.us=[]->SR cx E s a w->
  (∀e s' E' a' w',K e s'->s'.us=[]->SR cx E' s' a' w'->StpX cx.xn E E' w w'->Mut s s' E E' w w'->Q e.ex a' w')->nX F n P c Q a w
theorem AWPl.awp {xn:Nat}{c:Code}{s:AS}{K:AX->AS->Prop}(h:AWPl P rd nt xn c s K):AWP P rd nt xn (.loop c) s K:=
 ⟨λ F n cx E a w Q hF hro hn hu hs hQ=>zr (h.run F n cx E a w Q hF hro hn hu hs hQ)⟩
theorem AWPl.mono {xn:Nat}{c:Code}{s:AS}{K K':AX->AS->Prop}(h:AWPl P rd nt xn c s K)(hk:∀e s',K e s'->K' e s'):AWPl P rd nt xn c s K':=
 ⟨λ F n cx E a w Q hF hr hn hu hs hQ=>h.run F n cx E a w Q hF hr hn hu hs λ e s' E' a' w' hK=>hQ e s' E' a' w' (hk e s' hK)⟩
theorem AWPl.cutStart {xn:Nat}{c:Code}{s:AS}{Q:AX->AS->Prop}{d:CutS}(hd:CutE s xn d)(h:AWPl P rd nt xn c d.st Q):AWPl P rd nt xn c s Q:=
 ⟨λ F n cx E a w Q' hF hro hn hu hs hQ=>by
  obtain⟨E2,q1,q2,q3⟩:=hs.cut (hd.le hro.2);exact h.run F n cx E2 a w Q' hF hro hn rfl q1 λ e s' E' a' w' hK hu' hs' hst hmut=>hQ e s' E' a' w' hK hu' hs' (q2.trans hst) (q3.trans hmut q2.size)⟩
theorem AWPl.peel {xn:Nat} {c:Code} {s:AS} {K:AX->AS->Prop} (h:AWP P rd nt xn c s λ e s'=>match e with
  | .normal=>AWPl P rd nt xn c s' K
  |e=>K e s'):AWPl P rd nt xn c s K:=by
 refine⟨λ F n cx E a w Q hF hro hn hu hs hQ=>mi ?_⟩;refine h.run F n cx E a w _ hF hro hn hu hs λ e s' E' a' w' hK hu' hs' hst' hmut'=>?_
 cases e with
 |normal=>exact hK.run F n cx E' a' w' Q hF hro hn hu' hs' λ e s2 E2 a2 w2 hK2 hu2 gw hst2 hmut2=>hQ e s2 E2 a2 w2 hK2 hu2 gw (hst'.trans hst2) (hmut'.trans hmut2 hst'.size)
 |exit id=>exact hQ (.exit id) s' E' a' w' hK hu' hs' hst' hmut'
 |ret=>exact hQ .ret s' E' a' w' hK hu' hs' hst' hmut'
theorem AWPl.loopI {xn:Nat} {c:Code} {K:AX->AS->Prop} {ι:Type} (S:ι->AS) (hS:∀i,(S i).us=[]) (μ:ι->Nat) (body:∀i,AWP P rd nt xn c (S i) λ e s'=>match e with
   | .normal=>∃i',s'=S i'∧μ i'<μ i
   |e=>K e s') (i0:ι):AWPl P rd nt xn c (S i0) K:=by
 refine⟨λ F n cx E0 a w0 Q hF hro hn hu hs hQ=>?_⟩;have key:∀m i E a w,μ i<m->SR cx E (S i) a w->StpX cx.xn E0 E w0 w->Mut (S i0) (S i) E0 E w0 w->Code.roundsIn F n P c Q m a w:=by
  intro m
  induction m with
  |zero=>intro i E a w h;omega
  |succ m ih=>
   intro i E a w hm hs hst hmut;rw[roundsIn_succ];refine(body i).run F n cx E a w _ hF hro hn (hS i) hs λ e s' E' a' w' hK hu' hs' hst' hmut'=>?_
   have hst2:=hst.trans hst';have hmut2:=hmut.trans hmut' hst.size
   cases e with
   |normal=>
    obtain⟨i',rfl,hlt⟩:=hK;exact ih i' E' a' w' (by omega) hs' hst2 hmut2
   |exit id=>exact hQ (.exit id) s' E' a' w' hK hu' hs' hst2 hmut2
   |ret=>exact hQ .ret s' E' a' w' hK hu' hs' hst2 hmut2
 exact gh (μ i0+1) (key _ i0 E0 a w0 (by omega) hs ((Stp.refl E0 w0).x _) (Mut.refl _ _ _))
structure AWPr (P:Program)(rd:Bool)(nt xn:Nat)(c:Code)(m:Nat)(s:AS)(K:AX->AS->Prop):Prop where
 run:∀(F:Fence) (n:Nat) (cx:Cx) (E:Env) (a:Act) (w:World) (Q:Exit->Act->World->Prop),FOK F->((rd=false->F.round=none)∧cx.xn<=xn)->cx.nt=nt->s.us=[]->SR cx E s a w->
  (∀e s' E' a' w',K e s'->s'.us=[]->SR cx E' s' a' w'->StpX cx.xn E E' w w'->Mut s s' E E' w w'->Q e.ex a' w')->Code.roundsIn F n P c Q m a w
theorem AWPr.step {xn m:Nat} {c:Code} {s:AS} {K:AX->AS->Prop} (h:AWP P rd nt xn c s λ e s'=>match e with
  | .normal=>AWPr P rd nt xn c m s' K
  |e=>K e s'):AWPr P rd nt xn c (m+1) s K:=by
 refine⟨λ F n cx E a w Q hF hro hn hu hs hQ=>?_⟩;rw[roundsIn_succ];refine h.run F n cx E a w _ hF hro hn hu hs λ e s' E' a' w' hK hu' hs' hst' hmut'=>?_
 cases e with
 |normal=>exact hK.run F n cx E' a' w' Q hF hro hn hu' hs' λ e s2 E2 a2 w2 hK2 hu2 gw hst2 hmut2=>hQ e s2 E2 a2 w2 hK2 hu2 gw (hst'.trans hst2) (hmut'.trans hmut2 hst'.size)
 |exit id=>exact hQ (.exit id) s' E' a' w' hK hu' hs' hst' hmut'
 |ret=>exact hQ .ret s' E' a' w' hK hu' hs' hst' hmut'
theorem AWPl.rounds {xn m:Nat}{c:Code}{s:AS}{K:AX->AS->Prop}(h:AWPr P rd nt xn c m s K):AWPl P rd nt xn c s K:=
 ⟨λ F n cx E a w Q hF hro hn hu hs hQ=>gh m (h.run F n cx E a w Q hF hro hn hu hs hQ)⟩
end

def jI:D:=.v (.slice none 0 0)
theorem RD.nil_eq {E:Env}{w:World}{u:Value}(h:RD E w jI u):u= .slice none 0 0:=by
 cases h;rfl
section
variable {P:Program} {rd:Bool} {nt:Nat}

theorem SR.nilN {cx:Cx}{E:Env}{s:AS}{a:Act}{w:World}(h:SR cx E s a w)(hu:s.us=[])(ky:Nat)(elem:TypeId):
  let s':AS:={s with hp:=s.hp.set ky (some (s.nx,.b ⟨[],elem,true⟩)),nx:=s.nx+8}
  SR cx (E.add s' s.nx none) s' a w∧Stp E (E.add s' s.nx none) w w∧(E.add s' s.nx none).nm s.nx∧(E.add s' s.nx none).φ s.nx=none∧Mut s s' E (E.add s' s.nx none) w w:=by
 intro s';have hfr:¬E.nm s.nx:=λ hn=>by
  rcases h.nm _ hn with h1|⟨j,hj,h1,h2⟩
  ·omega
  ·rw[hu]at hj;cases hj
 have hat:∀{k' g' o'},s'.gat k'=some (g',o')->(k'=ky∧g'=s.nx∧o'= .b ⟨[],elem,true⟩)∨(k'≠ky∧s.gat k'=some (g',o')):=λ hk=>by
  rcases Xb hk with⟨e,hv⟩|⟨e,hk⟩
  ·cases hv;exact .inl ⟨e,rfl,rfl⟩
  ·exact .inr ⟨e,hk⟩
 have hne:∀{k g' o'},s.gat k=some (g',o')->g'≠s.nx:=λ hk e=>by subst e;exact hfr (h.ob hk).nm
 have hφg:(E.add s' s.nx none).φ s.nx=none:=cg _ _ _;have hown:∀{x},bB s' (At E.φ s.nx none) x->bB s E.φ x:=fun{x} ⟨k,g',o',hk,hx⟩=>by
  rcases hat hk with⟨_,rfl,_⟩|⟨_,hk⟩
  ·rw[cg]at hx;cases hx
  ·rw[bp (hne hk)]at hx;exact⟨k,g',o',hk,hx⟩
 have hs:Stp E (E.add s' s.nx none) w w:=by
  refine⟨λ x hx=>.inl hx,λ x hx=>?_,VT _,λ b hb ho=>⟨?_,rfl⟩,λ b hb=>rfl⟩
  ·exact bp (λ e=>by subst e;exact hfr hx)
  ·rintro(ho'|ho')
   ·exact ho ho'
   ·exact ho (h.own_of (hown ho'))
 have hold:∀{k g' o'},s'.gat k=some (g',o')->OB (E.add s' s.nx none) w g' o':=fun{k g' o'} hk=>by
  rcases hat hk with⟨rfl,rfl,rfl⟩|⟨_,hk0⟩
  ·refine⟨.inr rfl,?_⟩
   rw[hφg];exact⟨rfl,rfl⟩
  ·exact(h.ob hk0).step hs λ b hb=>⟨.inr ⟨k,g',o',hk,(bp (hne hk0)).trans hb⟩,rfl⟩
 have hmut:Mut s s' E (E.add s' s.nx none) w w:=⟨λ b _ hb _=>.inl hb,λ b hb _=>rfl,λ x hlt' hx=>hown hx⟩
 refine⟨h.turn _ _ rfl hs (λ k g' b hk=>hold (AS.at_iff.1 hk)) (λ k g' r hk=>hold (AS.lat_iff.1 hk)) ?_ (λ x hx=>h.low x (hown hx)) (Fr.refl _ _) ?_ hmut.heap,hs,.inr rfl,hφg,hmut⟩
 ·intro k k' g1 g2 o1 o2 hkk h1 h2 x hx1 hx2
  rcases hat h1 with⟨_,rfl,_⟩|⟨_,a1⟩
  ·rw[cg]at hx1;cases hx1
  ·rcases hat h2 with⟨_,rfl,_⟩|⟨_,a2⟩
   ·rw[cg]at hx2;cases hx2
   ·rw[bp (hne a1)]at hx1
    rw[bp (hne a2)]at hx2;exact h.inj k k' g1 g2 o1 o2 hkk a1 a2 x hx1 hx2
 ·rintro n (hn|rfl)
  ·rcases h.nm n hn with h1|⟨j,hj,h1⟩
   ·exact .inl (Wp h1 (Nat.le_add_right _ _))
   ·rw[hu]at hj;cases hj
  ·exact .inl (Nat.lt_add_of_pos_right (by omega))

theorem SR.slotSim {cx:Cx}{E:Env}{s:AS}{a:Act}{w:World}(h:SR cx E s a w){t:Nat}{d d':D}(ht:s.tm.get t=some d)(hd:∀u,RD E w d u->RD E w d' u):SR cx E {s with tm:=s.tm.set t (some d')} a w:=by
 refine{h with fr:=λ t' x hx=>?_};rcases Xb hx with⟨rfl,hv⟩|⟨_,hx⟩
 ·cases hv
  obtain⟨u,hu,hr⟩:=h.fr _ _ ht;exact⟨u,hu,hd u hr⟩
 ·exact h.fr t' x hx
theorem SR.cellSim {cx:Cx}{E:Env}{s:AS}{a:Act}{w:World}(h:SR cx E s a w){k g j:Nat}{b:Blk}{d d':D}(hk:s.at k=some (g,b))(hrow:b.row=false)(hj:b.cells[j]? =some d)(hd:∀u,RD E w d u->RD E w d' u):
  SR cx E {s with hp:=s.hp.set k (some (g,.b ⟨b.cells.set j d',b.elem,b.row⟩))} a w∧Mut s {s with hp:=s.hp.set k (some (g,.b ⟨b.cells.set j d',b.elem,b.row⟩))} E E w w:=by
 have hat:∀{k' g' o'},AS.gat {s with hp:=s.hp.set k (some (g,.b ⟨b.cells.set j d',b.elem,b.row⟩))} k'=some (g',o')->(k'=k∧g'=g∧o'= .b ⟨b.cells.set j d',b.elem,b.row⟩)∨(k'≠k∧s.gat k'=some (g',o')):=λ hk=>by
  rcases Xb hk with⟨e,hv⟩|⟨e,hk⟩
  ·cases hv;exact .inl ⟨e,rfl,rfl⟩
  ·exact .inr ⟨e,hk⟩
 have hold:∀{k' g' o'},AS.gat {s with hp:=s.hp.set k (some (g,.b ⟨b.cells.set j d',b.elem,b.row⟩))} k'=some (g',o')->∃o'',s.gat k'=some (g',o''):=λ hh=>by
  rcases hat hh with⟨rfl,rfl,rfl⟩|⟨_,hh⟩
  ·exact⟨_,AS.at_iff.1 hk⟩
  ·exact⟨_,hh⟩
 refine⟨{h with
  hp:=λ k' g' b' hk'=>?_
  lp:=λ k' g' r hk'=>?_
  inj:=λ k1 k2 g1 g2 o1 o2 hkk h1 h2=>?_
  low:=λ x ⟨k',g',o',hk',hx⟩=>?_},⟨λ _ _ h _=>h,λ _ _ _=>rfl,λ x _ ⟨k',g',o',hk',hx⟩=>?_⟩⟩
 ·rcases hat (AS.at_iff.1 hk')with⟨rfl,rfl,e⟩|⟨_,hk0⟩
  ·cases e
   obtain⟨h1,h2⟩:=h.hp _ _ _ hk;refine⟨h1,?_⟩
   cases hp:E.φ g' with
   |none=>rw[hp]at h2;rw[hrow]at h2;cases h2.2
   |some x=>
    rw[hp]at h2;obtain⟨a1,a2,cur,fr,a3,a4,a5,a6,a7⟩:=h2;refine⟨a1,a2,cur,fr,a3,a4,by simpa using a5,λ hr=>by simpa using a6 hr,λ i e he=>?_⟩
    by_cases hij:i=j
    ·subst hij
     have hlt:i<b.cells.length:=(List.getElem?_eq_some_iff.1 hj).1;have:(b.cells.set i d')[i]? =some d':=by simp[hlt]
     rw[this]at he;cases he;obtain⟨u,u1,u2,u3⟩:=a7 i d hj;exact⟨u,u1,u2,hd u u3⟩
    ·exact a7 i e (by rw[<-he];simp[W7,Ne.symm hij])
  ·exact h.hp _ _ _ (AS.at_iff.2 hk0)
 ·rcases hat (AS.lat_iff.1 hk')with⟨rfl,rfl,e⟩|⟨_,hk0⟩
  ·cases e
  ·exact h.lp _ _ _ (AS.lat_iff.2 hk0)
 ·obtain⟨o3,h3⟩:=hold h1
  obtain⟨o4,h4⟩:=hold h2;exact h.inj k1 k2 g1 g2 o3 o4 hkk h3 h4
 ·obtain⟨o3,h3⟩:=hold hk'
  exact h.low x ⟨_,_,_,h3,hx⟩
 ·obtain⟨o3,h3⟩:=hold hk'
  exact⟨_,_,_,h3,hx⟩

theorem SR.obSim {cx:Cx}{E:Env}{s:AS}{a:Act}{w:World}(h:SR cx E s a w){k g:Nat}{o o':Ob}(hk:s.gat k=some (g,o))(ho:OB E w g o'):
  SR cx E {s with hp:=s.hp.set k (some (g,o'))} a w∧Mut s {s with hp:=s.hp.set k (some (g,o'))} E E w w:=by
 have hat:∀{k' g' o''},AS.gat {s with hp:=s.hp.set k (some (g,o'))} k'=some (g',o'')->(k'=k∧g'=g∧o''=o')∨(k'≠k∧s.gat k'=some (g',o'')):=λ hk=>by
  rcases Xb hk with⟨e,hv⟩|⟨e,hk⟩
  ·cases hv;exact .inl ⟨e,rfl,rfl⟩
  ·exact .inr ⟨e,hk⟩
 have hold:∀{k' g' o''},AS.gat {s with hp:=s.hp.set k (some (g,o'))} k'=some (g',o'')->∃o3,s.gat k'=some (g',o3):=λ hh=>by
  rcases hat hh with⟨rfl,rfl,rfl⟩|⟨_,hh⟩
  ·exact⟨_,hk⟩
  ·exact⟨_,hh⟩
 have hob:∀{k' g' o''},AS.gat {s with hp:=s.hp.set k (some (g,o'))} k'=some (g',o'')->OB E w g' o'':=λ hh=>by
  rcases hat hh with⟨rfl,rfl,rfl⟩|⟨_,hh⟩
  ·exact ho
  ·exact h.ob hh
 refine⟨{h with
  hp:=λ k' g' b' hk'=>hob (AS.at_iff.1 hk')
  lp:=λ k' g' r hk'=>hob (AS.lat_iff.1 hk')
  inj:=λ k1 k2 g1 g2 o1 o2 hkk h1 h2=>?_
  low:=λ x ⟨k',g',o',hk',hx⟩=>?_},⟨λ _ _ h _=>h,λ _ _ _=>rfl,λ x _ ⟨k',g',o',hk',hx⟩=>?_⟩⟩
 ·obtain⟨o3,h3⟩:=hold h1
  obtain⟨o4,h4⟩:=hold h2;exact h.inj k1 k2 g1 g2 o3 o4 hkk h3 h4
 ·obtain⟨o3,h3⟩:=hold hk'
  exact h.low x ⟨_,_,_,h3,hx⟩
 ·obtain⟨o3,h3⟩:=hold hk'
  exact⟨_,_,_,h3,hx⟩
def mH (xn:Nat)(s s':AS):Prop:=∀(cx:Cx) (E:Env) (a:Act) (w:World),cx.xn<=xn->SR cx E s a w->s.us=[]->∃E',SR cx E' s' a w∧Stp E E' w w∧Mut s s' E E' w w∧s'.us=[]
theorem mH.refl {xn:Nat}(s:AS):mH xn s s:=λ _ E _ w _ h hu=>⟨E,h,Stp.refl E w,Mut.refl s E w,hu⟩
theorem mH.trans {xn:Nat}{a b c:AS}(h:mH xn a b)(k:mH xn b c):mH xn a c:=λ cx E x w hxn hs hu=>by
 obtain⟨E1,q1,q2,q3,q4⟩:=h cx E x w hxn hs hu;obtain⟨E2,r1,r2,r3,r4⟩:=k cx E1 x w hxn q1 q4;exact⟨E2,r1,q2.trans r2,q3.trans r3 (VT _),r4⟩
theorem AWPl.ret {xn:Nat}{c:Code}{s s':AS}{K:AX->AS->Prop}(hr:mH xn s s')(h:AWPl P rd nt xn c s' K):AWPl P rd nt xn c s K:=
 ⟨λ F n cx E a w Q hF hro hn hu hs hQ=>by
  obtain⟨E',q1,q2,q3,q4⟩:=hr cx E a w hro.2 hs hu;exact h.run F n cx E' a w Q hF hro hn q4 q1 λ e s3 E3 a3 w3 hK hu3 sH hst3 hmut3=>hQ e s3 E3 a3 w3 hK hu3 sH ((q2.x _).trans hst3) (q3.trans hmut3 (VT _))⟩
theorem AWP.cutEndR {xn:Nat}{c:Code}{s:AS}{Q:AX->AS->Prop}(h:AWP P rd nt xn c s λ e s'=>∃(s2:AS) (d:CutS),mH xn s' s2∧CutE s2 xn d∧Q e d.st):AWP P rd nt xn c s Q:=
 ⟨λ F n cx E a w Q' hF hro hn hu hs hQ=>h.run F n cx E a w Q' hF hro hn hu hs λ e s' E' a' w' ⟨s2,d,hr,hd,hK⟩ hu' hs' hst hmut=>by
  obtain⟨E1,r1,r2,r3,r4⟩:=hr cx E' a' w' hro.2 hs' hu';obtain⟨E2,q1,q2,q3⟩:=r1.cut (hd.le hro.2);exact hQ e d.st E2 a' w' hK rfl q1 ((hst.trans (r2.x _)).trans q2) ((hmut.trans r3 hst.size).trans q3 hst.size)⟩
def nilS (s:AS)(t k sz:Nat)(elem:TypeId):AS:={tm:=s.tm.set t (some (.ref k s.nx 0 0 sz)),hp:=s.hp.set k (some (s.nx,.b ⟨[],elem,true⟩)),nx:=s.nx+8,us:=s.us}
theorem mH.nilS {xn:Nat}{s:AS}{t k sz:Nat}{elem:TypeId}(ht:s.tm.get t=some jI):mH xn s (nilS s t k sz elem):=λ cx E a w _ h hu=>by
 obtain⟨q1,q2,q3,q4,q5⟩:=h.nilN hu k elem;refine⟨_,q1.slotSim (t:=t) (d:=jI) (d':= .ref k s.nx 0 0 sz) ht λ u hr=>?_,q2,⟨q5.own,q5.heap,q5.old⟩,hu⟩;rw[hr.nil_eq];exact .refn k s.nx sz q3 q4
def recS (s:AS)(k g:Nat)(r:LRec)(t:Nat)(d:D):AS:={s with hp:=s.hp.set k (some (g,.l {r with tm:=r.tm.set t (some d)}))}
theorem mH.recS {xn:Nat}{s:AS}{k g t:Nat}{r:LRec}{d:D}(hk:s.lat k=some (g,r))(ht:r.tm.get t=some d):mH xn s (recS s k g r t d):=λ cx E a w _ h hu=>by
 obtain⟨c1,b,L,c2,c3,c4,c5,c6,c7,c8,c9,c10,c11,c12⟩:=h.lp _ _ _ hk;obtain⟨r1,r2⟩:=h.obSim (o':= .l {r with tm:=r.tm.set t (some d)}) (AS.lat_iff.1 hk) ⟨c1,b,L,c2,c3,c4,c5,c6,c7,c8,c9,c10,c11,λ t' x hx=>by
  rcases Xb hx with⟨rfl,hv⟩|⟨_,hx⟩
  ·cases hv;exact c12 _ _ ht
  ·exact c12 t' x hx⟩
 exact⟨E,r1,Stp.refl E w,r2,hu⟩
def nilC (s:AS)(k0 g0:Nat)(b:Blk)(j k sz:Nat)(elem:TypeId):AS:={tm:=s.tm,hp:=(s.hp.set k (some (s.nx,.b ⟨[],elem,true⟩))).set k0 (some (g0,.b ⟨b.cells.set j (.ref k s.nx 0 0 sz),b.elem,b.row⟩)),nx:=s.nx+8,us:=s.us}
theorem mH.nilC {xn:Nat}{s:AS}{k0 g0 j k sz:Nat}{b:Blk}{elem:TypeId}(hk:s.at k0=some (g0,b))(hne:k0≠k)(hok:aal k=true)(hrow:b.row=false)(hj:b.cells[j]? =some jI):mH xn s (nilC s k0 g0 b j k sz elem):=λ cx E a w _ h hu=>by
 obtain⟨q1,q2,q3,q4,q5⟩:=h.nilN hu k elem;have hk':AS.at {s with hp:=s.hp.set k (some (s.nx,.b ⟨[],elem,true⟩)),nx:=s.nx+8} k0=some (g0,b):=by
  refine AS.at_iff.2 ?_;show(s.hp.set k _).get k0=_;rw[YG _ _ _ hok,ZE hne];exact AS.at_iff.1 hk
 obtain⟨r1,r2⟩:=q1.cellSim (d':= .ref k s.nx 0 0 sz) hk' hrow hj λ u hr=>by rw[hr.nil_eq];exact .refn k s.nx sz q3 q4
 exact⟨_,r1,q2,q5.trans r2 (VT _),hu⟩
def Am (g:Nat)(cells:List D):D->D
 | .ref k g' off n sz=>bif VK g g'&&XS 0 sz&&VN (off+n*sz) cells.length then .sl false n sz ((cells.drop off).take (n*sz))else .ref k g' off n sz
 |d=>d
def zt (s:AS)(k g:Nat)(b:Blk)(k0 g0:Nat)(b0:Blk):AS:={tm:=s.tm,hp:=(s.hp.set k none).set k0 (some (g0,.b ⟨b0.cells.map (Am g b.cells),b0.elem,b0.row⟩)),nx:=s.nx,us:=s.us}
theorem Jh {E:Env}{w:World}{g x:Nat}{cells:List D}{cur:Array Value}{t:TypeId}{fr:Nat×Nat}(hφ:E.φ g=some x)(hlt:x<w.heap.size)(hw:w.heap[x]? =some (.cells cur t fr))(hsz:cells.length<=cur.size)
  (hc:∀(i:Nat) d,cells[i]? =some d->∃u,cur[i]? =some u∧u.oneCell'=true∧RD E w d u) (hcl:ae cells=true) {E':Env} (hs:Stp E E' w w) (hx:¬E'.own x) {d:D} {u:Value} (h:RD E w d u):RD E' w (Am g cells d) u:=by
 unfold Am
 split
 case h_2=>exact h.step hs
 case h_1 k g' off n sz=>
  cases hb:(VK g g'&&XS 0 sz&&VN (off+n*sz) cells.length)with
  |false=>exact h.step hs
  |true=>
   rw[VO,VO]at hb;have hbl:=VS hb.2;have hb:=hb.1;have e:g=g':=VQ hb.1;subst e;have hs0:0<sz:=VS hb.2;rw[cond_true]
   cases h with
   |refn _ _ _ hg hb'=>rw[hφ]at hb';cases hb'
   |ref _ _ _ _ _ c b off' t' m hg hb' hcc ho hsh hm=>
    rw[hφ]at hb';cases hb';rw[aS hw]at hsh;cases hsh;have hnc:n*sz<=c*sz:=Nat.mul_le_mul_right _ hcc.1;have hoff:off'=off∨n=0:=ho.elim .inl λ q=>.inr q.1
    have hul:((cur.toList.drop off').take (n*sz)).length=n*sz:=by
     rw[VW,Wr,Array.length_toList];omega
    have hcl':((cells.drop off).take (n*sz)).length=n*sz:=by
     rw[VW,Wr];rcases hoff with q|q
     ·subst q;omega
     ·subst q;omega
    have hget:∀(i:Nat) u,((cur.toList.drop off').take (n*sz))[i]? =some u->i<n*sz∧cur[off'+i]? =some u:=λ i u hu=>by
     rw[WA]at hu
     split at hu
     ·next q=>exact⟨q,by rw[WR]at hu;simpa using hu⟩
     ·cases hu
    refine .sl false n sz _ (some ⟨x,off',none⟩) c ((cur.toList.drop off').take (n*sz)) (hul.trans hcl'.symm) (λ i d u h1 h2=>?_) (λ u hu=>?_) hcl' hs0 hcc (λ q=>by cases q) ?_
    ·obtain⟨h3,h2⟩:=hget i u h2
     rw[WA,ZF h3,WR]at h1;rcases hoff with q|q
     ·subst q
      obtain⟨u',q1,_,q3⟩:=hc _ d h1;rw[h2]at q1;cases q1;exact(q3.weak (bn hcl h1)).step hs.cl
     ·subst q;omega
    ·obtain⟨i,hi⟩:=WO hu
     obtain⟨q0,q1⟩:=hget i u hi;have hj:off'+i<cells.length:=by
      rcases hoff with q|q
      ·subst q;omega
      ·subst q;omega
     obtain⟨u',y1,y2,_⟩:=hc _ _ (VG hj);rw[q1]at y1;cases y1;exact y2
    ·exact .inr ⟨x,off',rfl,hlt,hx,λ i u hu=>by rw[cell_of_row w x (off'+i) cur t fr hw];exact(hget i u hu).2⟩
theorem EE {E:Env}{w:World}{g:Nat}(hφ:E.φ g=none){E':Env}(hs:Stp E E' w w){d:D}{u:Value}(h:RD E w d u):RD E' w (Am g [] d) u:=by
 unfold Am
 split
 case h_2=>exact h.step hs
 case h_1 k g' off n sz=>
  cases hb:(VK g g'&&XS 0 sz&&VN (off+n*sz) ([]:List D).length)with
  |false=>exact h.step hs
  |true=>
   rw[VO,VO]at hb;have e:g=g':=VQ hb.1.1;subst e;rw[cond_true]
   cases h with
   |refn _ _ _ hg hb'=>
    exact .sl false 0 sz _ none 0 [] (by simp) (λ i d u h=>by simp at h) (λ u h=>by cases h) (by simp) (VS hb.1.2) ⟨VT _,Wy _⟩ (λ _=>⟨rfl,rfl⟩) (.inl rfl)
   |ref _ _ _ _ _ c b off' t' m hg hb' hcc ho hsh hm=>rw[hφ]at hb';cases hb'
theorem mH.frz {s:AS}{k g k0 g0:Nat}{b b0:Blk}(hk:s.at k=some (g,b))(h0:s.at k0=some (g0,b0))(hne:k0≠k)(hc:ae b.cells=true):mH 0 s (zt s k g b k0 g0 b0):=λ cx E a w hxn h hu=>by
 have hk':=AS.at_iff.1 hk;have h0':=AS.at_iff.1 h0;obtain⟨hnm,hB⟩:=h.hp _ _ _ hk;have hdf:∀y,E.φ g=some y->w.heap[y]? =some (.deferred (some []))->False:=λ y hy hd=>by
  rw[hy]at hB;obtain⟨_,_,cur,fr,hw,_⟩:=hB;rw[hd]at hw;cases hw
 have hs:Stp E ⟨E.φ,λ y=>E.own y∧E.φ g≠some y,E.nm⟩ w w:=⟨λ _ h=>h,λ _ _=>rfl,VT _,λ _ _ ho=>⟨λ q=>ho q.1,rfl⟩,λ _ _=>rfl⟩
 have hat:∀{k' g' o'},(zt s k g b k0 g0 b0).gat k'=some (g',o')->(k'=k0∧g'=g0∧o'= .b ⟨b0.cells.map (Am g b.cells),b0.elem,b0.row⟩)∨(k'≠k∧s.gat k'=some (g',o')):=λ hh=>by
  rcases Xb hh with⟨e,hv⟩|⟨_,hh⟩
  ·cases hv;exact .inl ⟨e,rfl,rfl⟩
  ·rcases Xb hh with⟨_,hv⟩|⟨e,hh⟩
   ·cases hv
   ·exact .inr ⟨e,hh⟩
 have hold:∀{k' g' o'},(zt s k g b k0 g0 b0).gat k'=some (g',o')->k'≠k∧∃o'',s.gat k'=some (g',o''):=λ hh=>by
  rcases hat hh with⟨rfl,rfl,rfl⟩|⟨e,hh⟩
  ·exact⟨hne,_,h0'⟩
  ·exact⟨e,_,hh⟩
 have hfz:∀{d u},RD E w d u->RD ⟨E.φ,λ y=>E.own y∧E.φ g≠some y,E.nm⟩ w (Am g b.cells d) u:=fun{d u} hr=>by
  cases hφ:E.φ g with
  |none=>
   rw[hφ]at hB;rw[hB.1];have:=EE hφ hs hr;rw[hφ]at this;exact this
  |some x=>
   rw[hφ]at hB;obtain⟨hown,hlt,cur,fr,hw,hfr,hle,hsz,hcell⟩:=hB;have:=Jh hφ hlt hw hle hcell hc hs (λ q=>q.2 hφ) hr;rw[hφ]at this;exact this
 have hno:∀{k' g' o'},k'≠k->s.gat k'=some (g',o')->∀y,E.φ g'=some y->E.φ g≠some y:=λ e hh y hy q=>h.inj _ _ _ _ _ _ e hh hk' y hy q
 have hob:∀{k' g' o'},(zt s k g b k0 g0 b0).gat k'=some (g',o')->OB ⟨E.φ,λ y=>E.own y∧E.φ g≠some y,E.nm⟩ w g' o':=fun{k' g' o'} hh=>by
  rcases hat hh with⟨rfl,rfl,rfl⟩|⟨e,hh⟩
  ·obtain⟨a1,a2⟩:=h.hp _ _ _ h0
   refine⟨a1,?_⟩;show match E.φ g' with|none=>_|some _=>_
   cases hp:E.φ g' with
   |none=>
    rw[hp]at a2;exact⟨by show b0.cells.map _=[];rw[a2.1];rfl,a2.2⟩
   |some y=>
    rw[hp]at a2;obtain⟨c1,c2,cur',fr',c3,c4,c5,c6,c7⟩:=a2;refine⟨⟨c1,hno hne h0' y hp⟩,c2,cur',fr',c3,c4,by simpa using c5,λ hr=>by simpa using c6 hr,λ i e he=>?_⟩;rw[V6,Option.map_eq_some_iff]at he;obtain⟨d0,hd0,rfl⟩:=he;obtain⟨u,u1,u2,u3⟩:=c7 i d0 hd0;exact⟨u,u1,u2,hfz u3⟩
  ·exact(h.ob hh).step hs λ y hy=>⟨⟨h.own_of ⟨_,_,_,hh,hy⟩,hno e hh y hy⟩,rfl⟩
 have how:∀{y},bB (zt s k g b k0 g0 b0) E.φ y->bB s E.φ y:=fun⟨k',g',o',hh,hy⟩=>by
  obtain⟨_,o'',hh⟩:=hold hh;exact⟨_,_,_,hh,hy⟩
 refine⟨⟨E.φ,λ y=>E.own y∧E.φ g≠some y,E.nm⟩,{h with
  fr:=λ t d hd=>by obtain⟨u,hu,hr⟩:=h.fr t d hd;exact⟨u,hu,hr.step hs⟩
  df:=h.df.step (λ y hy hd=>⟨hy,λ q=>hdf y q hd⟩) λ _ _ _=>rfl
  hp:=λ k' g' b' hh=>hob (AS.at_iff.1 hh)
  lp:=λ k' g' r hh=>hob (AS.lat_iff.1 hh)
  inj:=λ k1 k2 g1 g2 o1 o2 hkk h1 h2=>by
   obtain⟨_,o3,h3⟩:=hold h1;obtain⟨_,o4,h4⟩:=hold h2;exact h.inj k1 k2 g1 g2 o3 o4 hkk h3 h4
  lt:=λ y hy=>h.lt y hy.1
  low:=λ y hy=>h.low y (how hy)
  base:=λ y hy=>⟨h.base y hy,λ q=>cx.hO (Nat.le_zero.1 hxn) y hy (h.low y ⟨_,_,_,hk',q⟩)⟩},hs,⟨λ y _ hy hn=>⟨hy,λ q=>hn ⟨_,_,_,hk',q⟩⟩,λ _ _ _=>rfl,λ y _ hy=>how hy⟩,hu⟩
end

structure Endl where
 κ:Type
 e:AX
 S:κ->CutS
def fJ:List Endl->Nat->Endl
 |[],_=>⟨Empty,.normal,λ x=>nomatch x⟩
 |e::_,0=>e
 |_::r,n+1=>fJ r n
def tn:(es:List Endl)->((i:Nat)->(fJ es i).κ->Prop)->Prop
 |[],_=>True
 |e::r,F=>(∀x:e.κ,F 0 x)∧tn r (λ i x=>F (i+1) x)
def tq:List Endl->AX->AS->Prop
 |[],_,_=>False
 |e::r,a,s=>(∃x:e.κ,a=e.e∧s=(e.S x).st)∨tq r a s
theorem tu:∀{es:List Endl} {F:(i:Nat)->(fJ es i).κ->Prop} {G:AX->AS->Prop},tn es F->(∀i x,F i x->G (fJ es i).e ((fJ es i).S x).st)->∀{a s},tq es a s->G a s
 |[],_,_,_,_,_,_,h=>h.elim
 |e::r,F,G,hv,hG,a,s,h=>by
  rcases h with⟨x,rfl,rfl⟩|h
  ·exact hG 0 x (hv.1 x)
  ·exact tu (es:=r) (F:=λ i x=>F (i+1) x) hv.2 (λ i x hF=>hG (i+1) x hF) h
theorem tv:∀(es:List Endl) (n:Nat) (x:(fJ es n).κ),tq es (fJ es n).e ((fJ es n).S x).st
 |[],_,x=>nomatch x
 |_::_,0,x=>.inl ⟨x,rfl,rfl⟩
 |_::r,n+1,x=>.inr (tv r n x)
inductive Hn (P:Program):Type 1 where
 |nil
 |s (n:Nat) (h:Hn P)
 |chk (b:Bool) (p:b=true) (h:Hn P)
 |t (b:Bool) (p:b=true) (h:Hn P)
 |f (b:Bool) (p:b=false) (h:Hn P)
 |br (b:Bool) (ht:b=true->Hn P) (hf:b=false->Hn P)
 |opt (o:Option D) (d:D) (p:o=some d) (h:Hn P)
 |byt (cs:List D) (bs:Z4) (p:cs=bs.map dB) (h:Hn P)
 |lst (cs cs':List D) (p:cs=cs') (h:Hn P)
 |abs (p:False)
 |val (t:Nat) (d d':D) (p:d=d') (h:Hn P)
 |blk (k g:Nat) (b b':Blk) (p:b=b') (h:Hn P)
 |em (b:Bool) (ht:b=true->Hn P) (hf:b=false->Hn P)
 |nils (t k sz:Nat) (elem:TypeId) (h:Hn P)
 |nilc (k0 g0:Nat) (b:Blk) (j k sz:Nat) (elem:TypeId) (h:Hn P)
 |recv (k t:Nat) (d d':D) (p:d=d') (h:Hn P)
 |frz (k g:Nat) (b:Blk) (k0 g0:Nat) (b0:Blk) (p:ae b.cells=true) (h:Hn P)
 |call (f:FuncId) (al:Bool) (fp:List Nat) (b1:Bool) (p1:b1=true) (q q0:List D) (hq:cQ q q0) (b2:Bool) (p2:b2=true) (hin:List Blk) (r:D) (bs:List Blk) (hs:CallOk al P f q0 hin r bs) (h:Hn P)
 |loop1 (rd:Bool) (nt xn:Nat) (c:Code) (d:CutS) (rows:ig d) (e1:AX) (s1:AS) (hl:AWPl P rd nt xn c d.st λ e s=>e=e1∧s=s1) (h:Hn P)
 |loop2 (rd:Bool) (nt xn:Nat) (c:Code) (d:CutS) (rows:ig d) (e1:AX) (s1:AS) (e2:AX) (s2:AS) (hl:AWPl P rd nt xn c d.st λ e s=>(e=e1∧s=s1)∨(e=e2∧s=s2)) (h1 h2:Hn P)
 |loopE (rd:Bool) (nt xn:Nat) (c:Code) (d:CutS) (rows:ig d) (es:List Endl) (hl:AWPl P rd nt xn c d.st (tq es)) (hs:(i:Nat)->(fJ es i).κ->Hn P)
 |cut (e:AX) (d:CutS) (rows:ig d) (Q:AX->AS->Prop) (p:Q e d.st)
 |out (ks gs:List Nat) (r:D) (bs:List Blk) (R:D->List Blk->Prop) (p:R r bs)
 |two (h1 h2:Hn P)
 |stab (l:List (Option D)) (h:Hn P)

inductive Need {α:Type _} (what:Nat) (x:α):Prop
def ii (b:Bool)(X:Prop):Prop:=match b with
 |true=>X
 |false=>False
def qb (b:Bool)(X Y:Prop):Prop:=match b with
 |true=>X
 |false=>Y
theorem bJ {b:Bool}{X:Prop}:ii b X↔b=true∧X:=by cases b<;>simp[ii]
theorem eG {b:Bool}{X Y:Prop}:qb b X Y↔(b=true->X)∧(b=false->Y):=by cases b<;>simp[qb]
def vB (n:Nat)(K:Nat->Prop):Prop:=match n with
 |0=>K 0
 |m+1=>K (m+1)
theorem nY {n:Nat}{K:Nat->Prop}:vB n K↔K n:=by cases n<;>exact Iff.rfl

section
variable {P:Program}
def Hn.isAbs (h:Hn P):Bool:=match h with
 | .abs _=>true
 |_=>false
theorem Hn.isAbs_no {h:Hn P}:h.isAbs=false:=by
 cases h<;>first|rfl|(rename_i p;exact p.elim)
def Hn.go (h:Hn P)(lit use:Hn P->Prop):Prop:=match h with
 | .s 0 h'=>use h'
 | .s (n+1) h'=>lit (.s n h')
 |h'=>use h'
def Hn.absOr (h:Hn P)(X:Prop):Prop:=match h with
 | .abs _=>True
 |_=>X
theorem Hn.absOr_elim {h:Hn P}{X:Prop}(hv:h.absOr X):X:=by
 unfold Hn.absOr at hv
 split at hv
 ·rename_i p;exact p.elim
 ·exact hv
def Hn.fork (h:Hn P)(no:Prop)(yes:Hn P->Hn P->Prop):Prop:=match h with
 | .two a b=>yes a b
 | .s 0 (.two a b)=>yes a b
 |_=>no
theorem Hn.fork_elim {h:Hn P}{no X:Prop}{yes:Hn P->Hn P->Prop}(hv:h.fork no yes)(h1:no->X)(h2:∀a b,yes a b->X):X:=by
 unfold Hn.fork at hv
 split at hv
 ·exact h2 _ _ hv
 ·exact h2 _ _ hv
 ·exact h1 hv
theorem Hn.go_elim {h:Hn P}{lit use:Hn P->Prop}{X:Prop}(hv:h.go lit use)(h1:∀h',lit h'->X)(h2:∀h',use h'->X):X:=by
 unfold Hn.go at hv
 split at hv
 ·exact h2 _ hv
 ·exact h1 _ hv
 ·exact h2 _ hv

def Hn.goL (h:Hn P)(lit use:Hn P->Prop):Prop:=match h with
 | .s 0 h'=>use h'
 | .s (n+1) h'=>bif XS 1000000000 n then use (.s (n+1) h')else lit (.s n h')
 |h'=>use h'
theorem Hn.goL_elim {h:Hn P}{lit use:Hn P->Prop}{X:Prop}(hv:h.goL lit use)(h1:∀h',lit h'->X)(h2:∀h',use h'->X):X:=by
 unfold Hn.goL at hv
 split at hv
 ·exact h2 _ hv
 ·rename_i n h'
  cases hb:XS 1000000000 n with
  |true=>rw[hb]at hv;exact h2 _ hv
  |false=>rw[hb]at hv;exact h1 _ hv
 ·exact h2 _ hv

def Rr:List D->Option (Z4)
 |[]=>some []
 | .v (.int .u8 (.ofNat m))::r=>bif XS m 256 then(match Rr r with
  |some l=>some (WI m::l)
  |none=>none)else none
 |_=>none
theorem AU:∀{cs:List D} {bs:Z4},Rr cs=some bs->cs=bs.map dB
 |[],bs,h=>by cases h;rfl
 |d::r,bs,h=>by
  unfold Rr at h
  split at h
  ·rename_i heq;cases heq
  ·rename_i m r' heq
   cases heq
   cases hb:XS m 256 with
   |false=>rw[hb]at h;cases h
   |true=>
    rw[hb,cond_true]at h
    split at h
    ·rename_i l hl
     cases h
     have hm:m<256:=VS hb;rw[W6,<-AU hl]
     congr 1
     unfold dB;have:(WI m).toNat=m:=by simp[Xy,Xc hm]
     rw[this];rfl
    ·cases h
  ·cases h

theorem Ev.vc_mono:∀{e:Ev} {K K':Option D->Up->Prop},e.vc K->(∀v up,K v up->K' v up)->e.vc K'
 | .ok v up,_,_,h,hk=>hk v up h
 | .cond b k,_,_,h,hk=>bE.2 ⟨(bE.1 h).1,Ev.vc_mono (bE.1 h).2 hk⟩
 | .opt o k,_,_,h,hk=>by
  obtain⟨d,hd,h⟩:=aU.1 h;exact aU.2 ⟨d,hd,Ev.vc_mono h hk⟩
 | .list cs k,_,_,h,hk=>Ev.vc_mono (e:=k cs) h hk
 | .bytes cs k,_,_,h,hk=>by
  obtain⟨bs,hb,h⟩:=h.h;exact⟨bs,hb,Ev.vc_mono h hk⟩
 | .stuck,_,_,h,_=>h
theorem jr {T:TT}{s:AS}{nm ky:Nat}{o:Oper}{K K':Option D->Up->Prop}(h:dM P T s nm ky o K)(hk:∀v up,K v up->K' v up):dM P T s nm ky o K':=by
 unfold dM at h ⊢
 cases hc:d9 s o with
 |some p=>
  rw[hc]at h;obtain⟨al,fp,q,hin,r,bs,h1,h2,h4,h5,h6⟩:=h.h;exact⟨al,fp,q,hin,r,bs,h1,h2,h4,h5,hk _ _ h6⟩
 |none=>rw[hc]at h;exact Ev.vc_mono h hk

def MC {α:Type}(l:List α)(X:Prop):Prop:=match l with
 |[]=>X
 |_::_=>X
theorem AV {α:Type}{l:List α}{X:Prop}:MC l X↔X:=by cases l<;>exact Iff.rfl
def tw:Ev->Hn P->(Option D->Up->Hn P->Prop)->Prop
 | .ok v up,h,K=>K v up h
 | .cond b k,h,K=>h.go (λ h'=>ii b (tw k h' K)) λ h'=>match h' with
  | .chk b' _ h2=>b=b'∧tw k h2 K
  |_=>Need 1 b
 | .opt o k,h,K=>h.go (λ h'=>jA o λ d=>tw (k d) h' K) λ h'=>match h' with
  | .opt o' d _ h2=>o=o'∧tw (k d) h2 K
  |_=>Need 2 o
 | .list cs k,h,K=>h.go (λ h'=>MC cs (tw (k cs) h' K)) λ h'=>match h' with
  | .lst cs0 cs' _ h2=>cs=cs0∧tw (k cs') h2 K
  |_=>Need 14 cs
 | .bytes cs k,h,K=>h.go (λ h'=>jA (Rr cs) λ bs=>tw (k bs) h' K) λ h'=>match h' with
  | .byt cs' bs _ h2=>cs=cs'∧tw (k bs) h2 K
  |_=>Need 3 cs
 | .stuck,_,_=>Need 0 ()
theorem fe:∀{e:Ev} {h:Hn P} {K:Option D->Up->Hn P->Prop},tw e h K->e.vc λ v up=>∃h',K v up h'
 | .ok v up,h,K,hv=>⟨h,hv⟩
 | .cond b k,h,K,hv=>by
  unfold tw at hv;refine Hn.go_elim hv (λ h' hv=>?_) λ h' hv=>?_
  ·obtain⟨hb,hv⟩:=bJ.1 hv;exact bE.2 ⟨hb,fe hv⟩
  ·split at hv
   ·rename_i b' p h2;exact bE.2 ⟨hv.1.trans p,fe hv.2⟩
   ·cases hv
 | .opt o k,h,K,hv=>by
  unfold tw at hv;refine Hn.go_elim hv (λ h' hv=>?_) λ h' hv=>?_
  ·obtain⟨d,hd,hv⟩:=aU.1 hv;exact aU.2 ⟨d,hd,fe hv⟩
  ·split at hv
   ·rename_i o' d p h2;exact aU.2 ⟨d,hv.1.trans p,fe hv.2⟩
   ·cases hv
 | .list cs k,h,K,hv=>by
  unfold tw at hv;show(k cs).vc _;refine Hn.go_elim hv (λ h' hv=>fe (AV.1 hv)) λ h' hv=>?_
  split at hv
  ·rename_i cs0 cs' p h2
   obtain⟨e,hv⟩:=hv;have e2:cs=cs':=e.trans p;rw[e2];exact fe hv
  ·cases hv
 | .bytes cs k,h,K,hv=>by
  unfold tw at hv;refine Hn.go_elim hv (λ h' hv=>?_) λ h' hv=>?_
  ·obtain⟨bs,hb,hv⟩:=aU.1 hv;exact⟨bs,AU hb,fe hv⟩
  ·split at hv
   ·rename_i cs' bs p h2;exact⟨bs,hv.1.trans p,fe hv.2⟩
   ·cases hv
 | .stuck,_,_,hv=>by cases hv

def zu:Hn P->AS->(AS->Hn P->Prop)->Prop
 | .val t d d' _ h,s,K=>s.tm.get t=some d∧zu h {s with tm:=s.tm.set t (some d')} K
 | .blk k g b b' _ h,s,K=>s.at k=some (g,b)∧zu h {s with hp:=s.hp.set k (some (g,.b b'))} K
 | .abs _,_,_=>True
 |h,s,K=>K s h
def Ji (h:Hn P)(s:AS)(K:AS->Hn P->Prop):Prop:=h.go (λ h'=>K s h') λ h'=>zu h' s K

def vC (xn:Nat):Hn P->AS->(AS->Hn P->Prop)->Prop
 | .nils t k sz elem h,s,K=>s.tm.get t=some jI∧vC xn h (nilS s t k sz elem) K
 | .nilc k0 g0 b j k sz elem h,s,K=>s.at k0=some (g0,b)∧b.cells[j]? =some jI∧ii (!VK k0 k&&aal k&& !b.row) (vC xn h (nilC s k0 g0 b j k sz elem) K)
 | .recv k t d d' _ h,s,K=>jA (s.lat k) λ q=>q.2.tm.get t=some d∧vC xn h (recS s k q.1 q.2 t d') K
 | .frz k g b k0 g0 b0 _ h,s,K=>s.at k=some (g,b)∧s.at k0=some (g0,b0)∧ii (!VK k0 k&&VK xn 0) (vC xn h (zt s k g b k0 g0 b0) K)
 |h,s,K=>zu h s K
structure SubAS (s2 s:AS):Prop where
 tm:∀t d,s2.tm.get t=some d->s.tm.get t=some d
 hp:∀k x,s2.gat k=some x->s.gat k=some x
 us:s2.us=s.us
def AW (s:AS)(ds:List D)(f:FuncId)(nm ky:Nat):Hn P->(Option D->Up->Hn P->Prop)->Prop
 | .em _ ht hf,K=>(∀p,AW s ds f nm ky (ht p) K)∧∀p,AW s ds f nm ky (hf p) K
 | .call f' al fp b1 _ q _ _ b2 _ hin r bs _ h2,K=>f=f'∧jz s al fp ds=some (b1,q)∧jH s fp fp=some (b2,hin)∧ii (fG fp&&VN bs.length (fp.length+8)) (K (some (qL (gD fp ky) (gf s fp nm) bs r)) (g9 (gD fp ky) (gf s fp nm) 0 bs) h2)
 | .abs _,_=>True
 |_,_=>Need 4 (s,f,ds)
theorem ij {s:AS}{ds:List D}{f:FuncId}{nm ky:Nat}{K:Option D->Up->Hn P->Prop}:∀{h:Hn P},AW s ds f nm ky h K->callP P s ds f nm ky λ v up=>∃h',K v up h'
 | .em b ht hf,hv=>by
  obtain⟨h1,h2⟩:=hv
  cases hb:b with
  |true=>exact ij (h1 hb)
  |false=>exact ij (h2 hb)
 | .call f' al fp b1 p1 q q0 hq b2 p2 hin r bs hs h2,hv=>by
  subst p1 p2;obtain⟨rfl,h3,h4,h5⟩:=hv;obtain⟨h5,h6⟩:=bJ.1 h5;exact RW fp hs h3 h4 hq h5 ⟨h2,h6⟩
 | .nil,hv=>by cases hv
 | .s ..,hv=>by cases hv
 | .chk ..,hv=>by cases hv
 | .t ..,hv=>by cases hv
 | .f ..,hv=>by cases hv
 | .br ..,hv=>by cases hv
 | .opt ..,hv=>by cases hv
 | .byt ..,hv=>by cases hv
 | .val ..,hv=>by cases hv
 | .blk ..,hv=>by cases hv
 | .nils ..,hv=>by cases hv
 | .nilc ..,hv=>by cases hv
 | .frz ..,hv=>by cases hv
 | .recv ..,hv=>by cases hv
 | .loop1 ..,hv=>by cases hv
 | .loop2 ..,hv=>by cases hv
 | .loopE ..,hv=>by cases hv
 | .cut ..,hv=>by cases hv
 | .out ..,hv=>by cases hv
 | .lst ..,hv=>by cases hv
 | .two ..,hv=>by cases hv
 | .stab ..,hv=>by cases hv
 | .abs p,_=>p.elim

def zv (T:TT)(s:AS)(nm ky:Nat)(o:Oper)(h:Hn P)(K:Option D->Up->Hn P->Prop):Prop:=
 match d9 s o with
 |some p=>h.go (λ h'=>Need 5 h') λ h'=>AW s p.2 p.1 nm ky h' K
 |none=>tw (ev T s nm ky o) h K
theorem vD {T:TT}{s:AS}{nm ky:Nat}{o:Oper}{h:Hn P}{K:Option D->Up->Hn P->Prop}(hv:zv T s nm ky o h K):dM P T s nm ky o λ v up=>∃h',K v up h':=by
 unfold zv at hv;unfold dM
 cases hc:d9 s o with
 |some p=>rw[hc]at hv;exact Hn.go_elim hv (λ h' hv=>by cases hv) λ h' hv=>ij hv
 |none=>rw[hc]at hv;exact fe hv

def xD (T:TT)(nt kb:Nat)(all:List Oper)(pr:List (List Nat)):Nat->List Oper->AS->List Rec->Hn P->(AS->Hn P->Prop)->Prop
 |_,[],s,log,h,K=>qb (vy pr 0 log.reverse&&log.all dj) (K s h) (h.go (λ h'=>Need 40 (GC pr 0 log.reverse,h')) λ h'=>match h' with
  | .stab l h2=>ii (vz pr 0 log.reverse&&log.all dj) (GC pr 0 log.reverse=l.map (λ c=>(c,c))∧K s h2)
  |_=>Need 41 (GC pr 0 log.reverse,vz pr 0 log.reverse))
 |i,o::r,s,log,h,K=>ii (iM nt o) (h.go (λ h'=>xDo T nt kb all pr i o r s log h' K (xD T nt kb all pr (i+1) r)) λ h'=>h'.absOr (xDo T nt kb all pr i o r s log h' K (xD T nt kb all pr (i+1) r)))
where xDo (T:TT) (nt kb:Nat) (all:List Oper) (pr:List (List Nat)) (i:Nat) (o:Oper) (r:List Oper) (s:AS) (log:List Rec) (h:Hn P) (K:AS->Hn P->Prop) (next:AS->List Rec->Hn P->(AS->Hn P->Prop)->Prop):Prop:=
 match o.guard with
 |none=>zv T (ec s o) (s.nx+8*i) (s.nx+8*i) o h λ v up h'=>next (s.eff i (pV T s o v up)) (pV T s o v up::log) h' K
 |some jw=>match(all[jw.1]?).bind (·.dst)with
  |some t=>match s.tm.get t with
   |some (.v (.bool b))=>
    let run (c:Bool) (h:Hn P):Prop:=zv T (ec s o) (s.nx+8*i) (s.nx+8*i) o h λ v up h'=>next (AS.eff {s with tm:=s.tm.set t (some (.v (.bool c)))} i (dH T s t o v up)) (dH T s t o v up::log) h' K
    let skip (c:Bool) (h:Hn P):Prop:=next (AS.eff {s with tm:=s.tm.set t (some (.v (.bool c)))} i ⟨[t],[],o.dst,some (.tup []),[],none⟩) (⟨[t],[],o.dst,some (.tup []),[],none⟩::log) h K
    h.go (λ h'=>qb b (bif jw.2 then run true h' else skip true h') (bif jw.2 then skip false h' else run false h')) λ h'=>match h' with
     | .t b' _ h2=>b=b'∧bif jw.2 then run true h2 else skip true h2
     | .f b' _ h2=>b=b'∧bif jw.2 then skip false h2 else run false h2
     | .br b' ht hf=>b=b'∧(∀p,bif jw.2 then run true (ht p)else skip true (ht p))∧∀p,bif jw.2 then skip false (hf p)else run false (hf p)
     |_=>Need 6 b
   |some (.tup [])=>next (AS.eff s i ⟨[t],[],o.dst,some (.tup []),[],none⟩) (⟨[t],[],o.dst,some (.tup []),[],none⟩::log) h K
   |_=>Need 7 t
  |none=>False

theorem iS {T:TT}{nt kb:Nat}{all:List Oper}{pr:List (List Nat)}{K:AS->Hn P->Prop}:∀(l:List Oper) (i:Nat) (s:AS) (log:List Rec) (h:Hn P),xD T nt kb all pr i l s log h K->mF P T nt kb all pr i l s log λ s'=>∃h',K s' h'
 |[],i,s,log,h,hv=>by
  obtain⟨h1,h2⟩:=eG.1 hv
  cases hc:(vy pr 0 log.reverse&&log.all dj)with
  |true=>exact⟨.of hc,h,h1 hc⟩
  |false=>
   refine Hn.go_elim (h2 hc) (λ h' hv=>by cases hv) λ h' hv=>?_
   split at hv
   ·obtain⟨h3,h4,h5⟩:=bJ.1 hv
    refine⟨.rx h3 λ p hp=>?_,_,h5⟩;rw[h4]at hp;obtain⟨c,_,rfl⟩:=List.mem_map.1 hp;rfl
   ·cases hv
 |o::r,i,s,log,h,hv=>by
  obtain⟨hd,hv⟩:=bJ.1 hv;refine bE.2 ⟨hd,?_⟩;have key:∀h',xD.xDo T nt kb all pr i o r s log h' K (xD T nt kb all pr (i+1) r)->(match o.guard with
   |none=>dM P T (ec s o) (s.nx+8*i) (s.nx+8*i) o λ v up=>mF P T nt kb all pr (i+1) r (s.eff i (pV T s o v up)) (pV T s o v up::log) λ s'=>∃h',K s' h'
   |some jw=>match(all[jw.1]?).bind (·.dst)with
    |some t=>match s.tm.get t with
     |some (.v (.bool b))=>Mw b
      (bif jw.2 then dM P T (ec s o) (s.nx+8*i) (s.nx+8*i) o λ v up=>mF P T nt kb all pr (i+1) r (AS.eff {s with tm:=s.tm.set t (some (.v (.bool true)))} i (dH T s t o v up)) (dH T s t o v up::log) λ s'=>∃h',K s' h'
       else mF P T nt kb all pr (i+1) r (AS.eff {s with tm:=s.tm.set t (some (.v (.bool true)))} i ⟨[t],[],o.dst,some (.tup []),[],none⟩) (⟨[t],[],o.dst,some (.tup []),[],none⟩::log) λ s'=>∃h',K s' h')
      (bif jw.2 then mF P T nt kb all pr (i+1) r (AS.eff {s with tm:=s.tm.set t (some (.v (.bool false)))} i ⟨[t],[],o.dst,some (.tup []),[],none⟩) (⟨[t],[],o.dst,some (.tup []),[],none⟩::log) (λ s'=>∃h',K s' h')
       else dM P T (ec s o) (s.nx+8*i) (s.nx+8*i) o λ v up=>mF P T nt kb all pr (i+1) r (AS.eff {s with tm:=s.tm.set t (some (.v (.bool false)))} i (dH T s t o v up)) (dH T s t o v up::log) λ s'=>∃h',K s' h')
     |some (.tup [])=>mF P T nt kb all pr (i+1) r (s.eff i ⟨[t],[],o.dst,some (.tup []),[],none⟩) (⟨[t],[],o.dst,some (.tup []),[],none⟩::log) λ s'=>∃h',K s' h'
     |_=>False
    |none=>False):=by
   intro h' hv;have opm:∀{S:AS} {nm ky:Nat} {h1:Hn P} {F:Option D->Up->Hn P->Prop} {G:Option D->Up->Prop},zv T S nm ky o h1 F->(∀v up h2,F v up h2->G v up)->dM P T S nm ky o G:=λ hx hm=>jr (vD hx) λ v up ⟨h2,hF⟩=>hm v up h2 hF
   unfold xD.xDo at hv
   cases hg:o.guard with
   |none=>
    rw[hg]at hv;exact opm hv λ v up h2 hF=>iS r (i+1) _ _ h2 hF
   |some jw=>
    rw[hg]at hv;dsimp only at hv ⊢
    cases ht:(all[jw.1]?).bind (·.dst)with
    |none=>rw[ht]at hv;exact hv.elim
    |some t=>
     rw[ht]at hv;dsimp only at hv ⊢
     split at hv
     case h_3=>cases hv
     case h_2 hb=>exact iS r (i+1) _ _ h' hv
     case h_1 b hb=>
     have run:∀(c:Bool) (h:Hn P),zv T (ec s o) (s.nx+8*i) (s.nx+8*i) o h (λ v up h'=>xD T nt kb all pr (i+1) r (AS.eff {s with tm:=s.tm.set t (some (.v (.bool c)))} i (dH T s t o v up)) (dH T s t o v up::log) h' K)->dM P T (ec s o) (s.nx+8*i) (s.nx+8*i) o λ v up=>mF P T nt kb all pr (i+1) r (AS.eff {s with tm:=s.tm.set t (some (.v (.bool c)))} i (dH T s t o v up)) (dH T s t o v up::log) λ s'=>∃h',K s' h':=λ c h hx=>opm hx λ v up h2 hF=>iS r (i+1) _ _ h2 hF
     have skip:∀(c:Bool) (h:Hn P),xD T nt kb all pr (i+1) r (AS.eff {s with tm:=s.tm.set t (some (.v (.bool c)))} i ⟨[t],[],o.dst,some (.tup []),[],none⟩) (⟨[t],[],o.dst,some (.tup []),[],none⟩::log) h K->mF P T nt kb all pr (i+1) r (AS.eff {s with tm:=s.tm.set t (some (.v (.bool c)))} i ⟨[t],[],o.dst,some (.tup []),[],none⟩) (⟨[t],[],o.dst,some (.tup []),[],none⟩::log) λ s'=>∃h',K s' h':=λ c h hx=>iS r (i+1) _ _ h hx
     obtain⟨j,want⟩:=jw;refine hD.2 ⟨λ hbt=>?_,λ hbf=>?_⟩
     ·subst hbt
      refine Hn.go_elim hv (λ h1 hv=>?_) λ h1 hv=>?_
      ·have hv:=(eG.1 hv).1 rfl
       cases want with
       |true=>exact run true h1 hv
       |false=>exact skip true h1 hv
      ·split at hv
       ·obtain⟨_,hv⟩:=hv
        cases want with
        |true=>exact run true _ hv
        |false=>exact skip true _ hv
       ·rename_i b' p h2
        obtain⟨e,_⟩:=hv;rw[p]at e;cases e
       ·rename_i b' ht hf
        obtain⟨e,hv,_⟩:=hv;have hv:=hv e.symm
        cases want with
        |true=>exact run true _ hv
        |false=>exact skip true _ hv
       ·cases hv
     ·subst hbf
      refine Hn.go_elim hv (λ h1 hv=>?_) λ h1 hv=>?_
      ·have hv:=(eG.1 hv).2 rfl
       cases want with
       |true=>exact skip false h1 hv
       |false=>exact run false h1 hv
      ·split at hv
       ·rename_i b' p h2
        obtain⟨e,_⟩:=hv;rw[p]at e;cases e
       ·obtain⟨_,hv⟩:=hv
        cases want with
        |true=>exact skip false _ hv
        |false=>exact run false _ hv
       ·rename_i b' ht hf
        obtain⟨e,_,hv⟩:=hv;have hv:=hv e.symm
        cases want with
        |true=>exact skip false _ hv
        |false=>exact run false _ hv
       ·cases hv
  exact Hn.go_elim hv (λ h' hv=>key h' hv) λ h' hv=>key h' (Hn.absOr_elim hv)

theorem fK {T:TT}{nt kb:Nat}{all:List Oper}{pr:List (List Nat)}{K K':AS->Prop}:∀(l:List Oper) (i:Nat) (s:AS) (log:List Rec),mF P T nt kb all pr i l s log K->(∀s,K s->K' s)->mF P T nt kb all pr i l s log K'
 |[],i,s,log,hv,hk=>⟨hv.1,hk _ hv.2⟩
 |o::r,i,s,log,hv,hk=>by
  obtain⟨hd,hv⟩:=bE.1 hv;refine bE.2 ⟨hd,?_⟩
  cases hg:o.guard with
  |none=>rw[hg]at hv;exact jr hv λ v up h=>fK r (i+1) _ _ h hk
  |some jw=>
   rw[hg]at hv;dsimp only at hv ⊢
   cases ht:(all[jw.1]?).bind (·.dst)with
   |none=>rw[ht]at hv;exact hv.elim
   |some t=>
    rw[ht]at hv;dsimp only at hv ⊢
    split at hv
    case h_3=>exact hv.elim
    case h_2 hb=>exact fK r (i+1) _ _ hv hk
    case h_1 b hb=>
    obtain⟨h1,h2⟩:=hD.1 hv;obtain⟨j,want⟩:=jw;refine hD.2 ⟨λ e=>?_,λ e=>?_⟩
    ·have h1:=h1 e
     cases want with
     |true=>exact jr h1 λ v up h=>fK r (i+1) _ _ h hk
     |false=>exact fK r (i+1) _ _ h1 hk
    ·have h2:=h2 e
     cases want with
     |true=>exact fK r (i+1) _ _ h2 hk
     |false=>exact jr h2 λ v up h=>fK r (i+1) _ _ h hk
end

section
variable {P:Program}

abbrev XC (P:Program):=Bool->Nat->Nat->Nat->Code->AS->Hn P->(AX->AS->Hn P->Prop)->Prop
def AY (R:XC P):Prop:=∀rd nt xn kb c s h K,R rd nt xn kb c s h K->AWP P rd nt xn c s λ e s'=>∃h',K e s' h'
def AZ:AX->Bool
 | .exit _=>false
 |_=>true
theorem li {e:AX}(h:AZ e=true):e= .normal∨e= .ret:=by cases e<;>first|exact .inl rfl|exact .inr rfl|cases h
def A0 (T:TT)(s:AS):List ResultVar->Hn P->(List D->Hn P->Prop)->Prop
 |[],h,K=>K [] h
 | .tmp t::r,h,K=>jA (s.tm.get t) λ d=>A0 T s r h λ l=>K (d::l)
 | .cell t ty::r,h,K=>tw (gY T s ty (.tmp t)) h λ v _ h'=>jA v λ d=>A0 T s r h' λ l=>K (d::l)
theorem kv {T:TT}{s:AS}:∀{rs:List ResultVar} {h:Hn P} {K:List D->Hn P->Prop},A0 T s rs h K->iN T s rs λ l=>∃h',K l h'
 |[],h,_,hv=>⟨h,hv⟩
 | .tmp t::r,_,_,hv=>by
  obtain⟨d,hd,hv⟩:=aU.1 hv;exact aU.2 ⟨d,hd,kv hv⟩
 | .cell t ty::r,_,_,hv=>Ev.vc_mono (fe hv) λ v _ ⟨h',hv⟩=>by
  obtain⟨d,hd,hv⟩:=aU.1 hv;exact aU.2 ⟨d,hd,kv hv⟩
def UC (T:TT)(R:XC P)(f:FuncId)(ds:List D)(xn nx kb:Nat)(hp:Tr (Nat×Ob))(h:Hn P)(K:List D->AS->Hn P->Prop):Prop:=
 jA P.funcs[f]? λ fn=>jA fn.body λ c=>ii (!(fn.name== "runtime.NumGoroutine")) (R false fn.ntmps xn kb c {tm:=mh 0 ds,hp:=hp,nx:=nx,us:=[]} h λ e s' h2=>ii (AZ e) (A0 T s' fn.results.toList h2 λ l h3=>K l s' h3))

def EF (o:Oper):Option Call:=match o.op with
 | .call c=>match c.callee with
  | .builtin .append=>some c
  |_=>none
 |_=>none
theorem zw {o:Oper}{c:Call}(h:EF o=some c):o.op= .call c∧c.callee= .builtin .append:=by
 unfold EF at h
 split at h
 ·split at h
  ·cases h;exact⟨by assumption,by assumption⟩
  ·cases h
 ·cases h
def xO (T:TT)(R:XC P)(nt kb i:Nat)(o:Oper)(s:AS)(h:Hn P)(K:AS->Hn P->Prop):Prop:=
 match wR s o with
 |some p=>jA (s.lat p.1) λ q=>ii (VK q.1 p.2.1&&ku q.2.st&&VK p.2.2.length q.2.params.size&&q.2.params.toList.all λ t=>XS t q.2.nt) (R true q.2.nt (s.nx+8*(i+1)) (kb+8*(nt+1)) q.2.assign {tm:=wQ q.2.params.toList p.2.2 q.2.tm,hp:=s.hp,nx:=s.nx+8*(i+1),us:=[]} h λ e s1 h1=>ii (gE e)
   (recP s1 p.1 p.2.1 (λ r=>ku r.st) (λ r=>{r with st:=.busy}) λ _ s2=>R true q.2.nt (s.nx+8*(i+1)) (kb+8*(nt+1)) q.2.body s2 h1 λ e s3 h3=>
    recP s3 p.1 p.2.1 (λ _=>true) (λ r=>{r with st:=bif gE e then .ready else .done,pend:=lf e}) λ _ s4=>K {tm:=ea s.tm o.dst (some (.v (.bool (gE e)))),hp:=s4.hp,nx:=s4.nx,us:=[]} h3))
 |none=>match d9 s o with
  |some p=>h.go (λ h'=>UC T R p.1 p.2 (s.nx+8*(i+1)) (s.nx+8*(i+1)) (kb+8*(nt+1)) s.hp h' λ l s' h2=>K {tm:=ea s.tm o.dst (some (s8 l)),hp:=s'.hp,nx:=s'.nx,us:=[]} h2)
    λ h'=>AW s p.2 p.1 (s.nx+8*i) (s.nx+8*i) h' λ v up h2=>K {s with tm:=ea s.tm o.dst v,hp:=fW up s.hp,us:=i::s.us} h2
  |none=>match EF o with
   |some c=>h.fork (tw (ev T s (s.nx+8*i) (s.nx+8*i) o) h λ v up h2=>K {s with tm:=ea s.tm o.dst v,hp:=fW up s.hp,us:=i::s.us} h2) λ h1 h2=>match Es T s (s.nx+8*i) (s.nx+8*i) c.argTypes c.args with
    |some (b,(v1,u1),(v2,u2))=>ii b (K {s with tm:=ea s.tm o.dst (some v1),hp:=fW u1 s.hp,us:=i::s.us} h1∧K {s with tm:=ea s.tm o.dst (some v2),hp:=fW u2 s.hp,us:=i::s.us} h2)
    |none=>Need 24 ()
   |none=>tw (ev T s (s.nx+8*i) (s.nx+8*i) o) h λ v up h2=>K {s with tm:=ea s.tm o.dst v,hp:=fW up s.hp,us:=i::s.us} h2

theorem AWP.ex {rd:Bool}{nt xn:Nat}{c:Code}{s:AS}{K:AX->AS->Hn P->Prop}{G:AX->AS->Prop}(h:AWP P rd nt xn c s λ e s'=>∃h',K e s' h')(hk:∀e s' h',K e s' h'->G e s'):AWP P rd nt xn c s G:=h.mono λ e s' ⟨h',hK⟩=>hk e s' h' hK
theorem fL {T:TT}{s:AS}:∀{rs:List ResultVar} {K K':List D->Prop},iN T s rs K->(∀l,K l->K' l)->iN T s rs K'
 |[],_,_,h,hk=>hk _ h
 | .tmp t::r,_,_,h,hk=>by
  obtain⟨d,hd,h⟩:=aU.1 h;exact aU.2 ⟨d,hd,fL h λ l=>hk _⟩
 | .cell t ty::r,_,_,h,hk=>Ev.vc_mono h λ v _ h=>by
  obtain⟨d,hd,h⟩:=aU.1 h;exact aU.2 ⟨d,hd,fL h λ l=>hk _⟩
theorem lj {s:AS}{k g:Nat}{ok:LRec->Bool}{to:LRec->LRec}{K K':LRec->AS->Prop}(h:recP s k g ok to K)(hk:∀r s',K r s'->K' r s'):recP s k g ok to K':=by
 obtain⟨p,hp,h⟩:=aU.1 h;obtain⟨hc,h⟩:=bE.1 h;exact aU.2 ⟨p,hp,bE.2 ⟨hc,hk _ _ h⟩⟩

theorem tz {T:TT}{R:XC P}(hR:AY R){nt kb i:Nat}{o:Oper}{s:AS}{h:Hn P}{K:AS->Hn P->Prop}{G:AS->Prop}(hv:xO T R nt kb i o s h K)(hk:∀s' h',K s' h'->G s'):Rm P T nt kb i o s G:=by
 unfold xO at hv;unfold Rm
 cases hy:wR s o with
 |some p=>
  rw[hy]at hv;dsimp only at hv ⊢;obtain⟨q,hq,hv⟩:=aU.1 hv;obtain⟨hc,hv⟩:=bJ.1 hv;refine aU.2 ⟨q,hq,bE.2 ⟨hc,?_⟩⟩;refine(hR _ _ _ _ _ _ _ _ hv).ex λ e s1 h1 hv=>?_
  obtain⟨hn,hv⟩:=bJ.1 hv;refine⟨(by cases e<;>first|rfl|(cases hn)),lj hv λ _ s2 hv=>?_⟩;refine(hR _ _ _ _ _ _ _ _ hv).ex λ e s3 h3 hv=>?_
  exact lj hv λ _ s4 hv=>hk _ _ hv
 |none=>
  rw[hy]at hv;dsimp only at hv ⊢
  cases hc:d9 s o with
  |some p=>
   rw[hc]at hv;dsimp only at hv ⊢;refine Hn.go_elim hv (λ h' hv=>?_) λ h' hv=>?_
   ·obtain⟨fn,hf,hv⟩:=aU.1 hv
    obtain⟨c,hb,hv⟩:=aU.1 hv;obtain⟨hn,hv⟩:=bJ.1 hv;refine RX hf hb (rs:=fn.results.toList) rfl (by simpa using hn) ?_;refine(hR _ _ _ _ _ _ _ _ hv).ex λ e s' h2 hv=>?_
    obtain⟨he,hv⟩:=bJ.1 hv;exact⟨li he,fL (kv hv) λ l ⟨_,hl⟩=>hk _ _ hl⟩
   ·have hx:=ij hv
    obtain⟨al,fp,q,hin,r,bs,h1,h2,h4,h5,h6,h7⟩:=hx.h;exact⟨.inl ⟨al,fp,q,hin,r,bs,h1,h2,h4,h5,hk _ _ h7⟩⟩
  |none=>
   rw[hc]at hv;dsimp only at hv
   cases ha:EF o with
   |none=>
    rw[ha]at hv;exact .inr (Ev.vc_mono (fe hv) λ v up ⟨h2,hK⟩=>hk _ _ hK)
   |some c=>
    rw[ha]at hv;dsimp only at hv;refine Hn.fork_elim hv (λ hv=>.inr (Ev.vc_mono (fe hv) λ v up ⟨h2,hK⟩=>hk _ _ hK)) λ h1 h2 hv=>?_
    obtain⟨q1,q2⟩:=zw ha
    split at hv
    ·rename_i b v1 u1 v2 u2 he
     obtain⟨rfl,hv1,hv2⟩:=bJ.1 hv;exact .inl ⟨c,v1,u1,v2,u2,q1,q2,he,hk _ _ hv1,hk _ _ hv2⟩
    ·cases hv

def xL (T:TT)(R:XC P)(nt kb:Nat)(all:List Oper):Nat->List Oper->AS->Hn P->(AS->Hn P->Prop)->Prop
 |_,[],s,h,K=>K s h
 |i,o::r,s,h,K=>ii (iM nt o) (Ji h s λ s h=>xLo T R nt kb all i o s h K (xL T R nt kb all (i+1) r))
where xLo (T:TT) (R:XC P) (nt kb:Nat) (all:List Oper) (i:Nat) (o:Oper) (s:AS) (h:Hn P) (K:AS->Hn P->Prop) (next:AS->Hn P->(AS->Hn P->Prop)->Prop):Prop:=
 match o.guard with
 |none=>xO T R nt kb i o s h λ s' h'=>next s' h' K
 |some jw=>match(all[jw.1]?).bind (·.dst)with
  |some t=>match s.tm.get t with
   |some (.v (.bool b))=>
    let run (c:Bool) (h:Hn P):Prop:=xO T R nt kb i o {s with tm:=s.tm.set t (some (.v (.bool c)))} h λ s' h'=>next s' h' K
    let skip (c:Bool) (h:Hn P):Prop:=next {s with tm:=ea (s.tm.set t (some (.v (.bool c)))) o.dst (some (.tup [])),us:=i::s.us} h K
    h.go (λ h'=>qb b (bif jw.2 then run true h' else skip true h') (bif jw.2 then skip false h' else run false h')) λ h'=>match h' with
     | .t b' _ h2=>b=b'∧bif jw.2 then run true h2 else skip true h2
     | .f b' _ h2=>b=b'∧bif jw.2 then skip false h2 else run false h2
     | .br b' ht hf=>b=b'∧(∀p,bif jw.2 then run true (ht p)else skip true (ht p))∧∀p,bif jw.2 then skip false (hf p)else run false (hf p)
     |_=>Need 6 b
   |some (.tup [])=>next {s with tm:=ea s.tm o.dst (some (.tup [])),us:=i::s.us} h K
   |_=>Need 7 t
  |none=>False

theorem SR.val {cx:Cx}{E:Env}{s:AS}{a:Act}{w:World}(h:SR cx E s a w){t:Nat}{d:D}(ht:s.tm.get t=some d):SR cx E {s with tm:=s.tm.set t (some d)} a w:=by
 refine{h with fr:=λ t' d' hd=>?_};rcases Xb hd with⟨rfl,hv⟩|⟨_,hd⟩
 ·cases hv;exact h.fr t' _ ht
 ·exact h.fr t' d' hd
theorem SR.sub {cx:Cx}{E:Env}{s s2:AS}{a:Act}{w:World}(h:SR cx E s a w)(htm:s2.tm=s.tm)(hg:∀k x,s2.gat k=some x->s.gat k=some x)(hnx:s2.nx=s.nx)(hus:s2.us=s.us):SR cx E s2 a w∧Mut s s2 E E w w:=by
 refine⟨{h with
  fr:=λ t d hd=>h.fr t d (by rw[<-htm];exact hd)
  hp:=λ k g b hk=>h.hp k g b (AS.at_iff.2 (hg _ _ (AS.at_iff.1 hk)))
  lp:=λ k g b hk=>h.lp k g b (AS.lat_iff.2 (hg _ _ (AS.lat_iff.1 hk)))
  inj:=λ k k' g g' o o' hkk h1 h2=>h.inj k k' g g' o o' hkk (hg _ _ h1) (hg _ _ h2)
  low:=λ x ⟨k,g,o,hk,hx⟩=>h.low x ⟨k,g,o,hg _ _ hk,hx⟩
  nm:=λ g hg=>by rw[hnx,hus];exact h.nm g hg},⟨λ _ _ h _=>h,λ _ _ _=>rfl,λ x _ ⟨k,g,o,hk,hx⟩=>⟨k,g,o,hg _ _ hk,hx⟩⟩⟩
theorem jT {cx:Cx}{E:Env}{a:Act}{w:World}{K:AS->Hn P->Prop}:∀(h:Hn P) (s:AS),SR cx E s a w->zu h s K->∃s2 h2,K s2 h2∧SR cx E s2 a w∧Mut s s2 E E w w∧s2.us=s.us
 | .val t d d' p h,s,hs,hv=>by
  subst p;obtain⟨h1,hv⟩:=hv;obtain⟨s2,h2,q1,q2,q3,q4⟩:=jT h _ (hs.val h1) hv;exact⟨s2,h2,q1,q2,⟨q3.own,q3.heap,q3.old⟩,q4⟩
 | .blk k g b b' p h,s,hs,hv=>by
  subst p;obtain⟨h1,hv⟩:=hv;obtain⟨r1,r2⟩:=hs.sub (s2:={s with hp:=s.hp.set k (some (g,.b b))}) rfl (λ k' x hk=>by
   rcases Xb hk with⟨rfl,e⟩|⟨_,hk⟩
   ·cases e;exact AS.at_iff.1 h1
   ·exact hk) rfl rfl
  obtain⟨s2,h2,q1,q2,q3,q4⟩:=jT h _ r1 hv;exact⟨s2,h2,q1,q2,r2.trans q3 (VT _),q4⟩
 | .nil,s,hs,hv=>⟨s,_,hv,hs,Mut.refl s E w,rfl⟩
 | .s ..,s,hs,hv=>⟨s,_,hv,hs,Mut.refl s E w,rfl⟩
 | .chk ..,s,hs,hv=>⟨s,_,hv,hs,Mut.refl s E w,rfl⟩
 | .t ..,s,hs,hv=>⟨s,_,hv,hs,Mut.refl s E w,rfl⟩
 | .f ..,s,hs,hv=>⟨s,_,hv,hs,Mut.refl s E w,rfl⟩
 | .br ..,s,hs,hv=>⟨s,_,hv,hs,Mut.refl s E w,rfl⟩
 | .opt ..,s,hs,hv=>⟨s,_,hv,hs,Mut.refl s E w,rfl⟩
 | .byt ..,s,hs,hv=>⟨s,_,hv,hs,Mut.refl s E w,rfl⟩
 | .call ..,s,hs,hv=>⟨s,_,hv,hs,Mut.refl s E w,rfl⟩
 | .loop1 ..,s,hs,hv=>⟨s,_,hv,hs,Mut.refl s E w,rfl⟩
 | .loop2 ..,s,hs,hv=>⟨s,_,hv,hs,Mut.refl s E w,rfl⟩
 | .loopE ..,s,hs,hv=>⟨s,_,hv,hs,Mut.refl s E w,rfl⟩
 | .nils ..,s,hs,hv=>⟨s,_,hv,hs,Mut.refl s E w,rfl⟩
 | .nilc ..,s,hs,hv=>⟨s,_,hv,hs,Mut.refl s E w,rfl⟩
 | .recv ..,s,hs,hv=>⟨s,_,hv,hs,Mut.refl s E w,rfl⟩
 | .frz ..,s,hs,hv=>⟨s,_,hv,hs,Mut.refl s E w,rfl⟩
 | .em ..,s,hs,hv=>⟨s,_,hv,hs,Mut.refl s E w,rfl⟩
 | .lst ..,s,hs,hv=>⟨s,_,hv,hs,Mut.refl s E w,rfl⟩
 | .two ..,s,hs,hv=>⟨s,_,hv,hs,Mut.refl s E w,rfl⟩
 | .stab ..,s,hs,hv=>⟨s,_,hv,hs,Mut.refl s E w,rfl⟩
 | .abs p,_,_,_=>p.elim
 | .cut ..,s,hs,hv=>⟨s,_,hv,hs,Mut.refl s E w,rfl⟩
 | .out ..,s,hs,hv=>⟨s,_,hv,hs,Mut.refl s E w,rfl⟩
theorem bq {xn:Nat}{K:AS->Hn P->Prop}:∀(h:Hn P) (s:AS),zu h s K->∃s2 h2,K s2 h2∧mH xn s s2
 | .val t d d' p h,s,hv=>by
  subst p;obtain⟨h1,hv⟩:=hv;obtain⟨s2,h2,q1,q2⟩:=bq h _ hv;exact⟨s2,h2,q1,mH.trans (λ cx E a w _ hs hu=>⟨E,hs.val h1,Stp.refl E w,⟨λ _ _ h _=>h,λ _ _ _=>rfl,λ _ _ h=>h⟩,hu⟩) q2⟩
 | .blk k g b b' p h,s,hv=>by
  subst p;obtain⟨h1,hv⟩:=hv;obtain⟨s2,h2,q1,q2⟩:=bq h _ hv;refine⟨s2,h2,q1,mH.trans (λ cx E a w _ hs hu=>?_) q2⟩;obtain⟨r1,r2⟩:=hs.sub (s2:={s with hp:=s.hp.set k (some (g,.b b))}) rfl (λ k' x hk=>by
   rcases Xb hk with⟨rfl,e⟩|⟨_,hk⟩
   ·cases e;exact AS.at_iff.1 h1
   ·exact hk) rfl rfl
  exact⟨E,r1,Stp.refl E w,r2,hu⟩
 | .nil,s,hv=>⟨s,_,hv,.refl s⟩
 | .s ..,s,hv=>⟨s,_,hv,.refl s⟩
 | .chk ..,s,hv=>⟨s,_,hv,.refl s⟩
 | .t ..,s,hv=>⟨s,_,hv,.refl s⟩
 | .f ..,s,hv=>⟨s,_,hv,.refl s⟩
 | .br ..,s,hv=>⟨s,_,hv,.refl s⟩
 | .opt ..,s,hv=>⟨s,_,hv,.refl s⟩
 | .byt ..,s,hv=>⟨s,_,hv,.refl s⟩
 | .call ..,s,hv=>⟨s,_,hv,.refl s⟩
 | .loop1 ..,s,hv=>⟨s,_,hv,.refl s⟩
 | .loop2 ..,s,hv=>⟨s,_,hv,.refl s⟩
 | .loopE ..,s,hv=>⟨s,_,hv,.refl s⟩
 | .nils ..,s,hv=>⟨s,_,hv,.refl s⟩
 | .nilc ..,s,hv=>⟨s,_,hv,.refl s⟩
 | .em ..,s,hv=>⟨s,_,hv,.refl s⟩
 | .lst ..,s,hv=>⟨s,_,hv,.refl s⟩
 | .two ..,s,hv=>⟨s,_,hv,.refl s⟩
 | .stab ..,s,hv=>⟨s,_,hv,.refl s⟩
 | .abs p,_,_=>p.elim
 | .recv ..,s,hv=>⟨s,_,hv,.refl s⟩
 | .frz ..,s,hv=>⟨s,_,hv,.refl s⟩
 | .cut ..,s,hv=>⟨s,_,hv,.refl s⟩
 | .out ..,s,hv=>⟨s,_,hv,.refl s⟩
theorem gG {xn:Nat}{K:AS->Hn P->Prop}:∀(h:Hn P) (s:AS),vC xn h s K->∃s2 h2,K s2 h2∧mH xn s s2
 | .nils t k sz elem h,s,hv=>by
  obtain⟨h1,hv⟩:=hv;obtain⟨s2,h2,q1,q2⟩:=gG h _ hv;exact⟨s2,h2,q1,(mH.nilS h1).trans q2⟩
 | .nilc k0 g0 b j k sz elem h,s,hv=>by
  obtain⟨h1,h2,hv⟩:=hv;obtain⟨hc,hv⟩:=bJ.1 hv;simp only[VO,Xs]at hc;obtain⟨⟨c1,c2⟩,c3⟩:=hc;obtain⟨s2,h3,q1,q2⟩:=gG h _ hv;exact⟨s2,h3,q1,(mH.nilC h1 (λ e=>by subst e;simp at c1) c2 c3 h2).trans q2⟩
 | .frz k g b k0 g0 b0 p h,s,hv=>by
  obtain⟨h1,h2,hv⟩:=hv;obtain⟨hc,hv⟩:=bJ.1 hv;simp only[VO,Xs]at hc;obtain⟨c1,c3⟩:=hc;have e:=VQ c3;subst e;obtain⟨s2,h3,q1,q2⟩:=gG h _ hv;exact⟨s2,h3,q1,(mH.frz h1 h2 (λ e=>by subst e;simp at c1) p).trans q2⟩
 | .recv k t d d' p h,s,hv=>by
  subst p;obtain⟨q,hq,h1,hv⟩:=aU.1 hv;obtain⟨s2,h2,q1,q2⟩:=gG h _ hv;exact⟨s2,h2,q1,(mH.recS hq h1).trans q2⟩
 | .val ..,s,hv=>bq _ s hv
 | .blk ..,s,hv=>bq _ s hv
 | .nil,s,hv=>bq _ s hv
 | .em ..,s,hv=>bq _ s hv
 | .lst ..,s,hv=>bq _ s hv
 | .two ..,s,hv=>bq _ s hv
 | .stab ..,s,hv=>bq _ s hv
 | .abs p,_,_=>p.elim
 | .s ..,s,hv=>bq _ s hv
 | .chk ..,s,hv=>bq _ s hv
 | .t ..,s,hv=>bq _ s hv
 | .f ..,s,hv=>bq _ s hv
 | .br ..,s,hv=>bq _ s hv
 | .opt ..,s,hv=>bq _ s hv
 | .byt ..,s,hv=>bq _ s hv
 | .call ..,s,hv=>bq _ s hv
 | .loop1 ..,s,hv=>bq _ s hv
 | .loop2 ..,s,hv=>bq _ s hv
 | .loopE ..,s,hv=>bq _ s hv
 | .cut ..,s,hv=>bq _ s hv
 | .out ..,s,hv=>bq _ s hv
theorem nZ {cx:Cx}{E:Env}{a:Act}{w:World}{K:AS->Hn P->Prop}{h:Hn P}{s:AS}(hs:SR cx E s a w)(hv:Ji h s K):∃s2 h2,K s2 h2∧SR cx E s2 a w∧Mut s s2 E E w w∧s2.us=s.us:=
 Hn.go_elim hv (λ h' hv=>⟨s,h',hv,hs,Mut.refl s E w,rfl⟩) λ h' hv=>jT h' s hs hv

theorem tA {cx:Cx}{T:TT}{R:XC P}{F:Fence}{n kb:Nat}(hF:FOK F)(hT:T.ok P)(hR:AY R){all:List Oper}{Q:Exit->Act->World->Prop}{K:AS->Hn P->Prop}:∀(l:List Oper) (i:Nat) (s:AS) (h:Hn P) (E:Env) (a:Act) (w:World),SR cx E s a w->(∀k∈s.us,k<i)->xL T R cx.nt kb all i l s h K->
  (∀s' h' E' a' w',K s' h'->SR cx E' s' a' w'->Stp E E' w w'->Mut s s' E E' w w'->(∀k∈s'.us,k<i+l.length)->Q .normal a' w')->wpListIn F n P all.toArray Q l a w
 |[],i,s,h,E,a,w,hs,hus,hv,hQ=>hQ s h E a w hv hs (Stp.refl E w) (Mut.refl s E w) (by simpa using hus)
 |o::r,i,s0,h0,E,a,w,hs0,hus0,hv,hQ=>by
  obtain⟨hd,hv⟩:=bJ.1 hv;obtain⟨s,h,hv,hs,hmut0,hus1⟩:=nZ hs0 hv;have hus:∀k∈s.us,k<i:=by rw[hus1];exact hus0
  have hlen:i+(o::r).length=i+1+r.length:=by simp only[Wj];omega
  rw[hlen]at hQ;have hi:i∉s.us:=λ hh=>Nat.lt_irrefl _ (hus i hh)
  have hus':∀k∈i::s.us,k<i+1:=λ k hk=>by
   rcases List.mem_cons.1 hk with rfl|hk
   ·omega
   ·have:=hus k hk;omega
  have next:∀(s1:AS) (h1:Hn P) (E1:Env) (a1:Act) (w1:World),SR cx E1 s1 a1 w1->Stp E E1 w w1->Mut s s1 E E1 w w1->(∀k∈s1.us,k<i+1)->xL T R cx.nt kb all (i+1) r s1 h1 K->wpListIn F n P all.toArray Q r a1 w1:=λ s1 h1 E1 a1 w1 bM hst hmut hu1 hv1=>
   tA hF hT hR r (i+1) s1 h1 E1 a1 w1 bM hu1 hv1 λ s' h' E' a' w' hK hs' hst' hmut' hu'=>hQ s' h' E' a' w' hK hs' (hst.trans hst') ((hmut0.trans hmut (VT _)).trans hmut' hst.size) hu'
  unfold xL.xLo at hv;unfold wpListIn
  cases hg:o.guard with
  |none=>
   rw[hg]at hv;simp only[Ye,hg,if_true];exact pL hF hT hs hus hd (tz (G:=λ s'=>∃h',xL T R cx.nt kb all (i+1) r s' h' K) hR hv λ s' h' hx=>⟨h',hx⟩) λ s' E' a' w' ⟨h',hK⟩ hs' hst hmut hu'=>next s' h' E' a' w' hs' hst hmut hu' hK
  |some jw=>
   obtain⟨j,want⟩:=jw;rw[hg]at hv;dsimp only at hv
   split at hv
   case h_2=>exact hv.elim
   case h_1 t ht=>
   split at hv
   case h_3=>cases hv
   case h_2 hb=>
    have hy:=nU hs ht hb;simp only[Ye,hg,hy];rw[ZE (by simp)];exact⟨λ f _=>hF.fn f,next _ h E _ w (cP (s:={s with us:=i::s.us}) (hs.us i) hd (v:=some (.tup [])) nT) (Stp.refl E w) ⟨λ _ _ h _=>h,λ _ _ _=>rfl,λ _ _ h=>h⟩ hus' hv⟩
   case h_1 b hb=>
   have hy:=jS hs ht hb;simp only[Ye,hg,hy];have run:∀c h,b=c->c=want->xO T R cx.nt kb i o {s with tm:=s.tm.set t (some (.v (.bool c)))} h (λ s' h'=>xL T R cx.nt kb all (i+1) r s' h' K)->(if(some b==some want)=true then o.wpIn F n P a w (wpListIn F n P all.toArray Q r) Q else(∀f,o.about P w a.eval=some f->F.fn f)∧wpListIn F n P all.toArray Q r (a.put o.dst undef) w):=λ c h hbc hcw hv=>by
    rw[ZF (by rw[hbc,hcw];simp)];exact pL hF hT (hs.know hb hbc) hus hd (tz (G:=λ s'=>∃h',xL T R cx.nt kb all (i+1) r s' h' K) hR hv λ s' h' hx=>⟨h',hx⟩) λ s' E' a' w' ⟨h',hK⟩ hs' hst hmut hu'=>next s' h' E' a' w' hs' hst ⟨hmut.own,hmut.heap,hmut.old⟩ hu' hK
   have skip:∀c h,b=c->c≠want->xL T R cx.nt kb all (i+1) r {s with tm:=ea (s.tm.set t (some (.v (.bool c)))) o.dst (some (.tup [])),us:=i::s.us} h K->(if(some b==some want)=true then o.wpIn F n P a w (wpListIn F n P all.toArray Q r) Q else(∀f,o.about P w a.eval=some f->F.fn f)∧wpListIn F n P all.toArray Q r (a.put o.dst undef) w):=λ c h hbc hcw hv=>by
    rw[ZE (by rw[hbc];simpa using hcw)];exact⟨λ f _=>hF.fn f,next _ h E _ w (cP (s:={s with tm:=s.tm.set t (some (.v (.bool c))),us:=i::s.us}) ((hs.know hb hbc).us i) hd (v:=some (.tup [])) nT) (Stp.refl E w) ⟨λ _ _ h _=>h,λ _ _ _=>rfl,λ _ _ h=>h⟩ hus' hv⟩
   cases b with
   |true=>
    refine Hn.go_elim hv (λ h1 hv=>?_) λ h1 hv=>?_
    ·have hv:=(eG.1 hv).1 rfl
     cases want with
     |true=>exact run true h1 rfl rfl hv
     |false=>exact skip true h1 rfl (by simp) hv
    ·split at hv
     ·obtain⟨_,hv⟩:=hv
      cases want with
      |true=>exact run true _ rfl rfl hv
      |false=>exact skip true _ rfl (by simp) hv
     ·rename_i b' p h2
      obtain⟨e,_⟩:=hv;rw[p]at e;cases e
     ·rename_i b' ht hf
      obtain⟨e,hv,_⟩:=hv;have hv:=hv e.symm
      cases want with
      |true=>exact run true _ rfl rfl hv
      |false=>exact skip true _ rfl (by simp) hv
     ·cases hv
   |false=>
    refine Hn.go_elim hv (λ h1 hv=>?_) λ h1 hv=>?_
    ·have hv:=(eG.1 hv).2 rfl
     cases want with
     |true=>exact skip false h1 rfl (by simp) hv
     |false=>exact run false h1 rfl rfl hv
    ·split at hv
     ·rename_i b' p h2
      obtain⟨e,_⟩:=hv;rw[p]at e;cases e
     ·obtain⟨_,hv⟩:=hv
      cases want with
      |true=>exact skip false _ rfl (by simp) hv
      |false=>exact run false _ rfl rfl hv
     ·rename_i b' ht hf
      obtain⟨e,_,hv⟩:=hv;have hv:=hv e.symm
      cases want with
      |true=>exact skip false _ rfl (by simp) hv
      |false=>exact run false _ rfl rfl hv
     ·cases hv

def MD (K:AX->AS->Hn P->Prop)(s:AS)(h:Hn P):Option Code->Prop
 |none=>K .normal s h
 |some .ret=>K .ret s h
 |some (.exit id)=>K (.exit id) s h
 |_=>False
def Jj (R:XC P)(rd:Bool)(nt xn kb:Nat)(c:Code):Nat->AS->Hn P->(AX->AS->Hn P->Prop)->Prop
 |0,_,_,_=>Need 8 ()
 |m+1,s,h,K=>R rd nt xn kb c s h λ e s' h'=>match e with
  | .normal=>Jj R rd nt xn kb c m s' h' K
  |e=>K e s' h'
theorem n5 {R:XC P}(hR:AY R){rd:Bool}{nt xn kb:Nat}{c:Code}{K:AX->AS->Hn P->Prop}:∀(m:Nat) (s:AS) (h:Hn P),Jj R rd nt xn kb c m s h K->AWPr P rd nt xn c m s λ e s'=>∃h',K e s' h'
 |0,s,h,hv=>by cases hv
 |m+1,s,h,hv=>AWPr.step ((hR _ _ _ _ _ _ _ _ hv).ex λ e s' h' hv=>by
  cases e with
  |normal=>exact n5 hR m s' h' hv
  |exit id=>exact⟨h',hv⟩
  |ret=>exact⟨h',hv⟩)
def Jk {α:Type}:List α->Bool
 |[]=>true
 |_=>false
def A1 (s:AS)(xn:Nat)(d:CutS)(X:Prop):Prop:=Ro s (κE d.es) (γE d.es) d.tm∧Rq s (κE d.es) (γE d.es) d.es∧ii (d.ok xn&&Jk s.us) X
theorem ik {s:AS}{xn:Nat}{d:CutS}{X:Prop}(h:A1 s xn d X)(hr:ig d):CutE s xn d∧X:=by
 obtain⟨h1,h2,h3⟩:=h;obtain⟨h3,h4⟩:=bJ.1 h3;rw[VO]at h3;refine⟨⟨h1,h2,h3.1,hr,?_⟩,h4⟩
 cases hu:s.us with
 |nil=>rfl
 |cons x r=>rw[hu]at h3;cases h3.2

def RZ (R:XC P)(m:Nat)(rd:Bool)(nt xn kb:Nat)(c:Code)(s:AS)(h:Hn P)(K:AX->AS->Hn P->Prop)(E:AS->Hn P->Prop):Prop:=
 h.goL (λ h'=>Jj R rd nt xn kb c m s h' K) λ h'=>vC xn h' s λ s h'=>match h' with
  | .loop1 rd' nt' xn' c' d _ e1 s1 _ h2=>(rd,nt,xn)=(rd',nt',xn')∧c=c'∧A1 s xn d (K e1 s1 h2)
  | .loop2 rd' nt' xn' c' d _ e1 s1 e2 s2 _ h1 h2=>(rd,nt,xn)=(rd',nt',xn')∧c=c'∧A1 s xn d (K e1 s1 h1∧K e2 s2 h2)
  | .loopE rd' nt' xn' c' d _ es _ hs=>(rd,nt,xn)=(rd',nt',xn')∧c=c'∧A1 s xn d (tn es λ i x=>K (fJ es i).e ((fJ es i).S x).st (hs i x))
  | .two h1 _=>E s h1∧True
  |h'=>Need 12 (((rd,nt,xn),(c,s)),h')
theorem qc {R:XC P}(hR:AY R){m:Nat}{rd:Bool}{nt xn kb:Nat}{c:Code}{s:AS}{h:Hn P}{K:AX->AS->Hn P->Prop}{E:AS->Hn P->Prop}(hE:∀s h,E s h->AWPl P rd nt xn c s λ e s'=>∃h',K e s' h')(hv:RZ R m rd nt xn kb c s h K E):AWPl P rd nt xn c s λ e s'=>∃h',K e s' h':=by
 refine Hn.goL_elim hv (λ h1 hv=>?_) λ h1 hv=>?_
 ·exact AWPl.rounds (n5 hR m s h1 hv)
 ·obtain⟨s2,h2',hv,hret⟩:=gG _ _ hv
  refine AWPl.ret hret ?_
  split at hv
  ·rename_i rd' nt' xn' c' d rows e1 s1 hl h2
   obtain⟨he,rfl,hv⟩:=hv
   cases he
   obtain⟨hc,hv⟩:=ik hv rows;refine AWPl.cutStart hc (hl.mono λ e s' ⟨q1,q2⟩=>?_);subst q1 q2;exact⟨_,hv⟩
  ·rename_i rd' nt' xn' c' d rows e1 s1 e2 s2 hl h1' h2
   obtain⟨he,rfl,hv⟩:=hv
   cases he
   obtain⟨hc,hv1,hv2⟩:=ik hv rows;refine AWPl.cutStart hc (hl.mono λ e s' hq=>?_);rcases hq with⟨q1,q2⟩|⟨q1,q2⟩
   ·subst q1 q2;exact⟨_,hv1⟩
   ·subst q1 q2;exact⟨_,hv2⟩
  ·rename_i rd' nt' xn' c' d rows es hl hs'
   obtain⟨he,rfl,hv⟩:=hv
   cases he
   obtain⟨hc,hv⟩:=ik hv rows;exact AWPl.cutStart hc (hl.mono λ e s' hq=>tu (G:=λ e s'=>∃h',K e s' h') hv (λ i x hx=>⟨_,hx⟩) hq)
  ·exact hE _ _ hv.1
  ·cases hv
section
variable {F:Fence} {n:Nat} {P:Program} {b:Frame} {a:Act} {k:List Item} {cs:List Frame} {w:World} {Q:Exit->Act->World->Prop}
theorem dT {c:Code}:step P (lone (b.atR a (.code (.scope c)::k)) cs w)= .next (lone (b.atR a (.code c:: .inScope c::k)) cs w):=
 step_lone_go (by simp[stepG,stepG.exec,Frame.atR])
theorem pn {c:Code}:step P (lone (b.atR a (.inScope c::k)) cs w)= .next (lone (b.atR a k) cs w):=
 step_lone_go (by simp[stepG,stepG.exec,Frame.atR])
def Jl (Q:Exit->Act->World->Prop):Exit->Act->World->Prop
 | .goto _,_,_=>False
 |e,a,w=>Q e a w
theorem vE {c:Code}(h:c.wpIn F n P (Jl Q) a w):(Code.scope c).wpIn F n P Q a w:=by
 intro b k cs hro hb hr;have h0:(lone (b.atR a (.code (.scope c)::k)) cs w).fenced P F:=fenced_calm hb hr rfl;obtain⟨e,a₁,w₁,hq,harr⟩:=h b (.inScope c::k) cs hro hb hr
 cases e with
 |normal=>exact⟨.normal,a₁,w₁,hq,.head h0 dT (StepsIn.trans harr (.one (fenced_calm hb hr rfl) pn))⟩
 |exit id=>
  have hx:exitTo id (.inScope c::k)=exitTo id k:=by simp[exitTo]
  exact⟨.exit id,a₁,w₁,hq,λ k' hk=>.head h0 dT (harr.1 k' (by rw[hx];exact hk)),
   λ hr' hk=>let⟨k₁,h1,h2⟩:=harr.2 hr' (by rw[hx];exact hk);⟨k₁,h1,.head h0 dT h2⟩⟩
 |goto l=>exact hq.elim
 |ret=>exact⟨_,a₁,w₁,hq,.of_steps (.one h0 dT) harr⟩
 |panic ch=>exact⟨_,a₁,w₁,hq,.of_steps (.one h0 dT) harr⟩
 |outgrown=>exact⟨_,a₁,w₁,hq,.of_steps (.one h0 dT) harr⟩
end
def xC (P:Program)(T:TT):Nat->XC P
 |0,_,_,_,_,_,_,_,_=>Need 8 ()
 |f+1,rd,nt,xn,kb,code,s,h,K=>bif h.isAbs then True else match code with
  | .skip=>K .normal s h
  | .region _ ops d=>bif d then ii (AH (Jf ops.toList []) 0 ops.toList) (Ji h s λ s h=>xD T nt kb ops.toList (Jf ops.toList []) 0 ops.toList s [] h λ s' h'=>vB (s'.nx+8*ops.size) λ nx=>K .normal {tm:=s'.tm,hp:=s'.hp,nx:=nx,us:=[]} h')
   else xL T (xC P T f) nt kb ops.toList 0 ops.toList s h λ s' h'=>vB (s'.nx+8*ops.size) λ nx=>K .normal {tm:=s'.tm,hp:=s'.hp,nx:=nx,us:=[]} h'
  | .seq x y=>xC P T f rd nt xn kb x s h λ e s' h'=>match e with
   | .normal=>xC P T f rd nt xn kb y s' h' K
   |e=>K e s' h'
  | .cond c x y=>match eN s c with
   |some (.v (.bool b))=>h.go (λ h'=>qb b (xC P T f rd nt xn kb x (gF s c true) h' K) (xC P T f rd nt xn kb y (gF s c false) h' K)) λ h'=>match h' with
    | .t b' _ h2=>b=b'∧xC P T f rd nt xn kb x (gF s c true) h2 K
    | .f b' _ h2=>b=b'∧xC P T f rd nt xn kb y (gF s c false) h2 K
    | .br b' ht hf=>b=b'∧(∀p,xC P T f rd nt xn kb x (gF s c true) (ht p) K)∧∀p,xC P T f rd nt xn kb y (gF s c false) (hf p) K
    |_=>Need 9 b
   |_=>Need 10 c
  | .block id c=>xC P T f rd nt xn kb c s h λ e s' h'=>match e with
   | .exit id'=>bif VK id' id then K .normal s' h' else K (.exit id') s' h'
   |e=>K e s' h'
  | .exit id=>K (.exit id) s h
  | .ret=>K .ret s h
  | .rangeFunc g ps assign body=>ii (!rd) (match eN s g with
   |some (.fn (.func f') fi ca)=>UC T (xC P T f) f' (fi++[.yl s.nx s.nx]++ca) (s.nx+8) (s.nx+8) (kb+8*(nt+2)) (s.hp.set s.nx (some (s.nx,.l {st:=.ready,pend:=none,params:=ps,assign:=assign,body:=body,nt:=nt,tm:=s.tm}))) h λ _ s' h'=>
    recP s' s.nx s.nx (λ r=>!vu r.st) (λ r=>{r with st:=.exhausted}) λ r s2=>MD K {tm:=s.tm,hp:=s2.hp,nx:=s2.nx,us:=[]} h' r.pend
   |_=>Need 11 g)
  | .loop c=>RZ (xC P T f) f rd nt xn kb c s h K λ s h1=>xC P T f rd nt xn kb c s h1 λ e s' h'=>match e with
   | .normal=>RZ (xC P T f) f rd nt xn kb c s' h' K λ s h'=>Need 8 (s,h')
   |e=>K e s' h'
  | .scope c=>xC P T f rd nt xn kb c s h K
  | .label _=>K .normal s h
  |_=>Need 13 h

theorem n6 {T:TT}(hT:T.ok P)(hfol:P.follows .mixedOrders=true):∀f,AY (xC P T f)
 |0=>λ rd nt xn kb c s h K hv=>by cases hv
 |f+1=>λ rd nt xn kb code s h K hv=>by
  have ih:=n6 hT hfol f;unfold xC at hv;rw[Hn.isAbs_no,cond_false]at hv
  cases code with
  |skip=>exact⟨λ F n cx E a w Q hF hro hn hu hs hQ=>wpIn_skip (hQ .normal s E a w ⟨h,hv⟩ hu hs ((Stp.refl E w).x _) (Mut.refl s E w))⟩
  |exit id=>exact⟨λ F n cx E a w Q hF hro hn hu hs hQ=>wpIn_exit (hQ (.exit id) s E a w ⟨h,hv⟩ hu hs ((Stp.refl E w).x _) (Mut.refl s E w))⟩
  |label l=>exact⟨λ F n cx E a w Q hF hro hn hu hs hQ=>wpIn_label (hQ .normal s E a w ⟨h,hv⟩ hu hs ((Stp.refl E w).x _) (Mut.refl s E w))⟩
  |scope c=>
   refine⟨λ F n cx E a w Q hF hro hn hu hs hQ=>vE ((ih _ _ _ _ _ _ _ _ hv).run F n cx E a w _ hF hro hn hu hs λ e s' E' a' w' ⟨h',hK⟩ hu' hs' hst hmut=>?_)⟩
   cases e with
   |normal=>exact hQ .normal s' E' a' w' ⟨h',hK⟩ hu' hs' hst hmut
   |exit id=>exact hQ (.exit id) s' E' a' w' ⟨h',hK⟩ hu' hs' hst hmut
   |ret=>exact hQ .ret s' E' a' w' ⟨h',hK⟩ hu' hs' hst hmut
  |ret=>exact⟨λ F n cx E a w Q hF hro hn hu hs hQ=>wpIn_ret (hQ .ret s E a w ⟨h,hv⟩ hu hs ((Stp.refl E w).x _) (Mut.refl s E w))⟩
  |region id ops d=>
   cases d with
   |true=>
    obtain⟨hpr,hv⟩:=bJ.1 hv;refine⟨λ F n cx E a w Q hF hro hn hu hs hQ=>?_⟩;obtain⟨s2,h2,hv,gw,hmut,hus⟩:=nZ hs hv;have hd:=iS _ _ _ _ _ hv;have hu2:s2.us=[]:=by rw[hus];exact hu
    refine(AWP.draw (rd:=rd) (nt:=nt) (kb:=kb) (xn:=xn) (id:=id) (ops:=ops) (K:=λ e s'=>∃h',K e s' h') hT hfol _ hpr ?_).run F n cx E a w Q hF hro hn hu2 gw λ e s' E' a' w' hK hu' hs' hst hmut'=>hQ e s' E' a' w' hK hu' hs' hst (hmut.trans hmut' (VT _))
    exact fK _ _ _ _ hd λ s' ⟨h',hK⟩=>⟨h',nY.1 hK⟩
   |false=>
    refine⟨λ F n cx E a w Q hF hro hn hu hs hQ=>?_⟩;subst hn;refine wpIn_region_list (tA (n:=n) hF hT ih ops.toList 0 s h E a w hs (by rw[hu];intro k hk;cases hk) hv λ s' h' E' a' w' hK hs' hst hmut hus=>?_);have hK:=nY.1 hK;exact hQ .normal _ E' a' w' ⟨h',hK⟩ rfl (hs'.fin (by simpa using hus)) (hst.x _) ⟨hmut.own,hmut.heap,hmut.old⟩
  |seq x y=>
   refine⟨λ F n cx E a w Q hF hro hn hu hs hQ=>?_⟩;refine wpIn_seq ((ih _ _ _ _ _ _ _ _ hv).run F n cx E a w _ hF hro hn hu hs λ e s' E' a' w' ⟨h',hK⟩ hu' hs' hst hmut=>?_)
   cases e with
   |normal=>exact(ih _ _ _ _ _ _ _ _ hK).run F n cx E' a' w' Q hF hro hn hu' hs' λ e s2 E2 a2 w2 hK2 hu2 gw hst2 hmut2=>hQ e s2 E2 a2 w2 hK2 hu2 gw (hst.trans hst2) (hmut.trans hmut2 hst.size)
   |exit id=>exact hQ (.exit id) s' E' a' w' ⟨h',hK⟩ hu' hs' hst hmut
   |ret=>exact hQ .ret s' E' a' w' ⟨h',hK⟩ hu' hs' hst hmut
  |cond c x y=>
   dsimp only at hv
   split at hv
   case h_2=>cases hv
   case h_1 b hc=>
   have key:(b=true->∃h2,xC P T f rd nt xn kb x (gF s c true) h2 K)∧(b=false->∃h2,xC P T f rd nt xn kb y (gF s c false) h2 K):=by
    refine Hn.go_elim hv (λ h1 hv=>?_) λ h1 hv=>?_
    ·exact⟨λ hb=>⟨h1,(eG.1 hv).1 hb⟩,λ hb=>⟨h1,(eG.1 hv).2 hb⟩⟩
    ·split at hv
     ·rename_i b' p h2
      obtain⟨e,hv⟩:=hv;exact⟨λ _=>⟨_,hv⟩,λ hb=>by rw[hb,p]at e;cases e⟩
     ·rename_i b' p h2
      obtain⟨e,hv⟩:=hv;exact⟨λ hb=>(by rw[hb,p]at e;cases e),λ _=>⟨_,hv⟩⟩
     ·rename_i b' ht hf
      obtain⟨e,hv1,hv2⟩:=hv;exact⟨λ hb=>⟨_,hv1 (e.symm.trans hb)⟩,λ hb=>⟨_,hv2 (e.symm.trans hb)⟩⟩
     ·cases hv
   refine⟨λ F n cx E a w Q hF hro hn hu hs hQ=>?_⟩;have hr:=hs.eval hc;generalize huc:a.eval c=uc at hr
   cases hr
   refine wpIn_cond huc ?_
   cases b with
   |true=>
    obtain⟨h2,hx⟩:=key.1 rfl;exact(ih _ _ _ _ _ _ _ _ hx).run F n cx E a w Q hF hro hn (by rw[(qV _ _ _).1];exact hu) (hs.know' hc) λ e s2 E2 a2 w2 hK2 hu2 gw hst2 hmut2=>hQ e s2 E2 a2 w2 hK2 hu2 gw hst2 hmut2.know
   |false=>
    obtain⟨h2,hx⟩:=key.2 rfl;exact(ih _ _ _ _ _ _ _ _ hx).run F n cx E a w Q hF hro hn (by rw[(qV _ _ _).1];exact hu) (hs.know' hc) λ e s2 E2 a2 w2 hK2 hu2 gw hst2 hmut2=>hQ e s2 E2 a2 w2 hK2 hu2 gw hst2 hmut2.know
  |block id c=>
   refine⟨λ F n cx E a w Q hF hro hn hu hs hQ=>?_⟩;refine wpIn_block ((ih _ _ _ _ _ _ _ _ hv).run F n cx E a w _ hF hro hn hu hs λ e s' E' a' w' ⟨h',hK⟩ hu' hs' hst hmut=>?_)
   cases e with
   |normal=>exact hQ .normal s' E' a' w' ⟨h',hK⟩ hu' hs' hst hmut
   |ret=>exact hQ .ret s' E' a' w' ⟨h',hK⟩ hu' hs' hst hmut
   |exit id'=>
    simp only[AX.ex,Exit.inBlock];dsimp only at hK
    split
    ·rename_i e;subst e;simp only[WK,cond_true]at hK;exact hQ .normal s' E' a' w' ⟨h',hK⟩ hu' hs' hst hmut
    ·rename_i e
     have:VK id' id=false:=by
      cases hb:VK id' id with
      |false=>rfl
      |true=>exact absurd (VQ hb) e
     rw[this]at hK;exact hQ (.exit id') s' E' a' w' ⟨h',hK⟩ hu' hs' hst hmut
  |rangeFunc g ps assign body=>
   obtain⟨h0,h1⟩:=bJ.1 hv
   cases rd with
   |true=>cases h0
   |false=>
    split at h1
    case h_2=>cases h1
    case h_1 f' fi ca hg=>
    obtain⟨fn,hf,h1⟩:=aU.1 h1;obtain⟨c,hb,h1⟩:=aU.1 h1;obtain⟨hn,h1⟩:=bJ.1 h1;refine AWP.range hT hg ⟨s.nx,fn,c,fn.results.toList,hf,hb,rfl,by simpa using hn,?_⟩;refine(ih _ _ _ _ _ _ _ _ h1).ex λ e s' h2 hv=>?_
    obtain⟨he,hv⟩:=bJ.1 hv;refine⟨li he,fL (kv hv) λ l ⟨_,hl⟩=>lj hl λ r s2 hx=>?_⟩
    cases hp:r.pend with
    |none=>rw[hp]at hx;exact⟨_,hx⟩
    |some c=>
     rw[hp]at hx
     cases c with
     |ret=>exact⟨_,hx⟩
     |exit id=>exact⟨_,hx⟩
     |_=>exact hx.elim
  |loop c=>
   refine(qc ih (λ s h hv=>AWPl.peel ((ih _ _ _ _ _ _ _ _ hv).mono λ e s' ⟨h',hv⟩=>?_)) hv).awp
   cases e with
   |normal=>exact qc ih (λ s h hv=>by cases hv) hv
   |exit id=>exact⟨h',hv⟩
   |ret=>exact⟨h',hv⟩
  |_=>cases hv
end
def Rs (κ γ:Nat->Nat):List (Nat×D)->Prop
 |[]=>True
 |p::r=>some (di κ γ p.2)=some (di κ γ p.2)∧Rs κ γ r
theorem ll (κ γ:Nat->Nat):∀l,Rs κ γ l
 |[]=>trivial
 |_::r=>⟨rfl,ll κ γ r⟩
def UD (κ γ:Nat->Nat)(e:Ent):Prop:=
 match e.o with
 | .b x=>some (e.g,cm κ γ x)=some (e.g,cm κ γ x)
 | .c x=>some (e.g,x)=some (e.g,x)
 | .r x=>some (e.g,x)=some (e.g,x)
 | .l st pend params assign body nt tm=>(e.g,st,pend,params,assign,body,nt)=(e.g,st,pend,params,assign,body,nt)∧Rs κ γ tm
def R6 (κ γ:Nat->Nat):List Ent->Prop
 |[]=>True
 |e::r=>UD κ γ e∧R6 κ γ r
theorem n7 (κ γ:Nat->Nat):∀l,R6 κ γ l
 |[]=>trivial
 |e::r=>⟨by unfold UD;split<;>first|rfl|exact⟨rfl,ll κ γ _⟩,n7 κ γ r⟩
def EG (d:CutS)(X:Prop):Prop:=Rs (κE d.es) (γE d.es) d.tm∧R6 (κE d.es) (γE d.es) d.es∧X
def Jm (κ γ:Nat->Nat):List Nat->List Blk->Prop
 |g::gs,b::bs=>some (g,cm κ γ b)=some (g,cm κ γ b)∧Jm κ γ gs bs
 |_,_=>True
theorem w7 (κ γ:Nat->Nat):∀gs bs,Jm κ γ gs bs
 |g::gs,b::bs=>⟨rfl,w7 κ γ gs bs⟩
 |[],_=>trivial
 |_::_,[]=>trivial
def Jn (s:AS)(κ γ:Nat->Nat):List Nat->List Nat->List Blk->Prop
 |k::ks,g::gs,b::bs=>s.at k=some (g,cm κ γ b)∧Jn s κ γ ks gs bs
 |_,_,_=>True

theorem qd:∀(es:List Endl) (F:(i:Nat)->(fJ es i).κ->Prop),(∀i x,F i x)->tn es F
 |[],_,_=>trivial
 |_::r,F,h=>⟨λ x=>h 0 x,qd r (λ i x=>F (i+1) x) λ i x=>h (i+1) x⟩
section
variable {P:Program}
def Hn.T:Hn P->Prop
 | .nil=>True
 | .s _ h=>h.T
 | .chk b _ h=>b=b∧h.T
 | .t b _ h=>b=b∧h.T
 | .f b _ h=>b=b∧h.T
 | .br b ht hf=>b=b∧(∀p,(ht p).T)∧∀p,(hf p).T
 | .opt o _ _ h=>o=o∧h.T
 | .byt cs _ _ h=>cs=cs∧h.T
 | .lst cs _ _ h=>cs=cs∧h.T
 | .two a b=>a.T∧b.T
 | .stab l h=>l.map (λ c=>(c,c))=l.map (λ c=>(c,c))∧h.T
 | .abs _=>True
 | .val _ d _ _ h=>some d=some d∧h.T
 | .blk _ g b _ _ h=>some (g,b)=some (g,b)∧h.T
 | .em _ ht hf=>(∀p,(ht p).T)∧∀p,(hf p).T
 | .recv _ _ d _ _ h=>some d=some d∧h.T
 | .nils _ _ _ _ h=>some jI=some jI∧h.T
 | .nilc _ g0 b _ _ _ _ h=>some (g0,b)=some (g0,b)∧some jI=some jI∧h.T
 | .frz _ g b _ g0 b0 _ h=>some (g,b)=some (g,b)∧some (g0,b0)=some (g0,b0)∧h.T
 | .call f0 _ _ b1 _ q _ _ b2 _ hin _ _ _ h=>f0=f0∧some (b1,q)=some (b1,q)∧some (b2,hin)=some (b2,hin)∧h.T
 | .loop1 rd nt xn c d _ _ _ _ h=>(rd,nt,xn)=(rd,nt,xn)∧c=c∧EG d h.T
 | .loop2 rd nt xn c d _ _ _ _ _ _ h1 h2=>(rd,nt,xn)=(rd,nt,xn)∧c=c∧EG d (h1.T∧h2.T)
 | .loopE rd nt xn c d _ es _ hs=>(rd,nt,xn)=(rd,nt,xn)∧c=c∧EG d (tn es λ i x=>(hs i x).T)
 | .cut e d _ Q _=>e=e∧EG d (Q=Q)
 | .out ks gs r bs R _=>qL (λ j=>ks.getD j 0) (λ j=>gs.getD j 0) bs r=qL (λ j=>ks.getD j 0) (λ j=>gs.getD j 0) bs r∧Jm (λ j=>ks.getD j 0) (λ j=>gs.getD j 0) gs bs∧R=R
theorem Hn.T_ok:∀h:Hn P,h.T
 | .nil=>trivial
 | .s _ h=>h.T_ok
 | .chk _ _ h=>⟨rfl,h.T_ok⟩
 | .t _ _ h=>⟨rfl,h.T_ok⟩
 | .f _ _ h=>⟨rfl,h.T_ok⟩
 | .br _ ht hf=>⟨rfl,λ p=>(ht p).T_ok,λ p=>(hf p).T_ok⟩
 | .opt _ _ _ h=>⟨rfl,h.T_ok⟩
 | .byt _ _ _ h=>⟨rfl,h.T_ok⟩
 | .lst _ _ _ h=>⟨rfl,h.T_ok⟩
 | .two a b=>⟨a.T_ok,b.T_ok⟩
 | .stab _ h=>⟨rfl,h.T_ok⟩
 | .abs _=>trivial
 | .val _ _ _ _ h=>⟨rfl,h.T_ok⟩
 | .blk _ _ _ _ _ h=>⟨rfl,h.T_ok⟩
 | .em _ ht hf=>⟨λ p=>(ht p).T_ok,λ p=>(hf p).T_ok⟩
 | .recv _ _ _ _ _ h=>⟨rfl,h.T_ok⟩
 | .nils _ _ _ _ h=>⟨rfl,h.T_ok⟩
 | .nilc _ _ _ _ _ _ _ h=>⟨rfl,rfl,h.T_ok⟩
 | .frz _ _ _ _ _ _ _ h=>⟨rfl,rfl,h.T_ok⟩
 | .call _ _ _ _ _ _ _ _ _ _ _ _ _ _ h=>⟨rfl,rfl,rfl,h.T_ok⟩
 | .loop1 _ _ _ _ d _ _ _ _ h=>⟨rfl,rfl,ll _ _ _,n7 _ _ _,h.T_ok⟩
 | .loop2 _ _ _ _ d _ _ _ _ _ _ h1 h2=>⟨rfl,rfl,ll _ _ _,n7 _ _ _,h1.T_ok,h2.T_ok⟩
 | .loopE _ _ _ _ d _ es _ hs=>⟨rfl,rfl,ll _ _ _,n7 _ _ _,qd es _ λ i x=>(hs i x).T_ok⟩
 | .cut _ d _ _ _=>⟨rfl,ll _ _ _,n7 _ _ _,rfl⟩
 | .out _ _ _ _ _ _=>⟨rfl,w7 _ _ _ _,rfl⟩

def cutK (xn:Nat)(Q:AX->AS->Prop)(e:AX)(s:AS)(h:Hn P):Prop:=
 h.go (λ h'=>Need 21 (e,s,h')) λ h'=>vC xn h' s λ s h=>match h with
  | .cut e' d _ Q' _=>e=e'∧A1 s xn d (Q=Q')
  |h'=>Need 21 (e,s,h')
theorem vF {xn:Nat}{Q:AX->AS->Prop}{e:AX}{s:AS}{h:Hn P}(hv:cutK xn Q e s h):∃(s2:AS) (d:CutS),mH xn s s2∧CutE s2 xn d∧Q e d.st:=by
 refine Hn.go_elim hv (λ h' hv=>by cases hv) λ h' hv=>?_
 obtain⟨s2,h2,hv,hs⟩:=gG _ _ hv
 split at hv
 ·rename_i e' d rows Q' p
  obtain⟨rfl,hv⟩:=hv;obtain⟨hc,rfl⟩:=ik hv rows;exact⟨s2,d,hs,hc,p⟩
 ·cases hv

def R7 (T:TT)(rs:List ResultVar)(al:Bool)(m n:Nat)(R:D->List Blk->Prop)(e:AX)(s:AS)(h:Hn P):Prop:=
 ii (AZ e) (A0 T s rs h λ l h=>h.go (λ h'=>Need 22 h') λ h'=>match h' with
  | .out ks gs r bs R' _=>s8 l=qL (λ j=>ks.getD j 0) (λ j=>gs.getD j 0) bs r∧Jn s (λ j=>ks.getD j 0) (λ j=>gs.getD j 0) ks gs bs∧ii (fG ks&&jq 0 m gs&&VK bs.length n&&VK ks.length n&&VK gs.length n) (R=R')
  | .abs _=>True
  |_=>Need 23 (s,l))
def vG (al:Bool)(n:Nat):List Blk->Prop
 |[]=>True
 |b::r=>w5 al n b=true∧vG al n r

theorem qe {al:Bool}{n:Nat}{κ γ:Nat->Nat}{s:AS}:∀{ks gs:List Nat} {bs:List Blk},ks.length=bs.length->gs.length=bs.length->Jn s κ γ ks gs bs->vG al n bs->EC al n κ γ s ks gs bs
 |[],[],[],_,_,_,_=>trivial
 |k::ks,g::gs,b::bs,h1,h2,h3,h4=>⟨h3.1,h4.1,qe (by simpa using h1) (by simpa using h2) h3.2 h4.2⟩
 |[],_::_,_,h1,h2,_,_=>by simp only[XJ,Wj]at h1 h2;omega
 |_::_,[],_,h1,h2,_,_=>by simp only[XJ,Wj]at h1 h2;omega
 |[],[],_::_,h1,_,_,_=>by simp at h1
 |_::_,_::_,[],h1,_,_,_=>by simp at h1

mutual
theorem n8 {al:Bool}{κ γ:Nat->Nat}:∀(d:D),mG al 0 d=true->di κ γ d=d
 | .v _,_=>rfl
 | .sl _ _ _ _,_=>rfl
 | .ep _ _,_=>rfl
 | .agg cs,h=>congrArg Wu (gH cs h)
 | .tup cs,h=>congrArg WL (gH cs h)
 | .ifc t x,h=>congrArg (D.ifc t) (n8 x h)
 | .fn f fi ca,h=>by
  have h:(eu al 0 fi&&eu al 0 ca)=true:=h;rw[VO]at h;show D.fn f (fF κ γ fi) (fF κ γ ca)=_;rw[gH fi h.1,gH ca h.2]
 | .ref _ g _ _ _,h=>absurd (VS h) (Zo g)
 | .ptr _ g _,h=>absurd (VS h) (Zo g)
 | .yl _ g,h=>absurd (VS h) (Zo g)
theorem gH {al:Bool}{κ γ:Nat->Nat}:∀(l:List D),eu al 0 l=true->fF κ γ l=l
 |[],_=>rfl
 |d::r,h=>by
  have h:(mG al 0 d&&eu al 0 r)=true:=h;rw[VO]at h;show di κ γ d::fF κ γ r=_;rw[n8 d h.1,gH r h.2]
end
theorem zx {al:Bool}{κ γ:Nat->Nat}{bs:List Blk}{r:D}(h:mG al bs.length r=true):qL κ γ bs r=di κ γ r:=by
 cases bs with
 |nil=>exact(n8 r h).symm
 |cons _ _=>rfl
mutual
theorem A3 {al:Bool}{n:Nat}:∀(d:D),d.pl=true->mG al n d=true
 | .v _,_=>rfl
 | .agg cs,h=>w8 cs h
 | .ifc _ x,h=>A3 x h
 | .sl ..,h=>by cases h
 | .ep ..,h=>by cases h
 | .tup ..,h=>by cases h
 | .fn ..,h=>by cases h
 | .ref ..,h=>by cases h
 | .ptr ..,h=>by cases h
 | .yl ..,h=>by cases h
theorem w8 {al:Bool}{n:Nat}:∀(l:List D),wZ l=true->eu al n l=true
 |[],_=>rfl
 |d::r,h=>by
  have h:(d.pl&&wZ r)=true:=h;rw[VO]at h;show(mG al n d&&eu al n r)=true;rw[A3 d h.1,w8 r h.2];rfl
end
theorem qY {α:Type}(f:α->D)(h:∀x,(f x).pl=true)(xs:List α):wZ (xs.map f)=true:=jp.2 λ d hd=>by
 obtain⟨x,_,rfl⟩:=List.mem_map.1 hd;exact h x
theorem SpecH.run {al:Bool}{T:TT}(hT:T.ok P)(hfol:P.follows .mixedOrders=true){f:FuncId}{fn:Func}{c:Code}{rs:List ResultVar}{ds:List D}{hin:List Blk}{r:D}{bs:List Blk}(hf:P.funcs[f]? =some fn)(hb:fn.body=some c)(hrs:fn.results=⟨rs⟩)
  (hle:VN hin.length bs.length=true) (hok:vG al bs.length bs) (hro:mG al bs.length r=true) (fuel kb:Nat) (h0:∀R:D->List Blk->Prop,(∀r' bs',r'=r->bs'=bs->R r' bs')->Hn P)
  (hE:xC P T fuel false fn.ntmps hin.length kb c (s0 ds hin) (h0 (λ r' bs'=>r'=r∧bs'=bs) λ _ _ h1 h2=>⟨h1,h2⟩) (R7 T rs al hin.length bs.length λ r' bs'=>r'=r∧bs'=bs)=(h0 (λ r' bs'=>r'=r∧bs'=bs) λ _ _ h1 h2=>⟨h1,h2⟩).T):SpecH al P f ds hin r bs:=by
 obtain⟨h,hh⟩:∃h,h=h0 (λ r' bs'=>r'=r∧bs'=bs) λ _ _ h1 h2=>⟨h1,h2⟩:=⟨_,rfl⟩
 rw[<-hh]at hE;clear hh h0;refine SpecH.of hT hf hb hrs hle ((n6 hT hfol fuel _ _ _ _ _ _ _ _ (hE.mpr h.T_ok)).ex λ e s' h' hv=>?_);obtain⟨he,hv⟩:=bJ.1 hv;refine⟨li he,fL (kv hv) λ l ⟨_,hv⟩=>?_⟩;refine Hn.go_elim hv (λ h' hv=>by cases hv) λ h' hv=>?_
 split at hv
 ·rename_i ks gs r' bs' R' p
  obtain⟨h1,h2,h3⟩:=hv;obtain⟨q3,q4⟩:=bJ.1 h3;clear h3;subst q4;obtain⟨rfl,rfl⟩:=p;simp only[VO]at q3;obtain⟨⟨⟨⟨a1,a2⟩,a4⟩,a5⟩,a6⟩:=q3;have a5:=VQ a5;have a6:=VQ a6;exact⟨ks,gs,qe a5 a6 h2 hok,a1,a2,(zx hro).symm.trans h1.symm,hro⟩
 ·rename_i p;exact p.elim
 ·cases hv

def kw (K:AX->AS->Prop):AX->AS->Prop
 | .normal,_=>False
 |e,s=>K e s
theorem AWPl.runLoop {T:TT}(hT:T.ok P)(hfol:P.follows .mixedOrders=true){rd:Bool}{nt xn:Nat}{c:Code}{K:AX->AS->Prop}{ι:Type}(S:ι->CutS)(μ:ι->Nat)(fuel kb:Nat)(h0:∀(i:ι) (Q:AX->AS->Prop),(∀i',μ i'<μ i->Q .normal (S i').st)->(∀e s,kw K e s->Q e s)->Hn P)
  (hE:∀i,xC P T fuel rd nt xn kb c (S i).st (h0 i (λ e s'=>(e= .normal∧∃i',s'=(S i').st∧μ i'<μ i)∨kw K e s') (λ i' hm=>.inl ⟨rfl,i',rfl,hm⟩) λ _ _ hk=>.inr hk) (cutK xn λ e s'=>(e= .normal∧∃i',s'=(S i').st∧μ i'<μ i)∨kw K e s')=
   (h0 i (λ e s'=>(e= .normal∧∃i',s'=(S i').st∧μ i'<μ i)∨kw K e s') (λ i' hm=>.inl ⟨rfl,i',rfl,hm⟩) λ _ _ hk=>.inr hk).T) (i0:ι):AWPl P rd nt xn c (S i0).st K:=
 AWPl.loopI (λ i=>(S i).st) (λ _=>rfl) μ (λ i=>(AWP.cutEndR (Q:=λ e s'=>(e= .normal∧∃i',s'=(S i').st∧μ i'<μ i)∨kw K e s') ((n6 hT hfol fuel _ _ _ _ _ _ _ _ ((hE i).mpr (Hn.T_ok _))).ex λ e s' h' hv=>vF hv)).mono λ e s' hq=>by
  cases e with
  |normal=>
   rcases hq with⟨_,hq⟩|hq
   ·exact hq
   ·exact hq.elim
  |exit id=>
   rcases hq with⟨hq,_⟩|hq
   ·cases hq
   ·exact hq
  |ret=>
   rcases hq with⟨hq,_⟩|hq
   ·cases hq
   ·exact hq) i0
end
def eP:Code->List Code
 | .seq x y=>eP x++eP y
 | .cond _ x y=>eP x++eP y
 | .block _ c=>eP c
 | .scope c=>eP c
 | .loop c=>c::eP c
 | .rangeFunc _ _ a b=>eP a++eP b
 |_=>[]
theorem am {α:Type}{f:α->D}(xs:List α){e:Nat}(d:α)(h:e<xs.length):(xs.map f)[e]? =some (f (xs.getD e d)):=by
 rw[V6,VG h,VH,VG h];rfl
theorem R8 (cells:List D)(a b:Nat):dE cells a b=(cells.drop a).take b:=gB ..
theorem fz {x:Int}(h:-9223372036854775808<=x∧x<=9223372036854775807):ay .i64 x=some (.v (.int .i64 x)):=by rw[aE,IntWalk.i64_in x h]
theorem gI {x:Int}(h:0<=x∧x<=255):ay .u8 x=some (.v (.int .u8 x)):=by rw[aE,IntWalk.u8_in x h]
theorem aA {x:Int}(h:0<=x∧x<=4294967295):ay .u32 x=some (.v (.int .u32 x)):=by rw[aE,IntWalk.u32_in x h]
theorem bA {x:Int}(h:0<=x∧x<=18446744073709551615):ay .u64 x=some (.v (.int .u64 x)):=by rw[aE,IntWalk.u64_in x h]
theorem qZ {α β:Type}(f:α->β)(xs:List α):(xs.map f).take xs.length=xs.map f:=by rw[<-VP (f:=f) («as»:=xs),Xh]
theorem A4 {k:IntKind}{m n:Int}(h:n<=m):iE k true m n=some (.v (.int k m)):=by rw[mW];simp only[cond_true];rw[ZE (by omega)]
theorem EH {k:IntKind}{m n x:Int}(h:x=min m n):iE k false m n=some (.v (.int k x)):=by
 rw[mW,cond_false,show(if n<m then n else m)=x by split<;>omega]
theorem EI {k:IntKind}{m n x:Int}(h:x=max m n):iE k true m n=some (.v (.int k x)):=by
 rw[mW,cond_true,show(if n>m then n else m)=x by split<;>omega]
theorem AC.nilSplit {P:Program}{f:FuncId}{n size sz:Nat}{cells cells':List D}{t:TypeId}(h0:AC P f [.v (.slice none 0 0)] (.v (.slice none 0 0)) [])(h1:AC P f [.sl true n size cells] (.ref 0 0 0 n sz) [⟨cells',t,true⟩])
  (hc:cells=[]->cells'=[]):AC P f [.sl false n size cells] (.ref 0 0 0 n sz) [⟨cells',t,true⟩]:=by
 refine⟨h1.1,λ O φ0 w args hO hhb hinj hl ha=>?_⟩
 cases args with
 |nil=>cases hl
 |cons u r=>
  have hr:r=[]:=Wq (by simpa using hl);subst hr;have hr:=ha 0 _ u rfl rfl
  cases hr with
  |sl _ _ _ _ a c us hlen hd h1' hn hs hcc hnil hr=>
  cases a with
  |none=>
   obtain⟨rfl,_⟩:=hnil rfl;have hn0:n=0:=Nat.le_zero.1 hcc.1;subst hn0;have hcl:cells=[]:=Wq (by rw[hn,Xl]);refine(h0.2 O φ0 w [_] hO hhb hinj rfl λ j d u hj hu=>?_).mono ?_
   ·cases j with
    |zero=>simp at hj hu;subst hj hu;exact .v _ rfl
    |succ j=>simp at hj
   ·rintro e w' ⟨u,rfl,hb,φ,_,hrd,_⟩
    refine⟨u,rfl,hb,λ _=>none,λ j hj=>(by cases hj),?_,λ j b hj=>?_,λ i j x _ _ _ h=>(by cases h),λ j x _ _ h=>(by cases h)⟩
    ·cases hrd with
     |v c h=>exact .refn 0 0 sz Yl rfl
    ·cases j with
     |zero=>simp at hj;subst hj;rw[hc hcl];exact⟨⟨Yl,rfl,rfl⟩,λ _=>rfl⟩
     |succ j=>simp at hj
  |some a=>
   refine h1.2 O φ0 w [_] hO hhb hinj rfl λ j d u hj hu=>?_
   cases j with
   |zero=>simp at hj hu;subst hj hu;exact .sl _ _ _ _ _ c us hlen hd h1' hn hs hcc (λ h=>by cases h) hr
   |succ j=>simp at hj
theorem bu {α:Type}(f:α->D)(h:∀x,(f x).closed=true)(xs:List α):ae (xs.map f)=true:=bx.2 λ d hd=>by
 obtain⟨x,_,rfl⟩:=List.mem_map.1 hd;exact h x
def Rt:List Ent->List (Nat×Nat)->List Ent
 |e::r,p::l=>⟨e.k',e.g',p.1,p.2,e.o⟩::Rt r l
 |r,_=>r
def CutS.re (c:CutS)(l:List (Nat×Nat)):CutS:=⟨c.tm,Rt c.es l,c.nx⟩
def aq (P:Program)(f n:Nat):Code:=(eP ((P.funcs[f]?.bind (·.body)).getD .skip)).getD n .skip
def dN:Code->List (Array Tmp×Code×Code)
 | .seq x y=>dN x++dN y
 | .cond _ x y=>dN x++dN y
 | .block _ c=>dN c
 | .scope c=>dN c
 | .loop c=>dN c
 | .rangeFunc _ ps a b=>(ps,a,b)::(dN a++dN b)
 |_=>[]
def rangeAt (P:Program)(f n:Nat):Array Tmp×Code×Code:=(dN ((P.funcs[f]?.bind (·.body)).getD .skip)).getD n (#[],.skip,.skip)
theorem A5:∀(es:List Ent) (l:List (Nat×Nat)),(Rt es l).map (λ e=>(e.k',(e.g',e.o.ob)))=es.map λ e=>(e.k',(e.g',e.o.ob))
 |[],[]=>rfl
 |[],_::_=>rfl
 |_::_,[]=>rfl
 |e::r,p::l=>by simp only[Rt,W6,A5 r l]
theorem A6 (d:CutS)(l:List (Nat×Nat)):(d.re l).st=d.st:=by unfold CutS.st CutS.re;simp only[A5]
section
variable {P:Program}
def Nx {ι:Type}(S:ι->CutS)(μ:ι->Nat)(Q:AX->AS->Prop)(i:ι):Prop:=∀i',μ i'<μ i->Q .normal (S i').st
def UE (es:List Endl)(Q:AX->AS->Prop):Prop:=∀e s,kw (tq es) e s->Q e s
def Hn.next {ι:Type}{S:ι->CutS}{Q:AX->AS->Prop}{μ:ι->Nat}{i:ι}(next:Nx S μ Q i)(i':ι)(h:μ i'<μ i)(l:List (Nat×Nat))(rows:ig ((S i').re l)):Hn P:=.cut .normal ((S i').re l) rows Q (by rw[A6];exact next i' h)
def Hn.last {es:List Endl}{Q:AX->AS->Prop}(last:UE es Q)(n:Nat)(x:(fJ es n).κ)(h:gE (fJ es n).e=false)(l:List (Nat×Nat))(rows:ig (((fJ es n).S x).re l)):Hn P:=
 .cut (fJ es n).e (((fJ es n).S x).re l) rows Q (by
  rw[A6];refine last _ _ ?_;have hk:=tv es n x
  cases he:(fJ es n).e with
  |normal=>rw[he]at h;cases h
  |exit id=>rw[he]at hk;exact hk
  |ret=>rw[he]at hk;exact hk)
def Hn.inl {T:TT}(hT:T.ok P)(hfol:P.follows .mixedOrders=true)(rd:Bool)(nt xn:Nat)(c:Code){ι:Type}(S:ι->CutS)(μ:ι->Nat)(es:List Endl)(fuel kb:Nat)(h0:∀(i:ι) (Q:AX->AS->Prop),Nx S μ Q i->UE es Q->Hn P)
  (hE:∀i,xC P T fuel rd nt xn kb c (S i).st (h0 i (λ e s'=>(e= .normal∧∃i',s'=(S i').st∧μ i'<μ i)∨kw (tq es) e s') (λ i' hm=>.inl ⟨rfl,i',rfl,hm⟩) λ _ _ hk=>.inr hk) (cutK xn λ e s'=>(e= .normal∧∃i',s'=(S i').st∧μ i'<μ i)∨kw (tq es) e s')=
   (h0 i (λ e s'=>(e= .normal∧∃i',s'=(S i').st∧μ i'<μ i)∨kw (tq es) e s') (λ i' hm=>.inl ⟨rfl,i',rfl,hm⟩) λ _ _ hk=>.inr hk).T) (i0:ι) (l:List (Nat×Nat)) (rows:ig ((S i0).re l)) (hs:(i:Nat)->(fJ es i).κ->Hn P):Hn P:=
 .loopE rd nt xn c ((S i0).re l) rows es (by rw[A6];exact AWPl.runLoop hT hfol S μ fuel kb h0 hE i0) hs
def bM {e:Endl}(h:e.κ->Hn P):(i:Nat)->(fJ [e] i).κ->Hn P
 |0,x=>h x
 |_+1,x=>nomatch x
def gw {e1 e2:Endl}(h1:e1.κ->Hn P)(h2:e2.κ->Hn P):(i:Nat)->(fJ [e1,e2] i).κ->Hn P
 |0,x=>h1 x
 |1,x=>h2 x
 |_+2,x=>nomatch x
def sH {e1 e2 e3:Endl}(h1:e1.κ->Hn P)(h2:e2.κ->Hn P)(h3:e3.κ->Hn P):(i:Nat)->(fJ [e1,e2,e3] i).κ->Hn P
 |0,x=>h1 x
 |1,x=>h2 x
 |2,x=>h3 x
 |_+3,x=>nomatch x
def GH {e1 e2 e3 e4:Endl}(h1:e1.κ->Hn P)(h2:e2.κ->Hn P)(h3:e3.κ->Hn P)(h4:e4.κ->Hn P):(i:Nat)->(fJ [e1,e2,e3,e4] i).κ->Hn P
 |0,x=>h1 x
 |1,x=>h2 x
 |2,x=>h3 x
 |3,x=>h4 x
 |_+4,x=>nomatch x
end
theorem au {k:IntKind}{v r:Int}(h:v=r):aV k v=some (.v (.int k r)):=by rw[cb,h]
theorem js (n:Nat)(x:Int)(hx:0<=x):VY n x=BitVec.ofNat n x.toNat:=by
 obtain⟨m,rfl⟩:=WM hx;simp
theorem w9 {n:Nat}{x y:Int}(hx:0<=x∧x.toNat<2^n)(hy:0<=y∧y.toNat<2^n):(VY n x|||VY n y).toNat=x.toNat|||y.toNat:=by
 rw[js n x hx.1,js n y hy.1,BitVec.toNat_or,YU,YU,Xc hx.2,Xc hy.2]
theorem tB {n:Nat}{x y:Int}(hx:0<=x∧x.toNat<2^n)(hy:0<=y∧y.toNat<2^n):(VY n x&&&VY n y).toNat=x.toNat&&&y.toNat:=by
 rw[js n x hx.1,js n y hy.1,BitVec.toNat_and,YU,YU,Xc hx.2,Xc hy.2]
theorem bw {x y:Int}(h:0<=x):x.tmod y=x%y:=Int.tmod_eq_emod_of_nonneg h
theorem il {x y:Int}(h:0<=y):x.fdiv y=x/y:=XI x h
theorem Jo {x y:Nat}(m:Nat)(hx:x%2^m=0)(hy:y<2^m):x|||y=x+y:=by
 have e:x=2^m*(x/2^m):=by have:=Nat.div_add_mod x (2^m);omega
 rw[e,<-YB hy]
theorem tC {x y:Int}(hx:0<=x∧x<=255)(hy:0<=y∧y<=255):VU .u8 ((VY 8 x|||VY 8 y).toNat:Int)=((x.toNat|||y.toNat:Nat):Int):=by
 rw[w9 ⟨hx.1,by omega⟩ ⟨hy.1,by omega⟩];have:x.toNat|||y.toNat<2^8:=aaO (by omega) (by omega)
 exact IntWalk.u8_in _ (by omega)
theorem tD (m:Nat)(N:Int){x y:Int}(hx:0<=x∧x<=255)(hy:0<=y∧y<=255)(hm:((2^m:Nat):Int)=N)(h1:x%N=0)(h2:y<N):VU .u8 ((VY 8 x|||VY 8 y).toNat:Int)=x+y:=by
 rw[tC hx hy,Jo m (by have e:=congrArg zq h1;rw[<-hm,<-XM hx.1,<-ZP,Int.toNat_natCast]at e;exact e) (by omega)];omega
theorem zy {x y:Int}(hx:0<=x∧x<=4294967295)(hy:0<=y∧y<=4294967295):VU .u32 ((VY 32 x|||VY 32 y).toNat:Int)=((x.toNat|||y.toNat:Nat):Int):=by
 rw[w9 ⟨hx.1,by omega⟩ ⟨hy.1,by omega⟩];have:x.toNat|||y.toNat<2^32:=aaO (by omega) (by omega)
 exact IntWalk.u32_in _ (by omega)
theorem vH {x y:Int}(hx:0<=x∧x<=4294967295)(hy:0<=y∧y<=4294967295):VU .u32 ((VY 32 x&&&VY 32 y).toNat:Int)=((x.toNat&&&y.toNat:Nat):Int):=by
 rw[tB ⟨hx.1,by omega⟩ ⟨hy.1,by omega⟩];have:x.toNat&&&y.toNat<=x.toNat:=Nat.and_le_left;exact IntWalk.u32_in _ (by omega)
theorem mj (m:Nat)(N:Int){x y:Int}(hx:0<=x∧x<=4294967295)(hy:0<=y∧y<=4294967295)(hN:y+1=N)(hm:((2^m:Nat):Int)=N):VU .u32 ((VY 32 x&&&VY 32 y).toNat:Int)=x%N:=by
 rw[vH hx hy,show y.toNat=2^m-1 from by omega,Zc,<-hm];rw[ZP,XM hx.1]
theorem vI {x y:Int}(hx:0<=x∧x<=18446744073709551615)(hy:0<=y∧y<=18446744073709551615):VU .u64 ((VY 64 x&&&VY 64 y).toNat:Int)=((x.toNat&&&y.toNat:Nat):Int):=by
 rw[tB ⟨hx.1,by omega⟩ ⟨hy.1,by omega⟩];have:x.toNat&&&y.toNat<=x.toNat:=Nat.and_le_left;exact IntWalk.u64_in _ (by omega)
theorem ml (m:Nat)(N:Int){x y:Int}(hx:0<=x∧x<=18446744073709551615)(hy:0<=y∧y<=18446744073709551615)(hN:y+1=N)(hm:((2^m:Nat):Int)=N):VU .u64 ((VY 64 x&&&VY 64 y).toNat:Int)=x%N:=by
 rw[vI hx hy,show y.toNat=2^m-1 from by omega,Zc,<-hm];rw[ZP,XM hx.1]
theorem aN {x y:Int}(hx:0<=x∧x<=9223372036854775807)(hy:0<y):VU .i64 (x.tdiv y)=x/y:=by
 rw[Int.tdiv_eq_ediv_of_nonneg hx.1];have h1:=Int.ediv_nonneg hx.1 (Int.le_of_lt hy);have h2:=Int.ediv_le_self y hx.1;exact IntWalk.i64_in _ (by omega)
theorem aw {A B:List D}{e:TypeId}{r:Bool}(h:A=B):VF A e r=VF B e r:=by rw[h]
theorem D.sim.slN {nn:Bool}{n n' sz:Nat}{cells cells':List D}(h1:n=n')(h2:cells=cells'):(V3 nn n sz cells).sim (.sl nn n' sz cells'):=by rw[h1,h2];exact D.sim.refl _
theorem aL {α:Type}{c:Bool}{a b:α}(h:c=true):cond c a b=a:=by rw[h];rfl
theorem gJ (k:IntKind)(m n:Int):iE k true m n=some (.v (.int k (max m n))):=EI rfl
theorem dl {b:Bool}(h:(!b)=true):b=false:=by cases b<;>simp_all
theorem dm {b:Bool}(h:(!b)=false):b=true:=by cases b<;>simp_all
theorem Jp {a b:Bool}(h:(a&&b)=true):a=true:=by cases a<;>simp_all
theorem Jq {a b:Bool}(h:(a&&b)=true):b=true:=by cases a<;>simp_all
theorem GI {a b:Bool}(h:a=b):D.v (.bool a)=D.v (.bool b):=by rw[h]
theorem aC {a b:Bool}(h1:a=true)(h2:b=true):(a&&b)=true:=by rw[h1,h2];rfl
theorem dA {a b:Nat}(h:a=b):VK a b=true:=by rw[h];exact WK b
theorem dR (b:UInt8){m n:Int}(hm:m<=0)(hn:255<=n):m<=(b.toNat:Int)∧(b.toNat:Int)<=n:=by
 have:=b.toNat_lt;constructor<;>omega
theorem aG {k:IntKind}{a b:Int}(h:a=b):D.v (.int k a)=D.v (.int k b):=by rw[h]
theorem iT {α:Type}[Inhabited α]{l:List α}{i:Nat}(h:i<l.length):l.take (i+1)=l.take i++[l.getD i lh]:=by
 rw[List.take_add_one,VG h];simp[h]
theorem EJ (x:Int):D.v (.int .u8 (IntKind.u8.wrap x))=dB (WI (x%256).toNat):=by
 unfold dB;have h0:=Int.emod_nonneg x (show(256:Int)≠0 by decide);have h1:=Int.emod_lt_of_pos x (show(0:Int)<256 by decide);have e:IntKind.u8.wrap x=x%256:=rfl;have h:((WI (x%256).toNat).toNat:Int)=x%256:=by
  rw[Xy];omega
 rw[e,h]
theorem Jr (b c:UInt8):D.v (.int .u8 (VU .u8 ((b.toNat:Int)+(c.toNat:Int))))=dB (b+c):=by
 rw[EJ]
 congr 1
 apply UInt8.toNat_inj.1;rw[Xy,UInt8.toNat_add];omega
theorem Js (b:UInt8):D.v (.int .u8 (VU .u8 ((b.toNat:Int)+1)))=dB (b+1):=Jr b 1
theorem xa {l:List D}(h:ae l=true)(n:Nat):ae (l.take n)=true:=bx.2 λ d hd=>bx.1 h d (List.mem_of_mem_take hd)
theorem xb {l:List D}(h:ae l=true)(n:Nat):ae (l.drop n)=true:=bx.2 λ d hd=>bx.1 h d (List.mem_of_mem_drop hd)
def bz (f:UInt8->UInt8)(bs:Z4)(n:Nat):Z4:=(bs.take n).map f++bs.drop n
theorem ra (f:UInt8->UInt8)(bs:Z4)(n:Nat):(bz f bs n).length=bs.length:=by simp[bz];omega
theorem vJ (f:UInt8->UInt8)(bs:Z4):bz f bs 0=bs:=by simp[bz]
theorem vK (f:UInt8->UInt8)(bs:Z4)(n:Nat):(bz f bs n).getD n lh=bs.getD n lh:=by
 unfold bz;simp only[VH]
 by_cases h:n<bs.length
 ·rw[We (by simp;omega)]
  simp only[VP,VW,Nat.min_eq_left (Nat.le_of_lt h),W5,WR,Xw]
 ·rw[Wh (by simp;omega),Wh (by omega)]
theorem zz (f:UInt8->UInt8){bs:Z4}{n:Nat}(h:n<bs.length)(d:D)(hd:d=dB (f (bs.getD n lh))):ag ((bz f bs n).map dB) n [d]=(bz f bs (n+1)).map dB:=by
 subst hd;unfold ag bz;have hl:((bs.take n).map f).length=n:=by simp;omega
 rw[iT h];simp only[Wz,ZQ,Zd,VP,hl,VW,Wv];have e1:(XD dB (XD f (Ws n bs))).take n=XD dB (XD f (Ws n bs)):=Wm (by simp;omega);have e2:(XD dB (XD f (Ws n bs))).drop (n+1)=[]:=WS (by simp;omega);have hm:min n bs.length=n:=by omega
 simp only[e1,e2,hm,W5,List.take_zero,WN,Yu,Wc];simp[List.drop_drop,Nat.add_comm]
theorem ME (bs:Z4)(n:Nat):ae ((bs.map dB).take n)=true:=xa (aF bs) n
theorem MF (bs:Z4)(n:Nat):ae ((bs.map dB).drop n)=true:=xb (aF bs) n
theorem EK (c:Bool)(a b:List D):ae (cond c a b)=cond c (ae a) (ae b):=by cases c<;>rfl
theorem A7 (a b:List D):ae (a++b)=(ae a&&ae b):=by
 induction a with
 |nil=>rfl
 |cons x a ih=>show(x.closed&&ae (a++b))=_;rw[ih,<-Bool.and_assoc];rfl
theorem ee {α:Type}[BEq α][LawfulBEq α]{a b:α}(h:(a !=b)=true):a≠b:=by simpa using h
theorem ef {α:Type}[BEq α][LawfulBEq α]{a b:α}(h:(a !=b)=false):a=b:=by simpa using h
theorem ap {α:Type}[BEq α][LawfulBEq α]{a b:α}(h:(a==b)=false):a≠b:=by simpa using h
theorem gK (l:Z4):(W8 l.toArray).toList=l:=by rw[ByteArray.toList_eq]
theorem zA (a b:Z4):W8 a.toArray++W8 b.toArray=W8 (a++b).toArray:=by
 apply ByteArray.ext;simp
theorem EL (a:Z4):(W8 a.toArray).size=a.length:=rfl
theorem vL {α:Type}[Inhabited α]{f:α->List D}{k:Nat}(hk:∀x,(f x).length=k):∀{xs:List α} {i j:Nat},i<xs.length->j<k->(xs.flatMap f)[i*k+j]? =(f (xs.getD i lh))[j]?
 |[],i,j,h,_=>by simp at h
 |x::xs,0,j,h,hj=>by
  rw[W9,Xl,Wd,Wi (by rw[hk];exact hj)];rfl
 |x::xs,i+1,j,h,hj=>by
  rw[W9,We (by rw[hk,WV];omega),hk];have e:(i+1)*k+j-k=i*k+j:=by rw[WV];omega
  rw[e,vL hk (by simpa using h) hj];rfl
theorem cX {α:Type}[Inhabited α]{f:α->List D}{k:Nat}(hk:∀x,(f x).length=k){xs:List α}{i n j:Nat}{d:D}(h:i<xs.length)(e:n=i*k+j)(hj:(f (xs.getD i lh))[j]? =some d):(xs.flatMap f)[n]? =some d:=by
 have hlt:j<k:=by rw[<-hk (xs.getD i lh)];exact(List.getElem?_eq_some_iff.1 hj).1
 rw[e,vL hk h hlt];exact hj
theorem bj {α:Type}{f:α->List D}{k:Nat}(hk:∀x,(f x).length=k):∀(xs:List α),(xs.flatMap f).length=xs.length*k
 |[]=>by simp
 |x::xs=>by rw[W9,VI,hk,bj hk xs,Wj,WV];omega
theorem aJ {α:Type}[Inhabited α]{f:α->List D}{k:Nat}(hk:∀x,(f x).length=k){xs:List α}{i n:Nat}(h:i<xs.length)(e:n=i*k):((xs.flatMap f).drop n).take k=f (xs.getD i lh):=by
 apply WD;intro j;rw[WA]
 by_cases hj:j<k
 ·rw[ZF hj,WR,e,vL hk h hj]
 ·rw[ZE hj,Wh (by rw[hk];omega)]
theorem bG (bs:Z4)(off m:Nat):(bif VK off 0&&VK m (bs.map dB).length then bs.map dB else((bs.map dB).drop off).take m)=((bs.drop off).take m).map dB:=by
 cases h:VK off 0&&VK m (bs.map dB).length with
 |true=>
  have h1:=VQ (Jp h);have h2:=VQ (Jq h);subst h1 h2;simp
 |false=>rw[cond_false,List.map_take,List.map_drop]
theorem D.sim.nil {sz:Nat}(h:0<sz):(D.v (.slice none 0 0)).sim (.sl false 0 sz []):=λ E w u hr=>by
 cases hr with
 |v=>exact .sl false 0 sz [] none 0 [] rfl (by simp) (by simp) (by simp) h ⟨VT _,Wy _⟩ (λ _=>⟨rfl,rfl⟩) (.inl rfl)
theorem D.sim.slc {nn:Bool}{n n' sz:Nat}{cells cells':List D}(h1:n=n')(h2:cQ cells cells'):(V3 nn n sz cells).sim (.sl false n' sz cells'):=by
 subst h1;intro E w u h;obtain⟨e,g⟩:=h2.get
 cases h with
 |sl _ _ _ _ a c us hlen hd h1 hn hs hc h0 hr=>
  refine .sl false n sz cells' a c us (by rw[hlen,e]) (λ i d' u a1 a2=>?_) h1 (by rw[<-e,hn]) hs hc (λ h=>⟨(h0 h).1,rfl⟩) hr;obtain⟨d,b1,b2⟩:=g i d' a1;exact b2 _ _ _ (hd i d u b1 a2)
theorem bW {α:Type}{f:α->List D}(h:∀x,ae (f x)=true):∀l:List α,ae (l.flatMap f)=true
 |[]=>rfl
 |x::l=>by rw[W9,A7,h x,bW h l];rfl
theorem dn {α:Type}{f:α->List D}(h:∀x,wZ (f x)=true)(l:List α):wZ (l.flatMap f)=true:=jp.2 λ d hd=>by
 obtain⟨t,_,hd⟩:=List.mem_flatMap.1 hd;exact jp.1 (h t) d hd
theorem rc {α:Type}{f:α->List D}{k:Nat}(hk:∀x,(f x).length=k):∀(xs:List α) (i:Nat),(xs.flatMap f).take (i*k)=(xs.take i).flatMap f
 |[],i=>by simp
 |x::xs,0=>by simp
 |x::xs,i+1=>by
  rw[W9,List.take_succ_cons,W9,ZQ,hk,Wm (by rw[hk,WV];omega),show(i+1)*k-k=i*k from by rw[WV];omega,rc hk xs i]
theorem xc {α:Type}{f:α->List D}{k:Nat}(hk:∀x,(f x).length=k):∀(xs:List α) (i:Nat),(xs.flatMap f).drop (i*k)=(xs.drop i).flatMap f
 |[],i=>by simp
 |x::xs,0=>by simp
 |x::xs,i+1=>by
  rw[W9,List.drop_succ_cons,Zd,hk,WS (by rw[hk,WV];omega),show(i+1)*k-k=i*k from by rw[WV];omega,xc hk xs i];rfl
theorem MG {α:Type}{f:α->List D}{k:Nat}(hk:∀x,(f x).length=k)(xs:List α)(o m:Nat):((xs.flatMap f).drop (o*k)).take (m*k)=((xs.drop o).take m).flatMap f:=by rw[xc hk,rc hk]
theorem jU {α:Type}{f:α->List D}{k:Nat}(hk:∀x,(f x).length=k)(xs:List α)(off m o n:Nat)(h1:off=o*k)(h2:n=m*k):(bif VK off 0&&VK n (xs.flatMap f).length then xs.flatMap f else((xs.flatMap f).drop off).take n)=((xs.drop o).take m).flatMap f:=by
 have e:=gB (xs.flatMap f) off n;unfold dE at e;rw[e,h1,h2,MG hk]
theorem kx {α:Type}{f:α->List D}{c:List α}{l:List D}{t:α}{y:TypeId}{r:Bool}(h:l=f t):(⟨c.flatMap f++l,y,r⟩:Blk)=⟨(c++[t]).flatMap f,y,r⟩:=by rw[h,WH];simp
theorem MH (b:UInt8):(dB b).closed=true:=rfl
attribute [simp] gK zA EL
attribute [simp] cW g6 zb mU aT de bm nG Rl Uy R8 ae D.closed aF ME MF EK A7 xa xb bW MH bZ bV qZ
end Go.Vx
namespace Go.Proofs.YtefjnofhgkjpmaaGreat
open Go.Vx

def UF:TI:=⟨.int .i64,.int .i64 0,1,8,false⟩
def Mf:TI:=⟨.int .i64,.int .i64 0,1,8,false⟩
def UG:TI:=⟨.bool,.bool false,1,1,false⟩
def zB:TI:=⟨.int .u8,.int .u8 0,1,1,false⟩
def UH:TI:=⟨.string,.string ⟨#[]⟩,1,16,false⟩
def MI:TI:=⟨.int .u64,.int .u64 0,1,8,false⟩
def MJ:TI:=⟨.pointer 302,.pointer none,1,8,false⟩
def MK:TI:=⟨.pointer 305,.pointer none,1,8,false⟩
def ML:TI:=⟨.pointer 313,.pointer none,1,8,false⟩
def MM:TI:=⟨.interface #[],.nilIface,1,16,false⟩
def MN:TI:=⟨.int .i32,.int .i32 0,1,4,false⟩
def MO:TI:=⟨.struct #[⟨"Size",3,0,false, "", "",0⟩,⟨"Chain",3,1,false, "", "",8⟩,⟨"Most",3,2,false, "", "",16⟩,⟨"Lazy",4,3,false, "", "",24⟩],.agg #[.int .i64 0,.int .i64 0,.int .i64 0,.bool false],4,32,true⟩
def MP:TI:=⟨.struct #[⟨"Size",3,0,false, "", "",0⟩,⟨"Chain",3,1,false, "", "",8⟩,⟨"Most",3,2,false, "", "",16⟩,⟨"Lazy",4,3,false, "", "",24⟩],.agg #[.int .i64 0,.int .i64 0,.int .i64 0,.bool false],4,32,true⟩
def MQ:TI:=⟨.slice 5,.slice none 0 0,1,24,false⟩
def MR:TI:=⟨.struct #[⟨"Bytes",24,0,false, "", "",0⟩,⟨"Bits",3,1,false, "", "",24⟩],.agg #[.slice none 0 0,.int .i64 0],2,32,false⟩
def MS:TI:=⟨.struct #[⟨"Bytes",24,0,false, "", "",0⟩,⟨"Bits",3,1,false, "", "",24⟩],.agg #[.slice none 0 0,.int .i64 0],2,32,false⟩
def MT:TI:=⟨.struct #[⟨"Style",23,0,false, "", "",0⟩,⟨"Hist",24,4,false, "", "",32⟩,⟨"Wait",24,5,false, "", "",56⟩,⟨"Pen",26,6,false, "", "",80⟩,⟨"Over",4,8,false, "", "",112⟩],.agg #[.int .i64 0,.int .i64 0,.int .i64 0,.bool false,.slice none 0 0,.slice none 0 0,.slice none 0 0,.int .i64 0,.bool false],9,120,false⟩
def MU:TI:=⟨.struct #[⟨"Style",23,0,false, "", "",0⟩,⟨"Hist",24,4,false, "", "",32⟩,⟨"Wait",24,5,false, "", "",56⟩,⟨"Pen",26,6,false, "", "",80⟩,⟨"Over",4,8,false, "", "",112⟩],.agg #[.int .i64 0,.int .i64 0,.int .i64 0,.bool false,.slice none 0 0,.slice none 0 0,.slice none 0 0,.int .i64 0,.bool false],9,120,false⟩
def MV:TI:=⟨.int .i64,.int .i64 0,1,8,false⟩
def MW:TI:=⟨.slice 56,.slice none 0 0,1,24,false⟩
def MX:TI:=⟨.struct #[⟨"Flush",4,0,false, "", "",0⟩,⟨"Text",24,1,false, "", "",8⟩],.agg #[.bool false,.slice none 0 0],2,32,false⟩
def MY:TI:=⟨.struct #[⟨"Flush",4,0,false, "", "",0⟩,⟨"Text",24,1,false, "", "",8⟩],.agg #[.bool false,.slice none 0 0],2,32,false⟩
def MZ:TI:=⟨.pointer 68,.pointer none,1,8,false⟩
def M0:TI:=⟨.struct #[⟨"Press",28,0,true, "", "",0⟩,⟨"out",24,9,false, "", "bellows/press",120⟩],.agg #[.int .i64 0,.int .i64 0,.int .i64 0,.bool false,.slice none 0 0,.slice none 0 0,.slice none 0 0,.int .i64 0,.bool false,.slice none 0 0],10,144,false⟩
def M1:TI:=⟨.slice 119,.slice none 0 0,1,24,false⟩
def M2:TI:=⟨.pointer 95,.pointer none,1,8,false⟩
def M3:TI:=⟨.struct #[⟨"b",24,0,false, "", "bellows/plain",0⟩,⟨"at",3,1,false, "", "bellows/plain",24⟩,⟨"e",31,2,false, "", "bellows/plain",32⟩],.agg #[.slice none 0 0,.int .i64 0,.int .i64 0],3,40,false⟩
def GJ:TI:=⟨.pointer 123,.pointer none,1,8,false⟩
def GK:TI:=⟨.slice 64,.slice none 0 0,1,24,false⟩
def GL:TI:=⟨.struct #[⟨"Lit",5,0,false, "", "",0⟩,⟨"Dist",3,1,false, "", "",8⟩,⟨"Long",3,2,false, "", "",16⟩],.agg #[.int .u8 0,.int .i64 0,.int .i64 0],3,24,true⟩
def GM:TI:=⟨.struct #[⟨"Lit",5,0,false, "", "",0⟩,⟨"Dist",3,1,false, "", "",8⟩,⟨"Long",3,2,false, "", "",16⟩],.agg #[.int .u8 0,.int .i64 0,.int .i64 0],3,24,true⟩
def GN:TI:=⟨.slice 126,.slice none 0 0,1,24,false⟩
def GO:TI:=⟨.struct #[⟨"l",121,0,false, "", "bellows/block",0⟩],.agg #[.slice none 0 0],1,24,false⟩
def GP:TI:=⟨.int .u32,.int .u32 0,1,4,false⟩
def GQ:TI:=⟨.struct #[⟨"v",124,0,false, "", "bellows/block",0⟩,⟨"n",3,1,false, "", "bellows/block",8⟩],.agg #[.int .u32 0,.int .i64 0],2,16,true⟩
def GR:TI:=⟨.array 3 5,.agg #[.int .u8 0,.int .u8 0,.int .u8 0],3,3,true⟩
def GS:TI:=⟨.struct #[⟨"Size",3,0,false, "", "",0⟩,⟨"Bytes",24,1,false, "", "",8⟩],.agg #[.int .i64 0,.slice none 0 0],2,32,false⟩
def GU:TI:=⟨.slice 169,.slice none 0 0,1,24,false⟩
def GV:TI:=⟨.slice 24,.slice none 0 0,1,24,false⟩
def GW:TI:=⟨.array 16 3,.agg #[.int .i64 0,.int .i64 0,.int .i64 0,.int .i64 0,.int .i64 0,.int .i64 0,.int .i64 0,.int .i64 0,.int .i64 0,.int .i64 0,.int .i64 0,.int .i64 0,.int .i64 0,.int .i64 0,.int .i64 0,.int .i64 0],16,128,true⟩
def GX:TI:=⟨.slice 3,.slice none 0 0,1,24,false⟩
def GY:TI:=⟨.struct #[⟨"Count",151,0,false, "", "",0⟩,⟨"Syms",152,16,false, "", "",128⟩],.agg #[.int .i64 0,.int .i64 0,.int .i64 0,.int .i64 0,.int .i64 0,.int .i64 0,.int .i64 0,.int .i64 0,.int .i64 0,.int .i64 0,.int .i64 0,.int .i64 0,.int .i64 0,.int .i64 0,.int .i64 0,.int .i64 0,.slice none 0 0],17,152,false⟩
def GZ:TI:=⟨.pointer 163,.pointer none,1,8,false⟩
def G0:TI:=⟨.struct #[⟨"Pen",26,0,true, "", "",0⟩],.agg #[.slice none 0 0,.int .i64 0],2,32,false⟩
def G1:TI:=⟨.struct #[⟨"V",124,0,false, "", "",0⟩,⟨"N",3,1,false, "", "",8⟩],.agg #[.int .u32 0,.int .i64 0],2,16,true⟩
def G2:TI:=⟨.struct #[⟨"Lit",5,0,false, "", "",0⟩,⟨"Dist",3,1,false, "", "",8⟩,⟨"Long",3,2,false, "", "",16⟩],.agg #[.int .u8 0,.int .i64 0,.int .i64 0],3,24,true⟩
def G3:TI:=⟨.array 286 3,.agg (Zq 286 (.int .i64 0)),286,2288,true⟩
def G4:TI:=⟨.array 30 3,.agg #[.int .i64 0,.int .i64 0,.int .i64 0,.int .i64 0,.int .i64 0,.int .i64 0,.int .i64 0,.int .i64 0,.int .i64 0,.int .i64 0,.int .i64 0,.int .i64 0,.int .i64 0,.int .i64 0,.int .i64 0,.int .i64 0,.int .i64 0,.int .i64 0,.int .i64 0,.int .i64 0,.int .i64 0,.int .i64 0,.int .i64 0,.int .i64 0,.int .i64 0,.int .i64 0,.int .i64 0,.int .i64 0,.int .i64 0,.int .i64 0],30,240,true⟩
def G5:TI:=⟨.slice 187,.slice none 0 0,1,24,false⟩
def G6:TI:=⟨.array 19 3,.agg #[.int .i64 0,.int .i64 0,.int .i64 0,.int .i64 0,.int .i64 0,.int .i64 0,.int .i64 0,.int .i64 0,.int .i64 0,.int .i64 0,.int .i64 0,.int .i64 0,.int .i64 0,.int .i64 0,.int .i64 0,.int .i64 0,.int .i64 0,.int .i64 0,.int .i64 0],19,152,true⟩
def G7:TI:=⟨.struct #[⟨"Sym",3,0,false, "", "",0⟩,⟨"Extra",3,1,false, "", "",8⟩],.agg #[.int .i64 0,.int .i64 0],2,16,true⟩
def G8:TI:=⟨.slice 210,.slice none 0 0,1,24,false⟩
def G9:TI:=⟨.func #[3] #[3,3] false,.nilFunc,1,8,false⟩
def Ha:TI:=⟨.int .u64,.int .u64 0,1,8,false⟩
def qf:TI:=⟨.struct #[⟨"Bits",124,0,false, "", "",0⟩,⟨"Long",5,1,false, "", "",4⟩],.agg #[.int .u32 0,.int .u8 0],2,8,true⟩
def Hb:TI:=⟨.int .u64,.int .u64 0,1,8,false⟩
def Hc:TI:=⟨.slice 225,.slice none 0 0,1,24,false⟩
def xd:TI:=⟨.slice 231,.slice none 0 0,1,24,false⟩
def Hd:TI:=⟨.struct #[⟨"weight",3,0,false, "", "bellows/build",0⟩,⟨"pair",4,1,false, "", "bellows/build",8⟩],.agg #[.int .i64 0,.bool false],2,16,true⟩
def He:TI:=⟨.array 17 124,.agg #[.int .u32 0,.int .u32 0,.int .u32 0,.int .u32 0,.int .u32 0,.int .u32 0,.int .u32 0,.int .u32 0,.int .u32 0,.int .u32 0,.int .u32 0,.int .u32 0,.int .u32 0,.int .u32 0,.int .u32 0,.int .u32 0,.int .u32 0],17,68,true⟩
def Hf:TI:=⟨.struct #[⟨"bits",3,0,false, "", "bellows/reach",0⟩,⟨"least",3,1,false, "", "bellows/reach",8⟩,⟨"many",3,2,false, "", "bellows/reach",16⟩],.agg #[.int .i64 0,.int .i64 0,.int .i64 0],3,24,true⟩
def Hg:TI:=⟨.slice 248,.slice none 0 0,1,24,false⟩
def Hh:TI:=⟨.struct #[⟨"first",3,0,false, "", "bellows/reach",0⟩,⟨"symbols",250,1,false, "", "bellows/reach",8⟩],.agg #[.int .i64 0,.slice none 0 0],2,32,false⟩
def Hi:TI:=⟨.array 29 3,.agg #[.int .i64 0,.int .i64 0,.int .i64 0,.int .i64 0,.int .i64 0,.int .i64 0,.int .i64 0,.int .i64 0,.int .i64 0,.int .i64 0,.int .i64 0,.int .i64 0,.int .i64 0,.int .i64 0,.int .i64 0,.int .i64 0,.int .i64 0,.int .i64 0,.int .i64 0,.int .i64 0,.int .i64 0,.int .i64 0,.int .i64 0,.int .i64 0,.int .i64 0,.int .i64 0,.int .i64 0,.int .i64 0,.int .i64 0],29,232,true⟩
def Hj:TI:=⟨.slice 291,.slice none 0 0,1,24,false⟩
def Hk:TI:=⟨.struct #[⟨"Weight",3,0,false, "", "",0⟩,⟨"Of",152,1,false, "", "",8⟩],.agg #[.int .i64 0,.slice none 0 0],2,32,false⟩
def Tl:List (Nat×TI):=[(2,UF),(3,Mf),(4,UG),(5,zB),(9,UH),(12,MI),(15,MJ),(16,MK),(17,ML),(20,MM),(21,MN),(22,MO),(23,MP),(24,MQ),(25,MR),(26,MS),(27,MT),(28,MU),(31,MV),(53,MW),(55,MX),(56,MY),(64,MZ),(68,M0),(82,M1),(90,M2),(95,M3),(105,GJ),(111,GK),(118,GL),(119,GM),(121,GN),(123,GO),(124,GP),(126,GQ),(129,GR),(132,GS),(135,GU),(149,GV),(151,GW),(152,GX),(154,GY),(161,GZ),(163,G0),(169,G1),(175,G2),(176,G3),(177,G4),(182,G5),(185,G6),(187,G7),(189,G8),(196,G9),(204,Ha),(210,qf),(217,Hb),(224,Hc),(225,xd),(231,Hd),(234,He),(248,Hf),(250,Hg),(252,Hh),(256,Hi),(286,Hj),(291,Hk)]
def T:TT:=(.n (.n (.n (.n (.n (.n .e (some MV) (.n .e (some M3) .e)) (some MJ) (.n .e none (.n (.n .e (some G2) .e) (some GK) .e))) none (.n (.n (.n (.n .e (some GU) .e) none .e) none (.n .e none (.n .e (some Hd) .e))) (some MP) (.n (.n (.n .e (some GW) .e) none .e) (some MX) (.n .e (some GM) .e)))) (some Mf) (.n (.n (.n .e none (.n (.n (.n .e (some Hk) .e) (some G0) .e) none .e)) none .e) none (.n .e (some MT) (.n .e none (.n (.n .e (some G7) .e) (some GO) .e))))) none (.n (.n (.n (.n (.n (.n .e (some GR) .e) none .e) none (.n (.n .e (some GZ) .e) none (.n .e (some xd) .e))) (some ML) (.n .e none (.n (.n .e (some G4) .e) none .e))) (some UH) (.n (.n .e none (.n (.n .e (some G1) .e) (some GJ) .e)) (some MR) (.n (.n .e none (.n .e (some Hb) .e)) none (.n (.n .e (some G6) .e) (some GN) .e)))) (some zB) (.n (.n .e (some MN) (.n (.n (.n .e (some GV) .e) none .e) (some MW) .e)) none (.n .e none (.n .e none (.n (.n .e (some G8) .e) none .e)))))) none (.n (.n (.n (.n (.n (.n (.n (.n .e (some Hi) .e) none .e) (some MZ) .e) none (.n .e none (.n .e (some Hc) .e))) (some MK) (.n .e none (.n (.n .e (some G3) .e) none .e))) none (.n .e (some MQ) (.n (.n (.n .e (some GX) .e) none .e) (some MY) (.n .e none (.n .e (some Hf) .e))))) (some UG) (.n (.n (.n (.n (.n .e (some GS) .e) (some M0) (.n .e (some G9) .e)) none .e) (some MM) .e) (some MI) (.n (.n (.n .e none (.n .e (some Ha) .e)) none .e) (some MU) (.n .e none (.n .e (some GP) (.n .e (some Hh) .e)))))) (some UF) (.n (.n (.n .e none (.n (.n .e (some M1) (.n .e (some qf) .e)) none .e)) none (.n (.n .e none (.n .e none (.n .e (some He) .e))) (some MS) (.n (.n (.n .e (some GY) .e) (some M2) .e) none (.n .e none (.n .e (some Hg) .e))))) none (.n (.n .e (some MO) (.n .e none (.n (.n .e (some G5) .e) (some GL) .e))) none (.n .e none (.n (.n (.n (.n .e (some Hj) .e) none .e) none .e) none (.n .e (some GQ) .e)))))))
set_option maxRecDepth 100000 in
theorem T_ok:TT.ok Tryz.prog T:=by
 refine TT.ok_ofL (l:=Tl) ?_ (by kernel_rfl)
 repeat(first|refine⟨RV (by kernel_rfl) (by kernel_rfl) rfl,?_⟩|refine⟨MB (by kernel_rfl) (by kernel_rfl) rfl (by kernel_rfl) (by kernel_rfl) (by kernel_rfl),?_⟩)
 trivial
theorem ah:Tryz.prog.follows .mixedOrders=true:=by kernel_rfl
open Go.RowKit Go.Bw
abbrev zN (n:Nat):D:=.v (.int .i64 (n:Int))
abbrev zI (x:Int):D:=.v (.int .i64 x)
abbrev zS:D:=.v (.slice none 0 0)
abbrev ai (n:Nat):D:=.v (.int .u32 (n:Int))
abbrev da (n:Nat):D:=.v (.int .u8 (n:Int))
abbrev uI (x:Int):D:=.v (.int .u32 x)
abbrev bI (x:Int):D:=.v (.int .u8 x)
theorem vM {p:Prop}[Decidable p](h:decide p=true):p:=of_decide_eq_true h
theorem vN {p:Prop}[Decidable p](h:decide p=false):¬p:=of_decide_eq_false h
def _root_.Go.Vx.Hn.cl {P:Program}(f:FuncId)(al:Bool)(fp:List Nat){q hin:_}{r:D}{bs:List Blk}(h:CallOk al P f q hin r bs)(nx:Hn P):Hn P:=.call f al fp true rfl q q (cQ.refl q) true rfl hin r bs h nx
def _root_.Go.Vx.Hn.op {P:Program}(x:Int)(h:-9223372036854775808<=x∧x<=9223372036854775807)(nx:Hn P):Hn P:=.opt (ay .i64 x) (.v (.int .i64 x)) (fz h) nx
def _root_.Go.Vx.Hn.bd {P:Program}(p:Prop)[Decidable p](f:decide p=true->p->Hn P)(g:decide p=false->¬p->Hn P):Hn P:=.br (decide p) (λ h=>f h (of_decide_eq_true h)) (λ h=>g h (of_decide_eq_false h))
theorem qr {d:D}{p:Prop}(h:p):D.sim d d∧p:=⟨.refl _,h⟩
theorem kr {p:Prop}(h:p:=by kernel_rfl):p:=h
abbrev S0:=SpecH false Tryz.prog
abbrev S1:=SpecH true Tryz.prog
def SpR {al:Bool}:=@SpecH.run Tryz.prog al T T_ok ah
def _root_.Go.Vx.Hn.ow {P:Program}(x:Int)(nx:Hn P)(h:-9223372036854775808<=x∧x<=9223372036854775807:=by omega):Hn P:=.opt (ay .i64 x) (.v (.int .i64 x)) (fz h) nx
def _root_.Go.Vx.Hn.K {P:Program}(n:Nat)(b:Bool)(p:b=true)(h:Hn P):Hn P:=.s n (.chk b p h)
def _root_.Go.Vx.Hn.O {P:Program}(n:Nat)(o:Option D)(d:D)(p:o=some d)(h:Hn P):Hn P:=.s n (.opt o d p h)
def _root_.Go.Vx.Hn.V {P:Program}(n:Nat)(t:Nat)(d d':D)(p:d=d')(h:Hn P):Hn P:=.s n (.val t d d' p h)
def _root_.Go.Vx.Hn.F {P:Program}(n:Nat)(b:Bool)(p:b=false)(h:Hn P):Hn P:=.s n (.f b p h)
def _root_.Go.Vx.Hn.E {P:Program}(n:Nat)(b:Bool)(p:b=true)(h:Hn P):Hn P:=.s n (.t b p h)
def _root_.Go.Vx.Hn.R {P:Program}(n:Nat)(b:Bool)(p:b=true->Hn P)(h:b=false->Hn P):Hn P:=.s n (.br b p h)
def _root_.Go.Vx.Hn.U {P:Program}(n:Nat)(k g:List Nat)(r:D)(b:List Blk)(R:D->List Blk->Prop)(p:R r b):Hn P:=.s n (.out k g r b R p)
def _root_.Go.Vx.Hn.W {P:Program}(n:Nat)(x:Int)(h:Hn P)(p:-9223372036854775808<=x∧x<=9223372036854775807:=by omega):Hn P:=.s n (.ow x h p)
def _root_.Go.Vx.Hn.I {P:Program}(n:Nat)(x:Int)(p:-9223372036854775808<=x∧x<=9223372036854775807)(h:Hn P):Hn P:=.s n (.op x p h)
def _root_.Go.Vx.Hn.B {P:Program}(n:Nat)(p:Prop)[Decidable p](f:decide p=true->p->Hn P)(g:decide p=false->¬p->Hn P):Hn P:=.s n (.bd p f g)
def _root_.Go.Vx.Hn.C {P:Program}(n:Nat)(f:FuncId)(al:Bool)(l:List Nat){q b:_}{r:D}{c:List Blk}(p:CallOk al P f q b r c)(h:Hn P):Hn P:=.s n (.cl f al l p h)
def _root_.Go.Vx.Hn.M {P:Program}(n:Nat)(k g:Nat)(b b':Blk)(p:b=b')(h:Hn P):Hn P:=.s n (.blk k g b b' p h)
def _root_.Go.Vx.Hn.L {P:Program}(n:Nat)(f:FuncId)(al:Bool)(l:List Nat)(b:Bool)(p:b=true)(q:List D){c:List D}(e:cQ q c){d r g:_}(i:CallOk al P f c d r g)(h:Hn P):Hn P:=.s n (.call f al l b p q c e true rfl d r g i h)
def _root_.Go.Vx.Hn.Y {P:Program}(n:Nat)(k g:List Nat)(r:D)(b:List Blk){R:D->List Blk->Prop}{q c:_}(o:∀x y,x=q->y=c->R x y)(p:r=q:=by with_reducible rfl)(h:b=c:=by with_reducible rfl):Hn P:=.s n (.out k g r b R (o r b p h))
theorem Q197:ao Tryz.prog 197:=.of Tryz.func197 rfl rfl
theorem Q61:ao Tryz.prog 61:=.of Tryz.func61 rfl rfl
theorem Q47:ao Tryz.prog 47:=.of Tryz.func47 rfl rfl
theorem Q48:ao Tryz.prog 48:=.of Tryz.func48 rfl rfl
theorem Q80:ao Tryz.prog 80:=.of Tryz.func80 rfl rfl
theorem Q112:ao Tryz.prog 112:=.of Tryz.func112 rfl rfl
theorem Q131:ao Tryz.prog 131:=.of Tryz.func131 rfl rfl
theorem Q99:ao Tryz.prog 99:=.of Tryz.func99 rfl rfl
theorem Q57:ao Tryz.prog 57:=.of Tryz.func57 rfl rfl
theorem Q50:ao Tryz.prog 50:=.of Tryz.func50 rfl rfl
theorem Q49:ao Tryz.prog 49:=.of Tryz.func49 rfl rfl
theorem Q60:ao Tryz.prog 60:=.of Tryz.func60 rfl rfl
theorem Q201:ao Tryz.prog 201:=.of Tryz.func201 rfl rfl
theorem Q108:ao Tryz.prog 108:=.of Tryz.func108 rfl rfl
theorem Q109:ao Tryz.prog 109:=.of Tryz.func109 rfl rfl
theorem Q136:ao Tryz.prog 136:=.of Tryz.func136 rfl rfl
theorem Q135:ao Tryz.prog 135:=.of Tryz.func135 rfl rfl
theorem Q71:ao Tryz.prog 71:=.of Tryz.func71 rfl rfl
theorem Q21:ao Tryz.prog 21:=.of Tryz.func21 rfl rfl
theorem Q23:ao Tryz.prog 23:=.of Tryz.func23 rfl rfl
theorem wr {p:Prop}(h:p:=by with_reducible rfl):p:=h
theorem om {p:Prop}(h:p:=by omega):p:=h
theorem aO {p:Prop}(h:p:=by assumption):p:=h
theorem ro {p:Prop}(h:p:=by repeat' first|exact trivial|exact rfl|exact(λ _=>aF _)|exact(λ _=>by assumption)|exact(λ _=>bu _ (λ _=>rfl) _)|exact(λ _=>bW (λ _=>rfl) _)|(intro h;cases h;done)|(intro _;rfl)|(intro _;exact cz _ (bu _ (λ _=>rfl) _))|exact iR _ (bu _ (λ _=>rfl) _)|refine And.intro ?_ ?_|refine eF ?_ ?_|(intro _;refine cy ?_ ?_)|refine cy ?_ ?_|(intro _;refine fI ?_ ?_)|exact cz _ (bu _ (λ _=>rfl) _)|exact bu _ (λ _=>rfl) _):p:=h
theorem Hl:ao Tryz.prog 10:=.of Tryz.func10 rfl rfl
theorem M4:ao Tryz.prog 17:=.of Tryz.func17 rfl rfl
theorem Hm:ao Tryz.prog 18:=.of Tryz.func18 rfl rfl
theorem R9:ao Tryz.prog 22:=.of Tryz.func22 rfl rfl
theorem Sa:ao Tryz.prog 24:=.of Tryz.func24 rfl rfl
theorem Sb:ao Tryz.prog 29:=.of Tryz.func29 rfl rfl
theorem Sc:ao Tryz.prog 31:=.of Tryz.func31 rfl rfl
theorem UI:ao Tryz.prog 32:=.of Tryz.func32 rfl rfl
theorem Ho:ao Tryz.prog 39:=.of Tryz.func39 rfl rfl
theorem Jt:ao Tryz.prog 43:=.of Tryz.func43 rfl rfl
theorem Sd:ao Tryz.prog 44:=.of Tryz.func44 rfl rfl
theorem xe:ao Tryz.prog 56:=.of Tryz.func56 rfl rfl
theorem Vl:ao Tryz.prog 59:=.of Tryz.func59 rfl rfl
theorem UJ:ao Tryz.prog 63:=.of Tryz.func63 rfl rfl
theorem UK:ao Tryz.prog 64:=.of Tryz.func64 rfl rfl
theorem UL:ao Tryz.prog 65:=.of Tryz.func65 rfl rfl
theorem Vn:ao Tryz.prog 79:=.of Tryz.func79 rfl rfl
theorem UM:ao Tryz.prog 81:=.of Tryz.func81 rfl rfl
theorem Ru:ao Tryz.prog 86:=.of Tryz.func86 rfl rfl
theorem UN:ao Tryz.prog 97:=.of Tryz.func97 rfl rfl
theorem Vo:ao Tryz.prog 98:=.of Tryz.func98 rfl rfl
theorem M5:ao Tryz.prog 100:=.of Tryz.func100 rfl rfl
theorem M6:ao Tryz.prog 101:=.of Tryz.func101 rfl rfl
theorem M7:ao Tryz.prog 102:=.of Tryz.func102 rfl rfl
theorem A8:ao Tryz.prog 105:=.of Tryz.func105 rfl rfl
theorem Se:ao Tryz.prog 111:=.of Tryz.func111 rfl rfl
theorem Sf:ao Tryz.prog 113:=.of Tryz.func113 rfl rfl
theorem M8:ao Tryz.prog 117:=.of Tryz.func117 rfl rfl
theorem Si:ao Tryz.prog 128:=.of Tryz.func128 rfl rfl
theorem M9:ao Tryz.prog 129:=.of Tryz.func129 rfl rfl
theorem Na:ao Tryz.prog 130:=.of Tryz.func130 rfl rfl
theorem Nb:ao Tryz.prog 132:=.of Tryz.func132 rfl rfl
theorem Nc:ao Tryz.prog 133:=.of Tryz.func133 rfl rfl
theorem Sj:ao Tryz.prog 134:=.of Tryz.func134 rfl rfl
theorem Sk:ao Tryz.prog 138:=.of Tryz.func138 rfl rfl
theorem Sl:ao Tryz.prog 139:=.of Tryz.func139 rfl rfl
theorem Sm:ao Tryz.prog 141:=.of Tryz.func141 rfl rfl
theorem vO:ao Tryz.prog 142:=.of Tryz.func142 rfl rfl
theorem vP:ao Tryz.prog 143:=.of Tryz.func143 rfl rfl
theorem Ju:ao Tryz.prog 144:=.of Tryz.func144 rfl rfl
theorem Sn:ao Tryz.prog 147:=.of Tryz.func147 rfl rfl
theorem So:ao Tryz.prog 148:=.of Tryz.func148 rfl rfl
theorem ff:ao Tryz.prog 152:=.of Tryz.func152 rfl rfl
theorem Sp:ao Tryz.prog 155:=.of Tryz.func155 rfl rfl
theorem Sq:ao Tryz.prog 160:=.of Tryz.func160 rfl rfl
theorem Sr:ao Tryz.prog 163:=.of Tryz.func163 rfl rfl
theorem Nd:ao Tryz.prog 164:=.of Tryz.func164 rfl rfl
theorem Ss:ao Tryz.prog 165:=.of Tryz.func165 rfl rfl
theorem St:ao Tryz.prog 168:=.of Tryz.func168 rfl rfl
theorem Su:ao Tryz.prog 170:=.of Tryz.func170 rfl rfl
theorem A9:ao Tryz.prog 175:=.of Tryz.func175 rfl rfl
theorem Sv:ao Tryz.prog 176:=.of Tryz.func176 rfl rfl
theorem Sw:ao Tryz.prog 186:=.of Tryz.func186 rfl rfl
theorem Sx:ao Tryz.prog 187:=.of Tryz.func187 rfl rfl
theorem Sz:ao Tryz.prog 188:=.of Tryz.func188 rfl rfl
theorem SA:ao Tryz.prog 189:=.of Tryz.func189 rfl rfl
theorem SB:ao Tryz.prog 193:=.of Tryz.func193 rfl rfl
theorem SC:ao Tryz.prog 198:=.of Tryz.func198 rfl rfl
end Go.Proofs.YtefjnofhgkjpmaaGreat
namespace Go.Proofs.YtefjnofhgkjpmaaGreat
open Go.RowKit Go.Bw Go.Vx
open List (length getD map take drop flatMap replicate)
namespace Vp
def wB (c:List D)(n z:Nat):Bool:=true&&VN (0+n*z) (length c)&&true&&ae (bif true&&VK (n*z) (length c)then c else take (n*z) (drop 0 c))
abbrev wD (c:List D)(n z:Nat):D:=V3 (VN 1 n) n z (bif true&&VK (n*z) (length c)then c else take (n*z) (drop 0 c))
abbrev iD (i:Int):D:=.v (.int .i64 i)
abbrev aY:D:=.v (.slice none 0 0)
abbrev uD (n:Nat):D:=.v (.int .u32 (n:Int))
abbrev nD (n:Nat):D:=.v (.int .i64 (n:Int))
abbrev bD (b:Bool):D:=.v (.bool b)
abbrev dY (n:Nat):D:=.v (.int .u8 (n:Int))
def lk {α β:Type}(b:List β)(x:α):α:=match b with
 |[]=>x
 |_::_=>x
theorem aP {α β:Type}(b:List β)(x:α):lk b x=x:=by cases b<;>rfl
def ln (b:Z4)(p:Nat):Nat:=(b.getD (p/8) lh).toNat/2^(p%8)%2
def Nf (b:Z4)(p:Nat):Nat->Nat
 |0=>0
 |n+1=>Nf b p n+2^n*ln b (p+n)
def SD (b:Z4)(p m:Nat):Nat:=lk b (if 8*b.length<p+m then 0 else Nf b p m)
def Vq (b:Z4)(p m:Nat):Nat:=lk b (if 8*b.length<p+m then 10 else 0)
def bl:Z4->Nat
 |[]=>0
 |x::r=>(if x.toNat=0 then 0 else 2^(15-x.toNat))+bl r
def bH:Z4->Nat
 |[]=>0
 |x::r=>(if x.toNat=0 then 0 else 1)+bH r
def ew (l:Z4)(most:Nat):Bool:=l.any λ x=>decide (most<x.toNat)
theorem zC (a c:Z4):bl (a++c)=bl a+bl c:=by
 induction a with
 |nil=>simp[bl]
 |cons x r ih=>rw[Yh,bl,bl,ih];omega
theorem zD (a c:Z4):bH (a++c)=bH a+bH c:=by
 induction a with
 |nil=>simp[bH]
 |cons x r ih=>rw[Yh,bH,bH,ih];omega
theorem Ba (l:Z4):bH l<=l.length:=by
 induction l with
 |nil=>exact VT _
 |cons x r ih=>rw[bH,Wj];split<;>omega
theorem Bb (l:Z4):bl l<=l.length*32768:=by
 induction l with
 |nil=>exact VT _
 |cons x r ih=>
  rw[bl,Wj];have:2^(15-x.toNat)<=2^15:=WF (by decide) om
  split<;>omega
theorem qg {l:Z4}{i:Nat}(h:i<l.length):l.take (i+1)=l.take i++[l.getD i lh]:=iT h
theorem im {l:Z4}{i:Nat}(h:i<l.length):bl (l.take (i+1))=bl (l.take i)+(if(l.getD i lh).toNat=0 then 0 else 2^(15-(l.getD i lh).toNat)):=by
 rw[qg h,zC];rfl
theorem jV {l:Z4}{i:Nat}(h:i<l.length):bH (l.take (i+1))=bH (l.take i)+(if(l.getD i lh).toNat=0 then 0 else 1):=by
 rw[qg h,zD];rfl
def vQ (l:Z4)(most:Nat):Nat:=
 if 320<l.length then 4 else if ew l most=true then 2 else if 32768<bl l then 30
 else if bl l=32768∨bH l=0∨bH l=1∧bl l=16384 then 0 else 31
def dI (l:Z4)(most:Nat):Nat:=lk l (vQ l most)
theorem kA (l:Z4)(most:Nat):dI l most=vQ l most:=aP _ _
theorem xf {l:Z4}{most i:Nat}(h:i<l.length)(h2:most<(l.getD i lh).toNat):ew l most=true:=by
 unfold ew;rw[ZO];refine⟨l.getD i lh,?_,decide_eq_true h2⟩;rw[VH,VG h];exact WE h
theorem mZ {l:Z4}{most:Nat}(h:∀i,i<l.length->(l.getD i lh).toNat<=most):ew l most=false:=by
 unfold ew;rw[List.any_eq_false];intro x hx;obtain⟨i,hi⟩:=WO hx;have hlt:=(List.getElem?_eq_some_iff.1 hi).1;have:=h i hlt;rw[VH,hi]at this;simpa using this
theorem f8 {l:Z4}{most:Nat}(h:ew l most=false){i:Nat}(hi:i<l.length):(l.getD i lh).toNat<=most:=by
 rcases Wl most (l.getD i lh).toNat with q|q
 ·rw[xf hi q]at h;cases h
 ·exact q
theorem gi {l:Z4}{most:Nat}(h:dI l most=0):l.length<=320∧ew l most=false∧bl l<=32768:=by
 rw[kA]at h;unfold vQ at h
 split at h
 ·cases h
 ·split at h
  ·cases h
  ·split at h
   ·cases h
   ·refine⟨by omega,by simp_all,by omega⟩
def fg (l:Z4)(n k:Nat):List Nat:=(WP k).filter λ i=>decide ((l.getD i lh).toNat=n)
def tE (l:Z4):Nat->List Nat
 |0=>[]
 |n+1=>tE l n++(if n=0 then[]else fg l n l.length)
def Bc (l:Z4)(n:Nat):Nat:=if n=0 then 0 else(fg l n l.length).length
def aW (l:Z4)(n:Nat):Nat:=lk l (Bc l n)
def dU (l:Z4):List Nat:=lk l (tE l 16)
def UO (f:Nat->Nat):List D:=[nD (f 0),nD (f 1),nD (f 2),nD (f 3),nD (f 4),nD (f 5),nD (f 6),nD (f 7),nD (f 8),nD (f 9),nD (f 10),nD (f 11),nD (f 12),nD (f 13),nD (f 14),nD (f 15)]
def Ng (m:Nat)(l:Z4):List D:=UO (aW l)++[.sl false m 1 ((dU l).map nD)]
abbrev Hp (m:Nat)(l:Z4):D:=.agg (Ng m l)
theorem fA (l:Z4)(n k:Nat):fg l n (k+1)=fg l n k++(if(l.getD k lh).toNat=n then[k]else[]):=by
 unfold fg;rw[Yv,List.filter_append]
 congr 1
 rw[List.filter_cons,List.filter_nil]
 by_cases h:(l.getD k lh).toNat=n
 ·rw[ZF h,ZF (decide_eq_true h)]
 ·rw[ZE h,ZE (by simpa using h)]
theorem rf (l:Z4)(n k:Nat):(fg l n k).length<=k:=by
 unfold fg;exact VR (List.length_filter_le _ _) (by simp)
theorem Bd {l:Z4}{n k i:Nat}:i∈fg l n k↔i<k∧(l.getD i lh).toNat=n:=by
 unfold fg;simp
theorem n9 (l:Z4)(n:Nat):aW l n=Bc l n:=aP _ _
@[simp] theorem oa (xs:List Nat):ae (xs.map nD)=true:=bu _ (λ _=>rfl) xs
def rb (s:Nat):Nat:=if s=16 then 2 else if s=17 then 3 else if s=18 then 7 else 0
def p2 (s:Nat):Nat:=2^rb s
structure Rn where
 s:Nat
 x:Nat
 deriving Inhabited
abbrev dp (r:Rn):List D:=[nD r.s,nD r.x]
theorem xg (s:Nat):p2 s<=128∧rb s<=7:=by unfold p2 rb;split;decide;split;decide;split<;>decide
theorem Nh (s:Nat)(h:s<=18):S0 113 [nD s] [] (.tup [nD (rb s),iD 0]) []:=SpR Tryz.func113 rfl rfl rfl trivial rfl 1000 64 (λ R ok=>.F 13 (decide (18<(s:Int))) (by(refine decide_eq_false ?_;(omega)))<|.R 4 ((s:Int)==16) (λ p0=>have Z9:=eq_of_beq p0;.U 2 [] [] (WL [zI 2,zI 0]) [] R (ok _ _ (by((have hs:s=16:=by omega);subst hs;rfl)) wr)) (λ p0=>have Z9:=ap p0;.R 4 ((s:Int)==17) (λ p1=>have Z8:=eq_of_beq p1;.U 2 [] [] (WL [zI 3,zI 0]) [] R (ok _ _ (by((have hs:s=17:=by omega);subst hs;rfl)) wr)) (λ p1=>have Z8:=ap p1;.R 4 ((s:Int)==18) (λ p2=>have Z7:=eq_of_beq p2;.U 2 [] [] (WL [zI 7,zI 0]) [] R (ok _ _ (by((have hs:s=18:=by omega);subst hs;rfl)) wr)) (λ p2=>have Z7:=ap p2;.U 2 [] [] (WL [zI 0,zI 0]) [] R (ok _ _ (by(rw[show rb s=0 from by unfold rb;rw[ZE om,ZE om,ZE om]];rfl)) wr))))) kr
structure Sy where
 bits:Nat
 least:Nat
 many:Nat
 deriving Inhabited
abbrev jt (s:Sy):List D:=[nD s.bits,nD s.least,nD s.many]
def aB:List Sy:=[⟨0,3,1⟩,⟨0,4,1⟩,⟨0,5,1⟩,⟨0,6,1⟩,⟨0,7,1⟩,⟨0,8,1⟩,⟨0,9,1⟩,⟨0,10,1⟩,⟨1,11,2⟩,⟨1,13,2⟩,⟨1,15,2⟩,⟨1,17,2⟩,⟨2,19,4⟩,⟨2,23,4⟩,⟨2,27,4⟩,⟨2,31,4⟩,⟨3,35,8⟩,⟨3,43,8⟩,⟨3,51,8⟩,⟨3,59,8⟩,⟨4,67,16⟩,⟨4,83,16⟩,⟨4,99,16⟩,⟨4,115,16⟩,⟨5,131,32⟩,⟨5,163,32⟩,⟨5,195,32⟩,⟨5,227,31⟩,⟨0,258,1⟩]
def aM:List Sy:=[⟨0,1,1⟩,⟨0,2,1⟩,⟨0,3,1⟩,⟨0,4,1⟩,⟨1,5,2⟩,⟨1,7,2⟩,⟨2,9,4⟩,⟨2,13,4⟩,⟨3,17,8⟩,⟨3,25,8⟩,⟨4,33,16⟩,⟨4,49,16⟩,⟨5,65,32⟩,⟨5,97,32⟩,⟨6,129,64⟩,⟨6,193,64⟩,⟨7,257,128⟩,⟨7,385,128⟩,⟨8,513,256⟩,⟨8,769,256⟩,⟨9,1025,512⟩,⟨9,1537,512⟩,⟨10,2049,1024⟩,⟨10,3073,1024⟩,⟨11,4097,2048⟩,⟨11,6145,2048⟩,⟨12,8193,4096⟩,⟨12,12289,4096⟩,⟨13,16385,8192⟩,⟨13,24577,8192⟩]
theorem EM (T:List Sy)(hT:T=aB):S0 160 [] [] (.agg [iD 257,.ref 0 0 0 29 3]) [⟨T.flatMap jt, 248,true⟩]:=SpR Tryz.func160 rfl rfl rfl ⟨dn (λ _=>rfl) _,trivial⟩ rfl 4000 64 (λ R ok=>.U 1376 [5080] [5080] (Wu [zI 257,VJ 0 0 0 29 3]) [VF [zI 0,zI 3,zI 1,zI 0,zI 4,zI 1,zI 0,zI 5,zI 1,zI 0,zI 6,zI 1,zI 0,zI 7,zI 1,zI 0,zI 8,zI 1,zI 0,zI 9,zI 1,zI 0,zI 10,zI 1,zI 1,zI 11,zI 2,zI 1,zI 13,zI 2,zI 1,zI 15,zI 2,zI 1,zI 17,zI 2,zI 2,zI 19,zI 4,zI 2,zI 23,zI 4,zI 2,zI 27,zI 4,zI 2,zI 31,zI 4,zI 3,zI 35,zI 8,zI 3,zI 43,zI 8,zI 3,zI 51,zI 8,zI 3,zI 59,zI 8,zI 4,zI 67,zI 16,zI 4,zI 83,zI 16,zI 4,zI 99,zI 16,zI 4,zI 115,zI 16,zI 5,zI 131,zI 32,zI 5,zI 163,zI 32,zI 5,zI 195,zI 32,zI 5,zI 227,zI 31,zI 0,zI 258,zI 1] 248 true] R (ok _ _ wr (by(subst hT;rfl)))) kr
theorem Jv (T:List Sy)(hT:T=aM):S0 163 [] [] (.agg [iD 0,.ref 0 0 0 30 3]) [⟨T.flatMap jt, 248,true⟩]:=SpR Tryz.func163 rfl rfl rfl ⟨dn (λ _=>rfl) _,trivial⟩ rfl 4000 64 (λ R ok=>.U 1562 [5768] [5768] (Wu [zI 0,VJ 0 0 0 30 3]) [VF [zI 0,zI 1,zI 1,zI 0,zI 2,zI 1,zI 0,zI 3,zI 1,zI 0,zI 4,zI 1,zI 1,zI 5,zI 2,zI 1,zI 7,zI 2,zI 2,zI 9,zI 4,zI 2,zI 13,zI 4,zI 3,zI 17,zI 8,zI 3,zI 25,zI 8,zI 4,zI 33,zI 16,zI 4,zI 49,zI 16,zI 5,zI 65,zI 32,zI 5,zI 97,zI 32,zI 6,zI 129,zI 64,zI 6,zI 193,zI 64,zI 7,zI 257,zI 128,zI 7,zI 385,zI 128,zI 8,zI 513,zI 256,zI 8,zI 769,zI 256,zI 9,zI 1025,zI 512,zI 9,zI 1537,zI 512,zI 10,zI 2049,zI 1024,zI 10,zI 3073,zI 1024,zI 11,zI 4097,zI 2048,zI 11,zI 6145,zI 2048,zI 12,zI 8193,zI 4096,zI 12,zI 12289,zI 4096,zI 13,zI 16385,zI 8192,zI 13,zI 24577,zI 8192] 248 true] R (ok _ _ wr (by(subst hT;rfl)))) kr
theorem D9 {p:Prop}(h:p:=by(refine aG ?_;(omega))):p:=h
theorem Jw {p:Prop}(h:p:=by(simp only[bj (k:=2) (λ(x:Rn)=>(rfl:(dp x).length=2)),Nat.beq_refl,Bool.true_and,Bool.and_true];refine Nat.ble_eq_true_of_le ?_;(omega))):p:=h
theorem Jx {p:Prop}(h:p:=by(rw[List.length_append];rfl)):p:=h
theorem Jy {p:Prop}(h:p:=by(rw[List.length_append];simp only[List.length_singleton];(omega))):p:=h
theorem Ni {p:Prop}(h:p:=by((refine aC ?_ ?_)<;>(repeat' (first|(refine aC ?_ ?_)|(with_reducible rfl)|(refine decide_eq_true ?_)|(refine Nat.ble_eq_true_of_le ?_)|(refine dA ?_)))<;>(omega))):p:=h
theorem Rv {p:Prop}(h:p:=by show n-(a+1)<n-a;clear ZB ZD;omega):p:=h
theorem SE {p:Prop}(h:p:=by(simp;have h9:=iC (l:=l) (a:=a) om;omega)):p:=h
theorem SF {p:Prop}(h:p:=by(have h9:=iC (l:=l) (a:=a) om;omega)):p:=h
theorem SG {p:Prop}(h:p:=by(simp only[Nat.mul_one]at *;have h9:=iC (l:=l) (a:=a) om;exact Nk hR om om om om)):p:=h
def sI (l:Z4)(a:Nat):Nat->Nat->Nat
 |0,n=>n
 |f+1,n=>if a+n<l.length∧l.getD (a+n) lh=l.getD a lh then sI l a f (n+1)else n
def bN (l:Z4)(a:Nat):Nat:=lk l (sI l a l.length 0)
theorem vR (l:Z4)(a:Nat):bN l a=sI l a l.length 0:=aP _ _
theorem Nj {l:Z4}{a f n T:Nat}(hR:sI l a f n=T)(hf:l.length<=a+n+f)(h:a+n<l.length)(h2:l.getD (a+n) lh=l.getD a lh):sI l a (f-1) (n+1)=T:=by
 obtain⟨g,rfl⟩:∃g,f=g+1:=⟨f-1,by omega⟩
 rw[<-hR];exact(ZF ⟨h,h2⟩).symm
theorem Jz {l:Z4}{a f n T:Nat}(hR:sI l a f n=T)(h:¬(a+n<l.length∧l.getD (a+n) lh=l.getD a lh)):n=T:=by
 rw[<-hR];cases f with
 |zero=>rfl
 |succ f=>exact(ZE h).symm
theorem Be {x y:UInt8}(h:((x.toNat:Nat):Int)=((y.toNat:Nat):Int)):x=y:=UInt8.toNat_inj.1 om
theorem Hq {l:Z4}{a f n T u v:Nat}(hR:sI l a f n=T)(hf:l.length<=a+n+f)(h:a+n<l.length)(hu:u=a+n)(hv:v=a)(h2:(((l.getD u lh).toNat:Nat):Int)=(((l.getD v lh).toNat:Nat):Int)):sI l a (f-1) (n+1)=T:=by
 subst hu hv;exact Nj hR hf h (Be h2)
theorem Hr {l:Z4}{a f n T u v:Nat}(hR:sI l a f n=T)(hu:u=a+n)(hv:v=a)(h2:(((l.getD u lh).toNat:Nat):Int)≠(((l.getD v lh).toNat:Nat):Int)):n=T:=by
 subst hu hv;exact Jz hR (λ q=>h2 (by rw[q.2]))
theorem Hs {l:Z4}{a:Nat}:∀(f n:Nat),a+n<=l.length->n<=sI l a f n∧a+sI l a f n<=l.length
 |0,n,h=>⟨VT _,h⟩
 |f+1,n,h=>by
  rw[sI];split
  ·next q=>have:=Hs (l:=l) (a:=a) f (n+1) om;omega
  ·exact⟨VT _,h⟩
theorem iC {l:Z4}{a:Nat}(h:a<l.length):1<=bN l a∧a+bN l a<=l.length:=by
 rw[vR];obtain⟨f,hf⟩:∃f,l.length=f+1:=⟨l.length-1,by omega⟩
 rw[hf,sI,ZF ⟨by omega,by rw[Xw]⟩];have:=Hs (l:=l) (a:=a) f (0+1) om;omega
def jJ (l:Z4):Nat->Nat->List Rn
 |0,_=>[]
 |f+1,a=>if l.length<=a then[]
  else if(l.getD a lh).toNat=0∧11<=bN l a then⟨18,min (bN l a) 138-11⟩::jJ l f (a+min (bN l a) 138)
  else if(l.getD a lh).toNat=0∧3<=bN l a then⟨17,bN l a-3⟩::jJ l f (a+bN l a)
  else if 0<(l.getD a lh).toNat∧0<a∧(l.getD (a-1) lh).toNat=(l.getD a lh).toNat∧3<=bN l a then⟨16,min (bN l a) 6-3⟩::jJ l f (a+min (bN l a) 6)
  else⟨(l.getD a lh).toNat,0⟩::jJ l f (a+1)
def xh (l:Z4):List Rn:=lk l (jJ l l.length 0)
theorem rg (l:Z4):xh l=jJ l l.length 0:=aP _ _
section
variable {l:Z4} {f a:Nat} {o T:List Rn}
theorem EN (hR:o++jJ l f a=T)(h:l.length<=a):o=T:=by
 rw[<-hR];cases f with
 |zero=>exact(WN _).symm
 |succ f=>rw[jJ,ZF h];exact(WN _).symm
theorem SH (hR:o++jJ l f a=T)(hf:l.length<=a+f)(h:a<l.length)(h0:(l.getD a lh).toNat=0)(h1:11<=bN l a):(o++[⟨18,min (bN l a) 138-11⟩])++jJ l (f-1) (a+min (bN l a) 138)=T:=by
 obtain⟨g,rfl⟩:∃g,f=g+1:=⟨f-1,by omega⟩
 rw[<-hR,jJ,ZE om,ZF ⟨h0,h1⟩,Wc];rfl
theorem SI (hR:o++jJ l f a=T)(hf:l.length<=a+f)(h:a<l.length)(h0:(l.getD a lh).toNat=0)(h1:¬11<=bN l a)(h2:3<=bN l a):(o++[⟨17,bN l a-3⟩])++jJ l (f-1) (a+bN l a)=T:=by
 obtain⟨g,rfl⟩:∃g,f=g+1:=⟨f-1,by omega⟩
 rw[<-hR,jJ,ZE om,ZE (λ q=>h1 q.2),ZF ⟨h0,h2⟩,Wc];rfl
theorem SJ (hR:o++jJ l f a=T)(hf:l.length<=a+f)(h:a<l.length)(h0:0<(l.getD a lh).toNat)(ha:0<a)(h1:(l.getD (a-1) lh).toNat=(l.getD a lh).toNat)(h2:3<=bN l a):(o++[⟨16,min (bN l a) 6-3⟩])++jJ l (f-1) (a+min (bN l a) 6)=T:=by
 obtain⟨g,rfl⟩:∃g,f=g+1:=⟨f-1,by omega⟩
 rw[<-hR,jJ,ZE om,ZE (λ q=>by omega),ZE (λ q=>by omega),ZF ⟨h0,ha,h1,h2⟩,Wc];rfl
theorem Nk (hR:o++jJ l f a=T)(hf:l.length<=a+f)(h:a<l.length)(h0:¬((l.getD a lh).toNat=0∧3<=bN l a))(h1:¬(0<(l.getD a lh).toNat∧0<a∧(l.getD (a-1) lh).toNat=(l.getD a lh).toNat∧3<=bN l a)):(o++[⟨(l.getD a lh).toNat,0⟩])++jJ l (f-1) (a+1)=T:=by
 obtain⟨g,rfl⟩:∃g,f=g+1:=⟨f-1,by omega⟩
 rw[<-hR,jJ,ZE om,ZE (λ q=>h0 ⟨q.1,by omega⟩),ZE h0,ZE h1,Wc];rfl
end
theorem Nl {o:List Rn}{x:Rn}:(o++[x]).flatMap dp=o.flatMap dp++[nD x.s,nD x.x]:=by rw[WH];rfl
theorem EO (l:Z4)(n:Nat)(hn:n=l.length)(hn2:n<=320)(a:Nat)(ha:a<n):S0 147 [nD a,.ep [.sl false n 1 (l.map dB)] 0] [] (nD (bN l a)) []:=SpR Tryz.func147 rfl rfl rfl trivial rfl 1000 64 (λ R ok=>.s 1<|Hn.inl T_ok ah false 26 0 (aq Tryz.prog 147 0) (λ(x:(i:Nat)×'(f:Nat)×'(hi:a+i<=n)×'(hf:n<=a+i+f)×'(hR:sI l a f i=bN l a)×'Unit)=>match x with|⟨i,f,hi,hf,hR,_⟩=>CutS.mk [(0,zN a),(1,D.ep [V3 false n 1 (map dB l)] 0),(3,nD i)] [] 0) (λ(x:(i:Nat)×'(f:Nat)×'(hi:a+i<=n)×'(hf:n<=a+i+f)×'(hR:sI l a f i=bN l a)×'Unit)=>match x with|⟨i,f,hi,hf,hR,_⟩=>n-i) [⟨Unit,.exit 0,λ x=>match x with|()=>CutS.mk [(0,zN a),(1,D.ep [V3 false n 1 (map dB l)] 0),(3,nD (bN l a))] [] 0⟩] 1000 64 (fun|⟨i,f,hi,hf,hR,_⟩,Q,ZB,ZD=>.W 5 (a+i)<|.B 8 ((a:Int)+i<n) (λ p0 Z9=>.W 9 (a+i)<|.K 2 (true&&decide ((a:Int)+i<n)&&true) Ni<|.O 3 ((map dB l)[zq ((a:Int)+i)*1]?) (dB (getD l (zq ((a:Int)+i)*1) lh)) (am _ _ om)<|.K 8 (true&&decide ((a:Int)<n)&&true) Ni<|.O 3 ((map dB l)[a*1]?) (dB (getD l (a*1) lh)) (am _ _ om)<|.R 4 ((↑(VE (getD l (zq ((a:Int)+i)*1) lh)):Int)==(↑(VE (getD l (a*1) lh)):Int)) (λ p1=>have Z8:=eq_of_beq p1;.W 3 (i+1)<|.V 1 3 (zI (i+1)) (zN (i+1)) D9<|Hn.next ZB ⟨(i+1),(f-1),om,om,(by(exact Hq (u:=((a:Int)+i).toNat*1) (v:=a*1) hR om om om om om)),⟨⟩⟩ (by show n-(i+1)<n-i;clear ZB ZD;omega) [] ro) (λ p1=>have Z8:=ap p1;.val 3 (zN i) (zN (bN l a)) (by(rw[Hr (u:=((a:Int)+i).toNat*1) (v:=a*1) hR om om om]))<|Hn.last ZD 0 (():Unit) rfl [] ro)) (λ p0 Z9=>.V 22 3 (zN i) (zN (bN l a)) (by(rw[Jz hR om]))<|Hn.last ZD 0 (():Unit) rfl [] ro)) (fun|⟨i,f,hi,hf,hR,_⟩=>by kernel_rfl) ⟨(0),(n),om,om,(by(rw[hn];exact(vR l a).symm)),⟨⟩⟩ [] ro (bM (fun|()=>.Y 2 [] [] (zN (bN l a)) [] ok))) kr
theorem Nn (n k:Nat):iE .i64 false (n:Int) (k:Int)=some (nD (min n k)):=EH om
theorem kB (l:Z4):∀(f a:Nat),(jJ l f a).length<=f
 |0,_=>VT _
 |f+1,a=>by
  rw[jJ]
  split
  ·exact Wy _
  ·split
   ·exact Yg (kB l f _)
   ·split
    ·exact Yg (kB l f _)
    ·split
     ·exact Yg (kB l f _)
     ·exact Yg (kB l f _)
theorem SK (l:Z4)(n:Nat)(hn:n=l.length)(hn2:n<=320)(ho:∀i,i<n->(l.getD i lh).toNat<=15)(T:List Rn)(hT:xh l=T):S0 110 [.sl false n 1 (l.map dB)] [] (.tup [.ref 0 0 0 T.length 2,iD 0]) [⟨T.flatMap dp, 187,true⟩]:=SpR Tryz.func110 rfl rfl rfl ⟨dn (λ _=>rfl) _,trivial⟩ rfl 1000 64 (λ R ok=>.F 10 (decide (320<(n:Int))) (by(refine decide_eq_false ?_;(omega)))<|.s 5<|Hn.inl T_ok ah false 101 0 (aq Tryz.prog 110 0) (λ(x:(i:Nat)×'(hi:i<=n)×'Unit)=>match x with|⟨i,hi,_⟩=>CutS.mk [(1,V7 0 0 0),(2,aY),(13,V3 false n 1 (map dB l)),(14,zN n),(15,nD i)] [⟨0,0,0,0,.b ⟨[V3 false n 1 (map dB l)],24,false⟩⟩] 8) (λ(x:(i:Nat)×'(hi:i<=n)×'Unit)=>match x with|⟨i,hi,_⟩=>n-i) [⟨Unit,.exit 0,λ x=>match x with|()=>CutS.mk [(1,V7 0 0 0),(2,aY),(13,V3 false n 1 (map dB l)),(14,zN n),(15,nD n)] [⟨0,0,0,0,.b ⟨[V3 false n 1 (map dB l)],24,false⟩⟩] 8⟩] 1000 64 (fun|⟨i,hi,_⟩,Q,ZB,ZD=>.B 2 ((i:Int)<n) (λ p0 Z9=>.K 1 (true&&decide ((i:Int)<n)&&true) Ni<|.O 2 ((map dB l)[i*1]?) (dB (getD l (i*1) lh)) (am _ _ om)<|.F 4 (decide (15<(↑(VE (getD l (i*1) lh)):Int))) (by(refine decide_eq_false ?_;have h9:=ho (i*1) om;omega))<|.W 2 (i+1)<|.V 1 15 (zI (i+1)) (zN (i+1)) D9<|Hn.next ZB ⟨(i+1),om,⟨⟩⟩ (by show n-(i+1)<n-i;clear ZB ZD;omega) [(0,0)] ro) (λ p0 Z9=>.val 15 (zN i) (zN n) D9<|Hn.last ZD 0 (():Unit) rfl [(0,0)] ro)) (fun|⟨i,hi,_⟩=>by kernel_rfl) ⟨(0),om,⟨⟩⟩ [(0,0)] ro (bM (fun|()=>.s 3<|.nils 2 32 2 187<|Hn.inl T_ok ah false 101 0 (aq Tryz.prog 110 1) (λ(x:(a:Nat)×'(f:Nat)×'(o:List Rn)×'(ha:a<=n)×'(hf:n<=a+f)×'(hq:o.length<=a)×'(hR:o++jJ l f a=T)×'Unit)=>match x with|⟨a,f,o,ha,hf,hq,hR,_⟩=>CutS.mk [(1,V7 0 0 0),(2,(VJ 8 8 (0) (o.length) 2)),(6,D.fn (Fn.func 147) [] [V7 0 0 0]),(7,nD a)] [⟨0,0,0,0,.b ⟨[V3 false n 1 (map dB l)],24,false⟩⟩,⟨8,8,32,32,.b ⟨o.flatMap dp,187,true⟩⟩] 16) (λ(x:(a:Nat)×'(f:Nat)×'(o:List Rn)×'(ha:a<=n)×'(hf:n<=a+f)×'(hq:o.length<=a)×'(hR:o++jJ l f a=T)×'Unit)=>match x with|⟨a,f,o,ha,hf,hq,hR,_⟩=>n-a) [⟨Unit,.exit 2,λ x=>match x with|()=>CutS.mk [(1,V7 0 0 0),(2,(VJ 8 8 (0) (T.length) 2)),(6,D.fn (Fn.func 147) [] [V7 0 0 0])] [⟨0,0,0,0,.b ⟨[V3 false n 1 (map dB l)],24,false⟩⟩,⟨8,8,32,32,.b ⟨T.flatMap dp,187,true⟩⟩] 16⟩] 1000 64 (fun|⟨a,f,o,ha,hf,hq,hR,_⟩,Q,ZB,ZD=>.B 7 ((a:Int)<n) (λ p1 Z8=>.C 4 147 false [] (.fn Sn (@EO (l) (n) om om (a) om))<|.K 5 (true&&decide ((a:Int)<n)&&true) Ni<|.O 2 ((map dB l)[a*1]?) (dB (getD l (a*1) lh)) (am _ _ om)<|.I 1 (↑(VE (getD l (a*1) lh)):Int) (by(exact dR _ (by decide) (by decide)))<|.R 7 ((↑(VE (getD l (a*1) lh)):Int)==0) (λ p2=>have Z7:=eq_of_beq p2;.B 5 (11<=(↑(bN l a):Int)) (λ p3 Z6=>.O 2 (iE VV false (↑(bN l a):Int) (↑138:Int)) (nD (min (bN l a) 138)) (@Nn (bN l a) 138)<|.W 5 ((↑(min (bN l a) 138):Int)-11)<|.K 5 (true&&VK (length o*2) (length (flatMap dp o))&&true&&true&&true&&true&&VN ((length o+1)*16) 140737488355328) Jw<|.W 5 (a+(↑(min (bN l a) 138):Int))<|.V 1 2 (VJ 248 248 0 (length o+1) 2) (VJ 248 248 0 (length (o++[Rn.mk 18 (min (bN l a) 138-11)])) 2) Jx<|.val 7 (zI (a+(↑(min (bN l a) 138):Int))) (zN (a+min (bN l a) 138)) D9<|.blk 248 248 (VF (flatMap dp o++[zI 18,zI ((↑(min (bN l a) 138):Int)-11)]) 187 true) (VF (flatMap dp (o++[Rn.mk 18 (min (bN l a) 138-11)])) 187 true) SE<|Hn.next ZB ⟨(a+min (bN l a) 138),(f-1),(o++[⟨18,min (bN l a) 138-11⟩]),SF,om,Jy,(by(simp only[V5]at *;have h9:=iC (l:=l) (a:=a) om;exact SH hR om om om om)),⟨⟩⟩ (by show n-(a+min (bN l a) 138)<n-a;clear ZB ZD;omega) [(0,0),(248,248)] ro) (λ p3 Z6=>.E 5 ((↑(VE (getD l (a*1) lh)):Int)==0) p2<|.B 5 (3<=(↑(bN l a):Int)) (λ p4 Z5=>.W 4 ((↑(bN l a):Int)-3)<|.K 5 (true&&VK (length o*2) (length (flatMap dp o))&&true&&true&&true&&true&&VN ((length o+1)*16) 140737488355328) Jw<|.W 5 (a+(↑(bN l a):Int))<|.V 1 2 (VJ 280 280 0 (length o+1) 2) (VJ 280 280 0 (length (o++[Rn.mk 17 (bN l a-3)])) 2) Jx<|.val 7 (zI (a+(↑(bN l a):Int))) (zN (a+bN l a)) D9<|.blk 280 280 (VF (flatMap dp o++[zI 17,zI ((↑(bN l a):Int)-3)]) 187 true) (VF (flatMap dp (o++[Rn.mk 17 (bN l a-3)])) 187 true) SE<|Hn.next ZB ⟨(a+bN l a),(f-1),(o++[⟨17,bN l a-3⟩]),SF,om,Jy,(by(simp only[V5]at *;have h9:=iC (l:=l) (a:=a) om;exact SI hR om om om om om)),⟨⟩⟩ (by show n-(a+bN l a)<n-a;clear ZB ZD;omega) [(0,0),(280,280)] ro) (λ p4 Z5=>.F 5 (decide (0<(↑(VE (getD l (a*1) lh)):Int))) (by(refine decide_eq_false ?_;(omega)))<|.K 37 (true&&VK (length o*2) (length (flatMap dp o))&&true&&true&&true&&true&&VN ((length o+1)*16) 140737488355328) Jw<|.W 5 (a+1)<|.V 1 2 (VJ 448 448 0 (length o+1) 2) (VJ 448 448 0 (length (o++[Rn.mk (VE (getD l a lh)) 0])) 2) Jx<|.val 7 (zI (a+1)) (zN (a+1)) D9<|.blk 448 448 (VF (flatMap dp o++[zN (VE (getD l (a*1) lh)),zI 0]) 187 true) (VF (flatMap dp (o++[Rn.mk (VE (getD l a lh)) 0])) 187 true) (by(simp;done))<|Hn.next ZB ⟨(a+1),(f-1),(o++[⟨(l.getD a lh).toNat,0⟩]),om,om,Jy,SG,⟨⟩⟩ Rv [(0,0),(448,448)] ro))) (λ p2=>have Z7:=ap p2;.F 10 ((↑(VE (getD l (a*1) lh)):Int)==0) p2<|.E 10 (decide (0<(↑(VE (getD l (a*1) lh)):Int))) (by(refine decide_eq_true ?_;(omega)))<|.B 6 (0<(a:Int)) (λ p5 p5f=>.W 7 (a-1)<|.K 2 (decide (0<=(a:Int)-1)&&decide ((a:Int)-1<n)&&true) Ni<|.O 3 ((map dB l)[zq ((a:Int)-1)*1]?) (dB (getD l (zq ((a:Int)-1)*1) lh)) (am _ _ om)<|.I 2 (↑(VE (getD l (zq ((a:Int)-1)*1) lh)):Int) (by(exact dR _ (by decide) (by decide)))<|.R 8 ((↑(VE (getD l (zq ((a:Int)-1)*1) lh)):Int)==(↑(VE (getD l (a*1) lh)):Int)) (λ p6=>have p6f:=eq_of_beq p6;.B 5 (3<=(↑(bN l a):Int)) (λ p7 p7f=>.O 2 (iE VV false (↑(bN l a):Int) (↑6:Int)) (nD (min (bN l a) 6)) (@Nn (bN l a) 6)<|.W 5 ((↑(min (bN l a) 6):Int)-3)<|.K 5 (true&&VK (length o*2) (length (flatMap dp o))&&true&&true&&true&&true&&VN ((length o+1)*16) 140737488355328) Jw<|.W 5 (a+(↑(min (bN l a) 6):Int))<|.V 1 2 (VJ 472 472 0 (length o+1) 2) (VJ 472 472 0 (length (o++[Rn.mk 16 (min (bN l a) 6-3)])) 2) Jx<|.val 7 (zI (a+(↑(min (bN l a) 6):Int))) (zN (a+min (bN l a) 6)) D9<|.blk 472 472 (VF (flatMap dp o++[zI 16,zI ((↑(min (bN l a) 6):Int)-3)]) 187 true) (VF (flatMap dp (o++[Rn.mk 16 (min (bN l a) 6-3)])) 187 true) SE<|Hn.next ZB ⟨(a+min (bN l a) 6),(f-1),(o++[⟨16,min (bN l a) 6-3⟩]),SF,om,Jy,(by(simp only[V5]at *;have h9:=iC (l:=l) (a:=a) om;exact SJ hR om om om om (by rw[show((a:Int)-1).toNat=a-1 from by omega]at *;omega) om)),⟨⟩⟩ (by show n-(a+min (bN l a) 6)<n-a;clear ZB ZD;omega) [(0,0),(472,472)] ro) (λ p7 p7f=>.K 8 (true&&VK (length o*2) (length (flatMap dp o))&&true&&true&&true&&true&&VN ((length o+1)*16) 140737488355328) Jw<|.W 5 (a+1)<|.V 1 2 (VJ 448 448 0 (length o+1) 2) (VJ 448 448 0 (length (o++[Rn.mk (VE (getD l a lh)) 0])) 2) Jx<|.val 7 (zI (a+1)) (zN (a+1)) D9<|.blk 448 448 (VF (flatMap dp o++[zN (VE (getD l (a*1) lh)),zI 0]) 187 true) (VF (flatMap dp (o++[Rn.mk (VE (getD l a lh)) 0])) 187 true) (by(simp;done))<|Hn.next ZB ⟨(a+1),(f-1),(o++[⟨(l.getD a lh).toNat,0⟩]),om,om,Jy,SG,⟨⟩⟩ Rv [(0,0),(448,448)] ro)) (λ p6=>have p6f:=ap p6;.K 13 (true&&VK (length o*2) (length (flatMap dp o))&&true&&true&&true&&true&&VN ((length o+1)*16) 140737488355328) Jw<|.W 5 (a+1)<|.V 1 2 (VJ 448 448 0 (length o+1) 2) (VJ 448 448 0 (length (o++[Rn.mk (VE (getD l a lh)) 0])) 2) Jx<|.val 7 (zI (a+1)) (zN (a+1)) D9<|.blk 448 448 (VF (flatMap dp o++[zN (VE (getD l (a*1) lh)),zI 0]) 187 true) (VF (flatMap dp (o++[Rn.mk (VE (getD l a lh)) 0])) 187 true) (by(simp;done))<|Hn.next ZB ⟨(a+1),(f-1),(o++[⟨(l.getD a lh).toNat,0⟩]),om,om,Jy,(by(simp only[V5]at *;have h9:=iC (l:=l) (a:=a) om;rw[show((a:Int)-1).toNat=a-1 from by omega]at *;exact Nk hR om om om om)),⟨⟩⟩ Rv [(0,0),(448,448)] ro)) (λ p5 p5f=>.K 31 (true&&VK (length o*2) (length (flatMap dp o))&&true&&true&&true&&true&&VN ((length o+1)*16) 140737488355328) Jw<|.W 5 (a+1)<|.V 1 2 (VJ 448 448 0 (length o+1) 2) (VJ 448 448 0 (length (o++[Rn.mk (VE (getD l a lh)) 0])) 2) Jx<|.val 7 (zI (a+1)) (zN (a+1)) D9<|.blk 448 448 (VF (flatMap dp o++[zN (VE (getD l (a*1) lh)),zI 0]) 187 true) (VF (flatMap dp (o++[Rn.mk (VE (getD l a lh)) 0])) 187 true) (by(simp;done))<|Hn.next ZB ⟨(a+1),(f-1),(o++[⟨(l.getD a lh).toNat,0⟩]),om,om,Jy,SG,⟨⟩⟩ Rv [(0,0),(448,448)] ro))) (λ p1 Z8=>.val 2 (VJ 8 8 0 (length o) 2) (VJ 8 8 0 (length T) 2) (by(rw[EN hR om]))<|.blk 8 8 (VF (flatMap dp o) 187 true) (VF (flatMap dp T) 187 true) (by(rw[EN hR om]))<|Hn.last ZD 0 (():Unit) rfl [(0,0),(8,8)] ro)) (fun|⟨a,f,o,ha,hf,hq,hR,_⟩=>by kernel_rfl) ⟨(0),(n),([]),om,om,(by(simp;done)),(by(rw[hn];exact(rg l).symm.trans hT)),⟨⟩⟩ [(0,0),(32,32)] ro (bM (fun|()=>.Y 3 [8] [8] (WL [VJ 0 0 0 (length T) 2,zI 0]) [VF (flatMap dp T) 187 true] ok))))) kr
def D8 (T:List Sy)(f:Int)(s:Nat):Nat:=if f<=s∧s<f+T.length then 0 else 90
def bk (T:List Sy):Prop:=∀i,(T.getD i lh).bits<=13∧(T.getD i lh).least<=100000∧(T.getD i lh).many<=100000
theorem tF {T:List Sy}(h:T.all (λ y=>decide (y.bits<=13)&&decide (y.least<=100000)&&decide (y.many<=100000))=true):bk T:=λ i=>by
 rw[VH]
 cases hq:T[i]? with
 |none=>exact⟨Wy _,Wy _,Wy _⟩
 |some y=>
  have:=List.all_eq_true.1 h y (W4 hq);simp only[VO,decide_eq_true_eq]at this;exact⟨this.1.1,this.1.2,this.2⟩
theorem No {x:Int}(h:-9223372036854775808<=x∧x<=9223372036854775807):IntKind.i64.wrap x=x:=by
 have h2:=fz (x:=x) h;rw[aE]at h2;injection h2 with h3;injection h3 with h4;injection h4
theorem cN:bk aB:=tF (by decide)
theorem dq:bk aM:=tF (by decide)
theorem SL {p:Prop}(h:p:=by(have q:=SM hR om om rfl om om;have h9:=hz i;subst q;refine aG ?_;omega)):p:=h
def Np (s:Sy)(n:Nat):Bool:=decide (s.least<=n∧n<s.least+s.many)
def qh (T:List Sy)(n:Nat):Nat->Nat->Nat
 |0,i=>i
 |f+1,i=>if Np (T.getD i lh) n=true then i else qh T n f (i+1)
def ak (T:List Sy)(n:Nat):Nat:=lk T (qh T n T.length 0)
theorem fM (T:List Sy)(n:Nat):ak T n=qh T n T.length 0:=aP _ _
theorem Ht {T:List Sy}{n:Nat}:∀(f i:Nat),i<=qh T n f i
 |0,_=>VT _
 |f+1,i=>by
  rw[qh];split
  ·exact VT _
  ·exact Nat.le_of_succ_le (Ht f (i+1))
theorem SM {T:List Sy}{n f i I u:Nat}(hR:qh T n f i=I)(hf:T.length<=i+f)(hi:i<T.length)(hu:u=i)(h1:(T.getD u lh).least<=n)(h2:n<(T.getD u lh).least+(T.getD u lh).many):i=I:=by
 subst hu;obtain⟨g,rfl⟩:∃g,f=g+1:=⟨f-1,by omega⟩
 rw[<-hR,qh,ZF (show Np (T.getD u lh) n=true from decide_eq_true ⟨h1,h2⟩)]
theorem EP {T:List Sy}{n f i I u:Nat}(hR:qh T n f i=I)(hf:T.length<=i+f)(hi:i<T.length)(hu:u=i)(h:¬((T.getD u lh).least<=n∧n<(T.getD u lh).least+(T.getD u lh).many)):qh T n (f-1) (i+1)=I∧i+1<=I:=by
 subst hu;obtain⟨g,rfl⟩:∃g,f=g+1:=⟨f-1,by omega⟩
 rw[qh,ZE (λ q:Np (T.getD u lh) n=true=>h (of_decide_eq_true q))]at hR;exact⟨hR,by rw[<-hR];exact Ht g (u+1)⟩
theorem tG {T:List Sy}{n:Nat}:∀(f i:Nat),qh T n f i<i+f->(T.getD (qh T n f i) lh).least<=n∧n<(T.getD (qh T n f i) lh).least+(T.getD (qh T n f i) lh).many
 |0,i,h=>absurd h (by rw[qh];omega)
 |f+1,i,h=>by
  rw[qh]at h ⊢
  by_cases q:Np (T.getD i lh) n=true
  ·rw[ZF q];exact of_decide_eq_true q
  ·rw[ZE q]at h ⊢;exact tG f (i+1) om
def SN:List Sy->Nat->Nat->Bool
 |[],a,b=>VK a b
 |s::l,a,b=>VK s.least a&&SN l (a+s.many) b
theorem Bf {n b:Nat}(T:List Sy):∀(f i a:Nat),i+f=T.length->SN (T.drop i) a b=true->a<=n->n<b->qh T n f i<i+f
 |0,i,a,h,hc,h1,h2=>by
  rw[WS om]at hc;have:=VQ hc;omega
 |f+1,i,a,h,hc,h1,h2=>by
  rw[List.drop_eq_getElem_cons (by omega:i<T.length),SN,VO]at hc;have e:T.getD i lh=T[i]'om:=by rw[VH,VG om];rfl
  have hl:=VQ hc.1;rw[qh,e]
  by_cases q:Np (T[i]'om) n=true
  ·rw[ZF q];omega
  ·rw[ZE q]
   have q2:=of_decide_eq_false (Bool.eq_false_iff.2 q);have:=Bf (n:=n) (b:=b) T f (i+1) (a+(T[i]'om).many) om hc.2 om h2;omega
theorem Bg (T:List Sy)(k:Nat)(hk:k=T.length)(hk2:k<=64)(hz:bk T)(b:Nat)(hb:b<=257)(n:Nat)(hn:n<=40000)(I:Nat)(hI:ak T n=I)(hIk:I<k):S0 173 [.agg [nD b,.sl false k 3 (T.flatMap jt)],nD n] [] (.tup [nD (b+I),nD (T.getD I lh).bits,nD (n-(T.getD I lh).least),iD 0]) []:=SpR Tryz.func173 rfl rfl rfl trivial rfl 1000 64 (λ R ok=>.s 14<|Hn.inl T_ok ah false 42 0 (aq Tryz.prog 173 0) (λ(x:(i:Nat)×'(f:Nat)×'(hi:i<=k)×'(hf:k<=i+f)×'(hR:qh T n f i=I)×'(hi2:i<=I)×'Unit)=>match x with|⟨i,f,hi,hf,hR,hi2,_⟩=>CutS.mk [(1,zN n),(2,V7 0 0 0),(11,V3 false k 3 (flatMap jt T)),(12,zN k),(13,nD i)] [⟨0,0,0,0,.b ⟨[zN b,V3 false k 3 (flatMap jt T)],252,false⟩⟩] 8) (λ(x:(i:Nat)×'(f:Nat)×'(hi:i<=k)×'(hf:k<=i+f)×'(hR:qh T n f i=I)×'(hi2:i<=I)×'Unit)=>match x with|⟨i,f,hi,hf,hR,hi2,_⟩=>k-i) [⟨Unit,.ret,λ x=>match x with|()=>CutS.mk [(4,nD (b+I)),(5,nD (T.getD I lh).bits),(6,nD (n-(T.getD I lh).least)),(7,iD 0)] [⟨0,0,0,0,.b ⟨[zN b,V3 false k 3 (flatMap jt T)],252,false⟩⟩] 8⟩] 1000 64 (fun|⟨i,f,hi,hf,hR,hi2,_⟩,Q,ZB,ZD=>.E 2 (decide ((i:Int)<k)) (by(refine decide_eq_true ?_;(omega)))<|.K 2 (true&&decide ((i:Int)<k)&&true) (by((refine aC ?_ ?_)<;>(repeat' (first|(refine aC ?_ ?_)|(with_reducible rfl)|(refine decide_eq_true ?_)|(refine VL ?_)|(refine dA ?_)))<;>(omega)))<|.K 2 (VN (i*3+3) (length (flatMap jt T))) (by(rw[bj (k:=3) (λ _=>rfl)];refine VL ?_;(omega)))<|.lst (take 3 (drop (i*3) (flatMap jt T))) ([zN (Sy.bits (getD T i lh)),zN (Sy.least (getD T i lh)),zN (Sy.many (getD T i lh))]) (aJ (k:=3) (i:=i) (λ _=>rfl) om om)<|.B 17 ((↑(Sy.least (getD T i lh)):Int)<=(n:Int)) (λ p0 Z9=>.I 19 ((↑(Sy.least (getD T i lh)):Int)+(↑(Sy.many (getD T i lh)):Int)) (by(have h9:=hz i;omega))<|.B 4 ((n:Int)<(↑(Sy.least (getD T i lh)):Int)+(↑(Sy.many (getD T i lh)):Int)) (λ p1 Z8=>.W 10 (b+i)<|.W 15 (n-(↑(Sy.least (getD T i lh)):Int))<|.V 4 4 (zI (b+i)) (zN (b+I)) SL<|.val 5 (zN (Sy.bits (getD T i lh))) (zN (Sy.bits (getD T I lh))) SL<|.val 6 (zI (n-(↑(Sy.least (getD T i lh)):Int))) (zN (n-Sy.least (getD T I lh))) SL<|Hn.last ZD 0 (():Unit) rfl [(0,0)] ro) (λ p1 Z8=>.W 2 (i+1)<|.V 1 13 (zI (i+1)) (zN (i+1)) (by(refine aG ?_;(omega)))<|Hn.next ZB ⟨(i+1),(f-1),om,om,(by(exact(EP hR om om rfl om).1)),(by(exact(EP hR om om rfl om).2)),⟨⟩⟩ (by show k-(i+1)<k-i;clear ZB ZD;omega) [(0,0)] ro)) (λ p0 Z9=>.W 16 (i+1)<|.V 1 13 (zI (i+1)) (zN (i+1)) (by(refine aG ?_;(omega)))<|Hn.next ZB ⟨(i+1),(f-1),om,om,(by(exact(EP hR om om rfl om).1)),(by(exact(EP hR om om rfl om).2)),⟨⟩⟩ (by show k-(i+1)<k-i;clear ZB ZD;omega) [(0,0)] ro)) (fun|⟨i,f,hi,hf,hR,hi2,_⟩=>by kernel_rfl) ⟨(0),(k),om,om,(by(rw[hk];exact(fM T n).symm.trans hI)),om,⟨⟩⟩ [(0,0)] ro (bM (fun|()=>.out [] [] (WL [zN (b+I),zN (Sy.bits (getD T I lh)),zN (n-Sy.least (getD T I lh)),zI 0]) [] R (ok _ _ wr wr)))) kr
theorem JA (T:List Sy)(hT:T=aB)(hl:T.length=29)(hz:bk T)(n:Nat)(hn:n<=40000)(I:Nat)(hI:ak T n=I)(hIk:I<29):S0 142 [nD n] [] (.tup [nD (257+I),nD (T.getD I lh).bits,nD (n-(T.getD I lh).least),iD 0]) []:=SpR Tryz.func142 rfl rfl rfl trivial rfl 1000 64 (λ R ok=>.C 5 160 false [] (.fn Sq (@EM (T) aO))<|.L 2 173 false [] (true&&(true&&(true&&VN 87 (length (flatMap jt T))&&true&&ae (bif true&&VK 87 (length (flatMap jt T))then flatMap jt T else take 87 (drop 0 (flatMap jt T))))&&true)&&true) (by(have q:ae (T.flatMap jt)=true:=bW (f:=jt) (λ _=>rfl) T;rw[bj (f:=jt) (k:=3) (λ _=>rfl),hl];simp only[show VN 87 (29*3)=true from rfl,show VK 87 (29*3)=true from rfl,Wf,cond_true,q])) ([Wu [zI 257,V3 true 29 3 (bif true&&VK 87 (length (flatMap jt T))then flatMap jt T else take 87 (drop 0 (flatMap jt T)))],zN n]) (by exact(And.intro (D.sim.agg (qr (And.intro (D.sim.slw rfl (aL (by(have q:ae (T.flatMap jt)=true:=bW (f:=jt) (λ _=>rfl) T;rw[bj (f:=jt) (k:=3) (λ _=>rfl),hl];simp only[show VN 87 (29*3)=true from rfl,show VK 87 (29*3)=true from rfl,Wf,cond_true,q]))|>.trans rfl)) trivial))) (qr trivial))) (CallOk.fn (ao.of Tryz.func173 rfl rfl) (@Bg (T) (29) om om om (257) (by(simp;done)) (n) om (I) aO om))<|.Y 12 [] [] (WL [zN (257+I),zN (Sy.bits (getD T I lh)),zN (n-Sy.least (getD T I lh)),zI 0]) [] ok) kr
theorem Nq (T:List Sy)(hT:T=aM)(hl:T.length=30)(hz:bk T)(n:Nat)(hn:n<=40000)(I:Nat)(hI:ak T n=I)(hIk:I<30):S0 143 [nD n] [] (.tup [nD (0+I),nD (T.getD I lh).bits,nD (n-(T.getD I lh).least),iD 0]) []:=SpR Tryz.func143 rfl rfl rfl trivial rfl 1000 64 (λ R ok=>.C 5 163 false [] (.fn Sr (@Jv (T) aO))<|.L 2 173 false [] (true&&(true&&(true&&VN 90 (length (flatMap jt T))&&true&&ae (bif true&&VK 90 (length (flatMap jt T))then flatMap jt T else take 90 (drop 0 (flatMap jt T))))&&true)&&true) (by(have q:ae (T.flatMap jt)=true:=bW (f:=jt) (λ _=>rfl) T;rw[bj (f:=jt) (k:=3) (λ _=>rfl),hl];simp only[show VN 90 (30*3)=true from rfl,show VK 90 (30*3)=true from rfl,Wf,cond_true,q])) ([Wu [zI 0,V3 true 30 3 (bif true&&VK 90 (length (flatMap jt T))then flatMap jt T else take 90 (drop 0 (flatMap jt T)))],zN n]) (by exact(And.intro (D.sim.agg (qr (And.intro (D.sim.slw rfl (aL (by(have q:ae (T.flatMap jt)=true:=bW (f:=jt) (λ _=>rfl) T;rw[bj (f:=jt) (k:=3) (λ _=>rfl),hl];simp only[show VN 90 (30*3)=true from rfl,show VK 90 (30*3)=true from rfl,Wf,cond_true,q]))|>.trans rfl)) trivial))) (qr trivial))) (CallOk.fn (ao.of Tryz.func173 rfl rfl) (@Bg (T) (30) om om om (0) (by(simp;done)) (n) om (I) aO om))<|.Y 12 [] [] (WL [zN (0+I),zN (Sy.bits (getD T I lh)),zN (n-Sy.least (getD T I lh)),zI 0]) [] ok) kr
theorem tH {p:Prop}(h:p:=by(refine aG ?_;rw[kA];unfold vQ;(repeat' split)<;>first|omega|(simp_all;done))):p:=h
theorem SO {x:Int}(h:-9223372036854775808<=x∧x<=9223372036854775807):IntKind.i64.wrap x=x:=by
 have h2:=fz (x:=x) h;rw[aE]at h2;injection h2 with h3;injection h3 with h4;injection h4
theorem xi {l:Z4}{i m:Nat}(ho:∀j,j<i->(l.getD j lh).toNat<=m)(h:¬((m:Nat):Int)<(((l.getD (i*1) lh).toNat:Nat):Int)):∀j,j<i+1->(l.getD j lh).toNat<=m:=λ j hj=>by
 rcases Wl j i with q|q
 ·exact ho j q
 ·have q2:j=i:=by omega
  subst q2;rw[V5]at h;omega
theorem SP {l:Z4}{i:Nat}(h:i<l.length)(hN:l.length<=1000000)(h1:0<(l.getD (i*1) lh).toNat)(h2:(l.getD (i*1) lh).toNat<=15):D.v (.int .i64 (IntKind.i64.wrap (((bl (l.take i):Nat):Int)+IntKind.i64.wrap (2^min (15-(((l.getD (i*1) lh).toNat:Nat):Int)).toNat 64*1))))=D.v (.int .i64 ((bl (l.take (i+1)):Nat):Int)):=by
 refine aG ?_;rw[V5]at *;rw[im h];generalize(l.getD i lh).toNat=x at *;have hk:=Bb (l.take i);rw[VW]at hk;rw[ZE om,show min (15-(x:Int)).toNat 64=15-x from by omega];have hp:2^(15-x)<=2^15:=WF (by decide) om;have e:(2:Int)^(15-x)*1=((2^(15-x):Nat):Int):=by push_cast;omega
 rw[e];generalize 2^(15-x)=Z at *;rw[SO (x:=((Z:Nat):Int)) om,SO om];omega
theorem Nr {l:Z4}{i:Nat}(h:i<l.length)(h1:¬(0:Int)<(((l.getD (i*1) lh).toNat:Nat):Int)):bl (l.take (i+1))=bl (l.take i)∧bH (l.take (i+1))=bH (l.take i):=by
 rw[V5]at h1;rw[im h,jV h,ZF om,ZF om];exact⟨rfl,rfl⟩
theorem SQ {l:Z4}{i:Nat}(h:i<l.length)(hN:l.length<=1000000)(h1:0<(l.getD (i*1) lh).toNat):D.v (.int .i64 (IntKind.i64.wrap (((bH (l.take i):Nat):Int)+1)))=D.v (.int .i64 ((bH (l.take (i+1)):Nat):Int)):=by
 refine aG ?_;rw[V5]at *;rw[jV h,ZE om];have hk:=Ba (l.take i);rw[VW]at hk;rw[SO om];omega
theorem JB (l:Z4)(n:Nat)(hn:n=l.length)(hN:n<=1000000)(m:Nat)(hm:1<=m∧m<=15):S0 148 [.sl false n 1 (l.map dB),nD m] [] (nD (dI l m)) []:=SpR Tryz.func148 rfl rfl rfl trivial rfl 1000 64 (λ R ok=>.F 6 (decide ((m:Int)<1)) (by(refine decide_eq_false ?_;(omega)))<|.F 4 (decide (15<(m:Int))) (by(refine decide_eq_false ?_;(omega)))<|.B 4 (320<(n:Int)) (λ p0 Z9=>.U 1 [] [] (zI 4) [] R (ok _ _ tH wr)) (λ p0 Z9=>.s 5<|Hn.inl T_ok ah false 52 0 (aq Tryz.prog 148 0) (λ(x:(i:Nat)×'(hi:i<=n)×'(ho:∀j,j<i->(l.getD j lh).toNat<=m)×'Unit)=>match x with|⟨i,hi,ho,_⟩=>CutS.mk [(1,zN m),(5,nD (bl (l.take i))),(6,nD (bH (l.take i))),(18,V3 false n 1 (map dB l)),(19,zN n),(20,nD i)] [] 0) (λ(x:(i:Nat)×'(hi:i<=n)×'(ho:∀j,j<i->(l.getD j lh).toNat<=m)×'Unit)=>match x with|⟨i,hi,ho,_⟩=>n-i) [⟨(ho2:ew l m=false)×'Unit,.exit 0,λ x=>match x with|⟨ho2,_⟩=>CutS.mk [(1,zN m),(5,nD (bl l)),(6,nD (bH l)),(18,V3 false n 1 (map dB l)),(19,zN n)] [] 0⟩,⟨(ho3:ew l m=true)×'Unit,.ret,λ x=>match x with|⟨ho3,_⟩=>CutS.mk [(4,iD 2)] [] 0⟩] 1000 64 (fun|⟨i,hi,ho,_⟩,Q,ZB,ZD=>.B 2 ((i:Int)<n) (λ p1 Z8=>.K 1 (true&&decide ((i:Int)<n)&&true) (by((refine aC ?_ ?_)<;>(repeat' (first|(refine aC ?_ ?_)|(with_reducible rfl)|(refine decide_eq_true ?_)|(refine VL ?_)|(refine dA ?_)))<;>(omega)))<|.O 2 ((map dB l)[i*1]?) (dB (getD l (i*1) lh)) (am _ _ om)<|.I 3 (↑(VE (getD l (i*1) lh)):Int) (by(exact dR _ (by decide) (by decide)))<|.B 3 ((m:Int)<(↑(VE (getD l (i*1) lh)):Int)) (λ p2 Z7=>.s 1<|Hn.last ZD 1 (⟨(by(exact xf (i:=i*1) (by(omega)) (by(omega)))),⟨⟩⟩:(ho3:ew l m=true)×'Unit) rfl [] ro) (λ p2 Z7=>.B 3 (0<(↑(VE (getD l (i*1) lh)):Int)) (λ p3 Z6=>.O 4 (ay .u8 (15-(↑(VE (getD l (i*1) lh)):Int))) (bI (15-(↑(VE (getD l (i*1) lh)):Int))) (gI om)<|.K 1 (decide (0<=15-(↑(VE (getD l (i*1) lh)):Int))) (by(refine decide_eq_true ?_;(omega)))<|.opt (ay .i64 (2^min (zq (15-(↑(VE (getD l (i*1) lh)):Int))) 64*1)) (zI (VU VV (2^min (zq (15-(↑(VE (getD l (i*1) lh)):Int))) 64*1))) (aE _ _)<|.O 2 (ay .i64 ((↑(bl (take i l)):Int)+VU VV (2^min (zq (15-(↑(VE (getD l (i*1) lh)):Int))) 64*1))) (zI (VU VV ((↑(bl (take i l)):Int)+VU VV (2^min (zq (15-(↑(VE (getD l (i*1) lh)):Int))) 64*1)))) (aE _ _)<|.O 4 (ay .i64 ((↑(bH (take i l)):Int)+1)) (zI (VU VV ((↑(bH (take i l)):Int)+1))) (aE _ _)<|.W 3 (i+1)<|.V 1 5 (zI (VU VV ((↑(bl (take i l)):Int)+VU VV (2^min (zq (15-(↑(VE (getD l (i*1) lh)):Int))) 64*1)))) (zN (bl (take (i+1) l))) (by(exact SP (by(omega)) (by(omega)) (by(omega)) (by(omega))))<|.val 6 (zI (VU VV ((↑(bH (take i l)):Int)+1))) (zN (bH (take (i+1) l))) (by(exact SQ (by(omega)) (by(omega)) (by(omega))))<|.val 20 (zI (i+1)) (zN (i+1)) (by(refine aG ?_;(omega)))<|Hn.next ZB ⟨(i+1),om,(by(exact xi ho (by(omega)))),⟨⟩⟩ (by show n-(i+1)<n-i;clear ZB ZD;omega) [] ro) (λ p3 Z6=>.W 2 (i+1)<|.V 1 5 (zN (bl (take i l))) (zN (bl (take (i+1) l))) (by(rw[(Nr (l:=l) (i:=i) (by(omega)) (by(omega))).1]))<|.val 6 (zN (bH (take i l))) (zN (bH (take (i+1) l))) (by(rw[(Nr (l:=l) (i:=i) (by(omega)) (by(omega))).2]))<|.val 20 (zI (i+1)) (zN (i+1)) (by(refine aG ?_;(omega)))<|Hn.next ZB ⟨(i+1),om,(by(exact xi ho (by(omega)))),⟨⟩⟩ (by show n-(i+1)<n-i;clear ZB ZD;omega) [] ro))) (λ p1 Z8=>.val 5 (zN (bl (take i l))) (zN (bl l)) (by(rw[Wm (by(omega))]))<|.val 6 (zN (bH (take i l))) (zN (bH l)) (by(rw[Wm (by(omega))]))<|Hn.last ZD 0 (⟨(by(exact mZ (λ j hj=>ho j (by(omega))))),⟨⟩⟩:(ho2:ew l m=false)×'Unit) rfl [] ro)) (fun|⟨i,hi,ho,_⟩=>by kernel_rfl) ⟨(0),om,om,⟨⟩⟩ [] ro (gw (fun|⟨ho2,_⟩=>.B 4 (32768<(↑(bl l):Int)) (λ p4 Z5=>.U 1 [] [] (zI 30) [] R (ok _ _ tH wr)) (λ p4 Z5=>.R 4 ((↑(bl l):Int)==32768) (λ p5=>have p5f:=eq_of_beq p5;.U 2 [] [] (zI 0) [] R (ok _ _ tH wr)) (λ p5=>have p5f:=ap p5;.R 4 ((↑(bH l):Int)==0) (λ p6=>have p6f:=eq_of_beq p6;.U 2 [] [] (zI 0) [] R (ok _ _ tH wr)) (λ p6=>have p6f:=ap p6;.R 5 ((↑(bH l):Int)==1) (λ p7=>have p7f:=eq_of_beq p7;.R 5 ((↑(bl l):Int)==16384) (λ p8=>have p8f:=eq_of_beq p8;.U 1 [] [] (zI 0) [] R (ok _ _ tH wr)) (λ p8=>have p8f:=ap p8;.U 1 [] [] (zI 31) [] R (ok _ _ tH wr))) (λ p7=>have p7f:=ap p7;.U 6 [] [] (zI 31) [] R (ok _ _ tH wr)))))) (fun|⟨ho3,_⟩=>.out [] [] (zI 2) [] R (ok _ _ tH wr))))) kr
theorem Rw {p:Prop}(h:p:=by(refine decide_eq_true ?_;have h7:=An l v i;have h6:=An l v (i+1);omega)):p:=h
theorem SS {p:Prop}(h:p:=by clear ZB ZD;(simp_all<;>omega)):p:=h
theorem UQ {p:Prop}(h:p:=by(simp only[List.length_map,Nat.mul_one,Nat.beq_refl,Bool.true_and,Bool.and_true];have h7:=An l v i;have h6:=An l v (i+1);refine Nat.ble_eq_true_of_le ?_;omega)):p:=h
theorem UR {p:Prop}(h:p:=by(have h7:=An l v i;have h6:=An l v (i+1);refine JH ?_ ?_<;>omega)):p:=h
def dF:List Bool->Nat
 |[]=>0
 |b::r=>b.toNat+2*dF r
theorem gL:∀l:List Bool,dF l<2^l.length
 |[]=>Yl
 |b::r=>by
  have h:=gL r;have h2:b.toNat<=1:=Zk b;rw[Wj,Xj,dF];omega
theorem lq:∀a b:List Bool,dF (a++b)=dF a+2^a.length*dF b
 |[],b=>by simp[dF]
 |x::r,b=>by
  have h:=lq r b;rw[Yh,dF,dF,h,Wj,Xj,Nat.mul_add,<-Nat.mul_assoc,Nat.mul_comm 2 (2^r.length),Nat.add_assoc]
def xj (l:List Bool)(i:Nat):UInt8:=WI (dF ((l.drop (8*i)).take 8))
def pk (l:List Bool):Z4:=lk l ((WP ((l.length+7)/8)).map (xj l))
theorem Bh (l:List Bool):pk l=(WP ((l.length+7)/8)).map (xj l):=aP _ _
theorem ac (l:List Bool):(pk l).length=(l.length+7)/8:=by rw[Bh,VP,Xt]
theorem iU {l:List Bool}{i:Nat}(h:i<(l.length+7)/8):(pk l)[i]? =some (xj l i):=by
 rw[Bh,V6,W0 h];rfl
theorem vS (l:List Bool)(i:Nat):dF ((l.drop (8*i)).take 8)<256:=by
 have h:=gL ((l.drop (8*i)).take 8);have h2:2^((l.drop (8*i)).take 8).length<=2^8:=WF (by decide) (by rw[VW];omega);omega
theorem lr {a b:List Bool}(h:a.length%8=0):pk (a++b)=pk a++pk b:=by
 apply WD;intro i;rcases Wl i ((a.length+7)/8)with q|q
 ·rw[Wi (by rw[ac];exact q),iU q,iU (by rw[VI];omega)]
  unfold xj;rw[Ys om,XP (by rw[Wr];omega)]
 ·rw[We (by rw[ac];exact q),ac]
  rcases Wl (i-(a.length+7)/8) ((b.length+7)/8)with r|r
  ·rw[iU r,iU (by rw[VI];omega)]
   unfold xj;rw[show 8*i=a.length+8*(i-(a.length+7)/8)from by omega,Zd];have e:Wx (a.length+8*(i-(a.length+7)/8)) a=[]:=WS om;rw[e,Yu,Nat.add_sub_cancel_left]
  ·rw[Wh (by rw[ac,VI];omega),Wh (by rw[ac];exact r)]
theorem kC {l:List Bool}{n:Nat}(h:8*n<=l.length):pk (l.drop (8*n))=(pk l).drop n∧pk (l.take (8*n))=(pk l).take n:=by
 have e:=lr (a:=l.take (8*n)) (b:=l.drop (8*n)) (by rw[VW];omega);rw[XR]at e;have hl:(pk (l.take (8*n))).length=n:=by rw[ac,VW];omega
 constructor
 ·have q:=congrArg (Wx n) e
  rw[Ys om,show Wx n (pk (Ws (8*n) l))=[]from WS om,Yu]at q;exact q.symm
 ·have q:=congrArg (Ws n) e
  rw[XP om,show Ws n (pk (Ws (8*n) l))=pk (Ws (8*n) l)from Wm om]at q;exact q.symm
theorem JC {l:List Bool}(h0:0<l.length)(h:l.length<=8):pk l=[WI (dF l)]:=by
 rw[Bh,show(l.length+7)/8=1 from by omega];show[xj l 0]=_;unfold xj;rw[Nat.mul_zero,Xe,Wm h]
theorem Hu {l:List Bool}{b:Bool}(h:l.length%8≠0):(pk l).length=l.length/8+1∧pk (l++[b])=(pk l).set (l.length/8) (WI (((pk l).getD (l.length/8) lh).toNat+2^(l.length%8)*b.toNat)):=by
 refine⟨by rw[ac];omega,?_⟩;have hd:=kC (l:=l) (n:=l.length/8) om;have e:l=l.take (8*(l.length/8))++l.drop (8*(l.length/8)):=(XR _ _).symm;generalize hA:l.take (8*(l.length/8))=A at *;generalize hB:l.drop (8*(l.length/8))=B at *;have lA:A.length=8*(l.length/8):=by rw[<-hA,VW];omega
 have lB:B.length=l.length%8:=by rw[<-hB,Wr];omega
 have p1:pk l=pk A++pk B:=by
  conv=>lhs;rw[e]
  exact lr om
 have p2:pk (l++[b])=pk A++pk (B++[b]):=by
  conv=>lhs;rw[e,Wc]
  exact lr om
 have l1:(pk A).length=l.length/8:=by rw[ac];omega
 have b1:=JC (l:=B) om om;have b2:=JC (l:=B++[b]) (by rw[VI];omega) (by rw[VI,Wv];omega);have hb:dF B<256:=by
  have h3:=gL B;have h4:2^B.length<=2^8:=WF (by decide) om;omega
 rw[p1,p2,b1,b2,Yy _ _ om,l1,W5,VH,We om,l1,W5];show _++_=_++[_];have hz:dF [b]=b.toNat:=by simp[dF]
 rw[lq,hz,lB];show _=_++[WI ((WI (dF B)).toNat+_)];rw[Xy,show dF B%2^8=dF B from Xc hb]
theorem Bi {l:List Bool}{b:Bool}(h:l.length%8=0):(pk l).length=l.length/8∧pk (l++[b])=pk l++[WI b.toNat]:=by
 refine⟨by rw[ac];omega,?_⟩;rw[lr h,JC (l:=[b]) (by simp) (by simp)];simp[dF]
def nb (v n:Nat):List Bool:=lk [()] ((WP n).map λ i=>v.testBit i)
theorem tI (v n:Nat):nb v n=(WP n).map λ i=>v.testBit i:=aP _ _
theorem lu (v n:Nat):(nb v n).length=n:=by rw[tI,VP,Xt]
theorem m4 (v n:Nat):nb v (n+1)=nb v n++[v.testBit n]:=by rw[tI,tI,Yv,Wz];rfl
theorem zE (v:Nat):nb v 0=[]:=tI v 0
theorem tJ (v:Nat):∀n,dF (nb v n)=v%2^n
 |0=>by rw[zE];simp[dF,Nat.mod_one]
 |n+1=>by
  rw[m4,lq,lu,tJ v n];have e:dF [v.testBit n]=v/2^n%2:=by
   rw[Nat.testBit_eq_decide_div_mod_eq];have:=Nat.mod_lt (v/2^n) (show 0<2 by decide)
   by_cases h:v/2^n%2=1
   ·rw[h];rfl
   ·rw[show v/2^n%2=0 from by omega];rfl
  rw[e,Xj,Nat.mod_mul]
def JD (B:Z4)(k:Nat):List Bool:=lk B ((WP k).map λ i=>(B.getD (i/8) lh).toNat.testBit (i%8))
theorem Bj (B:Z4)(k:Nat):JD B k=(WP k).map λ i=>(B.getD (i/8) lh).toNat.testBit (i%8):=aP _ _
theorem ju (B:Z4)(k:Nat):(JD B k).length=k:=by rw[Bj,VP,Xt]
theorem Bk {B:Z4}{k:Nat}(hl:B.length=(k+7)/8)(ht:k%8≠0->(B.getD (k/8) lh).toNat<2^(k%8)):pk (JD B k)=B:=by
 apply WD;intro i;rcases Wl i ((k+7)/8)with q|q
 ·rw[iU (by rw[ju];exact q),VG om]
  congr 1
  unfold xj;have e:(Wx (8*i) (JD B k)).take 8=nb (B.getD i lh).toNat (min 8 (k-8*i)):=by
   apply WD;intro j;rw[WA,WR,Bj,tI,V6,V6]
   by_cases hj:j<min 8 (k-8*i)
   ·rw[ZF om,W0 om,W0 hj]
    show some ((B.getD ((8*i+j)/8) lh).toNat.testBit ((8*i+j)%8))=some ((B.getD i lh).toNat.testBit j);rw[show(8*i+j)/8=i from by omega,show(8*i+j)%8=j from by omega]
   ·rw[Wh (l:=WP (min 8 (k-8*i))) (by simpa using hj)]
    split
    ·rw[Wh (by simp;omega)];rfl
    ·rfl
  rw[e,tJ];have hx:B[i]=B.getD i lh:=by rw[VH,VG om];rfl
  rw[hx];have hb:=(B.getD i lh).toNat_lt;apply UInt8.toNat_inj.1;rw[Xy];rcases Wl (k-8*i) 8 with r|r
  ·have hk:i=k/8:=by omega
   have h1:=ht om;rw[<-hk]at h1;rw[show min 8 (k-8*i)=k%8 from by omega,Xc h1,Xc hb]
  ·rw[show min 8 (k-8*i)=8 from by omega,Xc (show(B.getD i lh).toNat<2^8 from hb),Xc hb]
 ·rw[Wh (by rw[ac,ju];exact q),Wh om]
theorem JE {l:List Bool}{m:Nat}(hm:m=(pk l).length)(h:0<((l.length:Nat):Int)%8):¬0<((((pk l).getD (((m:Int)-1).toNat*1) lh).toNat:Nat):Int).fdiv (2^min (((l.length:Nat):Int)%8).toNat 8):=by
 rw[ac]at hm;rw[show(((m:Int)-1).toNat*1)=l.length/8 from by omega,show min (((l.length:Nat):Int)%8).toNat 8=l.length%8 from by omega,VH,iU om];show¬0<(((xj l (l.length/8)).toNat:Nat):Int).fdiv _;have hb:=gL ((l.drop (8*(l.length/8))).take 8);rw[VW,Wr,show min 8 (l.length-8*(l.length/8))=l.length%8 from by omega]at hb;have hc:=vS l (l.length/8);unfold xj;rw[Xy,Xc hc,show(2:Int)^(l.length%8)=((2^(l.length%8):Nat):Int)from by push_cast;rfl,XI _ (Yj _),<-Yp,Ze hb];decide
theorem JF {B:Z4}{k:Nat}(hl:B.length=(k+7)/8)(h:k%8≠0->¬0<(((B.getD (((B.length:Nat):Int)-1).toNat lh).toNat:Nat):Int).fdiv (2^min ((k:Int)%8).toNat 8)):pk (JD B k)=B:=by
 refine Bk hl λ q=>?_
 have h:=h q;rw[show(((B.length:Nat):Int)-1).toNat=k/8 from by omega,show min ((k:Int)%8).toNat 8=k%8 from by omega,show(2:Int)^(k%8)=((2^(k%8):Nat):Int)from by push_cast;rfl,XI _ (Yj _),<-Yp]at h;have h0:(B.getD (k/8) lh).toNat/2^(k%8)=0:=by
  generalize(B.getD (k/8) lh).toNat/2^(k%8)=Z at h ⊢;omega
 rcases Wl (B.getD (k/8) lh).toNat (2^(k%8))with r|r
 ·exact r
 ·have:=Nat.div_pos r (Nat.two_pow_pos _);omega
theorem Hv {B:Z4}{m:Nat}{k:Int}(hm:m=B.length)(hN:∀l:List Bool,l.length<=8388608->¬(k=l.length∧B=pk l))(h0:¬k<0)(h1:¬8388608<k)(h2:(m:Int)=(k+7)/8)(h3:¬0<k%8∨¬0<(((B.getD (((m:Int)-1).toNat*1) lh).toNat:Nat):Int).fdiv (2^min (k%8).toNat 8)):False:=by
 obtain⟨j,rfl⟩:=WM (show 0<=k by omega);subst hm;rw[V5]at h3;refine hN (JD B j) (by rw[ju];omega) ⟨by rw[ju],(JF om (λ q=>?_)).symm⟩;rcases h3 with h3|h3
 ·omega
 ·exact h3
abbrev m5 (m:Nat)(l:List Bool):D:=.agg [.sl false m 1 ((pk l).map dB),nD l.length]
theorem EQ:S0 56 [aY] [] aY []:=SpR Tryz.func56 rfl rfl rfl trivial rfl 1000 64 (λ R ok=>.Y 6 [] [] (zS) [] ok) kr
theorem Bl (bs:Z4)(hn:bs.length<=10000000):S0 56 [.sl true bs.length 1 (bs.map dB)] [] (.ref 0 0 0 bs.length 1) [⟨bs.map dB, 5,true⟩]:=SpR Tryz.func56 rfl rfl rfl ⟨aI _,trivial⟩ rfl 1000 64 (λ R ok=>.K 9 (true&&VN ((0+length bs)*1) 140737488355328) (by(refine VL ?_;(omega)))<|.U 1 [40] [40] (VJ 0 0 0 (0+length bs) 1) [VF (map dB bs) 5 true] R (ok _ _ (by(simp;done)) wr)) kr
theorem cY (bs:Z4)(n:Nat)(h1:n=bs.length)(hn:n<=10000000):S0 56 [.sl false n 1 (bs.map dB)] [] (.ref 0 0 0 n 1) [⟨bs.map dB, 5,true⟩]:=by
 subst h1;exact AC.nilSplit EQ (Bl bs hn) id
theorem oc (l:List Bool)(m:Nat)(hm:m=(pk l).length)(hl:l.length<=8388608):S0 43 [m5 m l] [] (iD 0) []:=by
 have h9:=ac l;refine SpR Tryz.func43 rfl rfl rfl trivial rfl 1000 64 (λ R ok=>.F 26 (decide (8388608<(↑(length l):Int))) (by(refine decide_eq_false ?_;(omega)))<|.W 19 ((↑(length l):Int)+7)<|.O 3 (aV VV (VU VV (WZ ((↑(length l):Int)+7) 8))) (zI (((↑(length l):Int)+7)/8)) (au (@aN  ((↑(length l):Int)+7) (8) om om))<|.F 4 ((m:Int) !=((↑(length l):Int)+7)/8) (by(simp <;>(omega)))<|.O 8 (aV VV (WW (↑(length l):Int) 8)) (zI ((↑(length l):Int)%8)) (au (@bw  ((↑(length l):Int)) (8) om))<|.B 6 (0<(↑(length l):Int)%8) (λ p0 Z9=>.W 19 (m-1)<|.K 2 (decide (0<=(m:Int)-1)&&decide ((m:Int)-1<m)&&true) Ni<|.O 3 ((map dB (pk l))[zq ((m:Int)-1)*1]?) (dB (getD (pk l) (zq ((m:Int)-1)*1) lh)) (am _ _ om)<|.O 5 (aV Zx (WJ (↑(VE (getD (pk l) (zq ((m:Int)-1)*1) lh)):Int) (2^min (zq ((↑(length l):Int)%8)) 8))) (bI (WJ (↑(VE (getD (pk l) (zq ((m:Int)-1)*1) lh)):Int) (2^min (zq ((↑(length l):Int)%8)) 8))) (cb _ _)<|.B 4 (0<WJ (↑(VE (getD (pk l) (zq ((m:Int)-1)*1) lh)):Int) (2^min (zq ((↑(length l):Int)%8)) 8)) (λ p1 Z8=>.abs (by(exact absurd aO (JE hm om)))) (λ p1 Z8=>.Y 1 [] [] (zI 0) [] ok)) (λ p0 Z9=>.Y 23 [] [] (zI 0) [] ok)) kr
theorem JG (B:Z4)(m:Nat)(hm:m=B.length)(hM:m<=100000000)(k:Int)(hN:∀l:List Bool,l.length<=8388608->¬(k=l.length∧B=pk l)):S0 43 [.agg [.sl false m 1 (B.map dB),iD k]] [] (iD 8) []:=SpR Tryz.func43 rfl rfl rfl trivial rfl 1000 64 (λ R ok=>.B 13 (k<0) (λ p0 Z9=>.Y 25 [] [] (zI 8) [] ok) (λ p0 Z9=>.B 12 (8388608<k) (λ p1 Z8=>.Y 17 [] [] (zI 8) [] ok) (λ p1 Z8=>.W 19 (k+7)<|.O 3 (aV VV (VU VV (WZ (k+7) 8))) (zI ((k+7)/8)) (au (@aN  (k+7) (8) om om))<|.R 4 ((m:Int) !=(k+7)/8) (λ p2=>have Z7:=ee p2;.Y 1 [] [] (zI 8) [] ok) (λ p2=>have Z7:=ef p2;.O 8 (aV VV (WW k 8)) (zI (k%8)) (au (@bw  (k) (8) om))<|.B 6 (0<k%8) (λ p3 Z6=>.W 19 (m-1)<|.K 2 (decide (0<=(m:Int)-1)&&decide ((m:Int)-1<m)&&true) Ni<|.O 3 ((map dB B)[zq ((m:Int)-1)*1]?) (dB (getD B (zq ((m:Int)-1)*1) lh)) (am _ _ om)<|.K 4 (decide (0<=k%8)) (by(refine decide_eq_true ?_;(omega)))<|.opt (aV Zx (WJ (↑(VE (getD B (zq ((m:Int)-1)*1) lh)):Int) (2^min (zq (k%8)) 8))) (bI (WJ (↑(VE (getD B (zq ((m:Int)-1)*1) lh)):Int) (2^min (zq (k%8)) 8))) (cb _ _)<|.B 4 (0<WJ (↑(VE (getD B (zq ((m:Int)-1)*1) lh)):Int) (2^min (zq (k%8)) 8)) (λ p4 Z5=>.Y 1 [] [] (zI 8) [] ok) (λ p4 Z5=>.abs (by(exact Hv hm hN om om om (.inr aO))))) (λ p3 Z6=>.abs (by(exact Hv hm hN om om om (.inl om)))))))) kr
theorem Bm {v n:Nat}(hv:v<2^n)(hn:n<=32):((v:Int)%18446744073709551616).fdiv (2^min n 64)=0:=by
 have h2:2^n<=2^32:=WF (by decide) hn;rw[show min n 64=n from by omega,show(v:Int)%18446744073709551616=v from by omega,show(2:Int)^n=((2^n:Nat):Int)from by push_cast;rfl,XI _ (Yj _),<-Yp,Ze hv];rfl
theorem Bn {v n:Nat}(hv:v<2^n)(hn:n<=32):((v:Int)).fdiv (2^min n 64)=0:=by
 have h:=Bm hv hn;have h2:2^n<=2^32:=WF (by decide) hn
 rwa [show(v:Int)%18446744073709551616=v from by omega]at h
theorem ER (X:Z4){d:D}{j:Nat}(h:j=X.length):(XD dB X++[d])[0+j*1]? =some d:=by
 rw[Wd,V5,h,We (by rw[VP];exact VT _),VP,W5];rfl
def aX (l:List Bool)(v i:Nat):List Bool:=lk l (l++nb v i)
theorem jW (l:List Bool)(v i:Nat):aX l v i=l++nb v i:=aP _ _
theorem xk (l:List Bool)(v:Nat):aX l v 0=l:=by rw[jW,zE,WN]
theorem bc (l:List Bool)(v i:Nat):(aX l v i).length=l.length+i:=by rw[jW,VI,lu]
theorem xl (l:List Bool)(v i:Nat):aX l v i++[v.testBit i]=aX l v (i+1):=by rw[jW,jW,m4,Wc]
theorem An (l:List Bool)(v i:Nat):(pk (aX l v i)).length=(l.length+i+7)/8:=by rw[ac,bc]
theorem Hw {v i:Nat}(hi:i<=32)(hv:v<4294967296):IntKind.u32.wrap ((VY 32 ((v:Int).fdiv (2^min i 32))&&&VY 32 1).toNat:Int)%256=(((v.testBit i).toNat:Nat):Int):=by
 have hd:v/2^i<=v:=Nat.div_le_self _ _;rw[show min i 32=i from by omega,show(2:Int)^i=((2^i:Nat):Int)from by push_cast;rfl,XI _ (Yj _),<-Yp,Nat.toNat_testBit];generalize v/2^i=Y at *;rw[mj 1 2 om (by decide) (by decide) (by decide)];omega
theorem jK {M:Z4}{o a:Nat}(ha:a<256)(ho:o<M.length):ag (M.map dB) o [D.v (.int .u8 (a:Int))]=(M.set o (WI a)).map dB:=by
 apply WD;intro i;rw[cv (by simp only[VP,Wv];omega),V6,V6,W7];simp only[Wv]
 by_cases hi:o=i
 ·subst hi
  rw[ZF om,ZF rfl,ZF ho,W5];show some (D.v (.int .u8 (a:Int)))=some (dB (WI a));unfold dB;rw[Xy];congr 3;omega
 ·rw[ZE om,ZE hi]
theorem Ns {x:List Bool}(h:x.length%8≠0):((pk x).getD (x.length/8) lh).toNat<2^(x.length%8):=by
 rw[VH,iU om];show(xj x (x.length/8)).toNat<_;have hb:=gL ((x.drop (8*(x.length/8))).take 8);rw[VW,Wr,show min 8 (x.length-8*(x.length/8))=x.length%8 from by omega]at hb;unfold xj;rw[Xy,Xc (vS x _)];exact hb
theorem Nt {x:List Bool}{b:Bool}{L z:Int}(hL:L=x.length)(h:¬L%8=0)(hz:z=((b.toNat:Nat):Int)):ag ((pk x).map dB) (L/8).toNat [D.v (.int .u8 (((((pk x).getD (L/8).toNat lh).toNat|||(2^min (L%8).toNat 8*z%256).toNat:Nat)):Int))]=(pk (x++[b])).map dB:=by
 subst hL hz;have h0:x.length%8≠0:=by omega
 have hu:=Hu (b:=b) h0;have hl:=Ns h0;have hb:b.toNat<=1:=Zk b;rw[show(((x.length:Nat):Int)/8).toNat=x.length/8 from by omega,show min (((x.length:Nat):Int)%8).toNat 8=x.length%8 from by omega];have hp:2^(x.length%8)<=2^7:=WF (by decide) om;have e:(2^(x.length%8)*((b.toNat:Nat):Int)%256).toNat=2^(x.length%8)*b.toNat:=by
  rw[show(2:Int)^(x.length%8)=((2^(x.length%8):Nat):Int)from by push_cast;rfl];generalize 2^(x.length%8)=P at *
  cases b
  ·simp
  ·simp;omega
 rw[e,Nat.or_comm,<-YB hl,Nat.add_comm,hu.2];refine jK ?_ om;have hm:2^(x.length%8)*b.toNat<=2^(x.length%8)*1:=Nat.mul_le_mul_left _ hb;generalize 2^(x.length%8)*b.toNat=Q at *;generalize 2^(x.length%8)=P at *;omega
theorem Nu {x:List Bool}{b:Bool}{L z:Int}(hL:L=x.length)(h:L%8=0)(hz:z=((b.toNat:Nat):Int)):ag ((pk x).map dB++[D.v (.int .u8 0)]) (L/8).toNat [D.v (.int .u8 (0+2^min (L%8).toNat 8*z))]=(pk (x++[b])).map dB:=by
 subst hL hz;have h0:x.length%8=0:=by omega
 have hu:=Bi (b:=b) h0;have hb:b.toNat<=1:=Zk b;rw[show(((x.length:Nat):Int)/8).toNat=x.length/8 from by omega,show min (((x.length:Nat):Int)%8).toNat 8=0 from by omega,hu.2,Wz];have e:(pk x).map dB++[D.v (.int .u8 0)]=((pk x)++[0]).map dB:=by rw[Wz];rfl
 rw[e,show(0:Int)+2^0*((b.toNat:Nat):Int)=((b.toNat:Nat):Int)from by simp,jK om (by rw[VI,Wv];omega),Yy _ _ om,hu.1,W5,Wz];rfl
theorem JH {k g:Nat}{t:TypeId}{X Y:Nat}{a b:Int}(h1:X=Y)(h2:a=b):(⟨[VJ k g 0 X 1,D.v (.int .i64 a)],t,false⟩:Blk)=⟨[VJ k g 0 Y 1,D.v (.int .i64 b)],t,false⟩:=by rw[h1,h2]
theorem Nv (l:List Bool)(m:Nat)(hm:m=(pk l).length)(v n:Nat)(hn:n<=32)(hv:v<2^n)(hl:l.length+n<=8388608):S0 74 [m5 m l,.v (.int .u32 (v:Int)),nD n] [] (.tup [.agg [.ref 0 0 0 (pk (aX l v n)).length 1,nD (l.length+n)],iD 0]) [⟨(pk (aX l v n)).map dB, 5,true⟩]:=by
 have h9:=ac l;have h8:=Bm hv hn;have h4:=Bn hv hn;have h5:v<4294967296:=Wp hv (WF (n:=2) (by decide) hn);refine SpR Tryz.func74 rfl rfl rfl ⟨aI _,trivial⟩ rfl 1000 64 (λ R ok=>.C 10 43 false [] (.fn Jt (@oc (l) (m) om om))<|.E 22 (decide ((n:Int)<=32)) (by(refine decide_eq_true ?_;(omega)))<|.O 2 (ay .u64 (v:Int)) (D.v (Value.int .u64 (v:Int))) (bA om)<|.O 5 (aV IntKind.u64 (WJ (v:Int) (2^min n 64))) (D.v (Value.int .u64 (WJ (v:Int) (2^min n 64)))) (cb _ _)<|.F 6 (!WJ (v:Int) (2^min n 64)==0) (by(simp <;>(omega)))<|.W 9 ((↑(length l):Int)+(n:Int))<|.F 2 (decide (8388608<(↑(length l):Int)+(n:Int))) (by(refine decide_eq_false ?_;(omega)))<|.C 17 56 false [] (.fn xe (@cY (pk l) (m) om om))<|.M 12 296 296 (VF [VJ 336 336 0 m 1,zN (length l)] 163 false) (VF [VJ 336 336 0 (length (pk (aX l v 0))) 1,zN (length l+0)] 163 false) (by(rw[xk,<-hm];rfl))<|.blk 336 336 (VF (map dB (pk l)) 5 true) (VF (map dB (pk (aX l v 0))) 5 true) (by(rw[xk];done))<|Hn.inl T_ok ah false 52 0 (aq Tryz.prog 74 0) (λ(x:(i:Nat)×'(hi:i<=n)×'Unit)=>match x with|⟨i,hi,_⟩=>CutS.mk [(1,ai v),(6,V7 0 0 0),(9,V7 8 8 0),(38,zN n),(39,nD i)] [⟨0,0,8,8,.b ⟨[zS,zI 0],26,false⟩⟩,⟨8,8,296,296,.b ⟨[(VJ 16 16 (0) ((pk (aX l v i)).length) 1),nD (l.length+i)],163,false⟩⟩,⟨16,16,336,336,.b ⟨(pk (aX l v i)).map dB,5,true⟩⟩] 24) (λ(x:(i:Nat)×'(hi:i<=n)×'Unit)=>match x with|⟨i,hi,_⟩=>n-i) [⟨Unit,.exit 0,λ x=>match x with|()=>CutS.mk [(1,ai v),(6,V7 0 0 0),(9,V7 8 8 0),(38,zN n)] [⟨0,0,8,8,.b ⟨[zS,zI 0],26,false⟩⟩,⟨8,8,296,296,.b ⟨[(VJ 16 16 (0) ((pk (aX l v n)).length) 1),nD (l.length+n)],163,false⟩⟩,⟨16,16,336,336,.b ⟨(pk (aX l v n)).map dB,5,true⟩⟩] 24⟩] 1000 64 (fun|⟨i,hi,_⟩,Q,ZB,ZD=>.B 2 ((i:Int)<n) (λ p0 Z9=>.O 7 (aV Wn (WJ (v:Int) (2^min i 32))) (uI (WJ (v:Int) (2^min i 32))) (cb _ _)<|.O 15 (aV VV (WW (↑(length l+i):Int) 8)) (zI ((↑(length l+i):Int)%8)) (au (@bw  ((↑(length l+i):Int)) (8) om))<|.R 2 ((↑(length l+i):Int)%8==0) (λ p1=>have Z8:=eq_of_beq p1;.K 15 (true&&VK (length (pk (aX l v i))*1) (length (map dB (pk (aX l v i))))&&true&&true&&true&&true&&VN ((length (pk (aX l v i))+1)*1) 140737488355328) UQ<|.O 35 (aV VV (VU VV (WZ (↑(length l+i):Int) 8))) (zI ((↑(length l+i):Int)/8)) (au (@aN  ((↑(length l+i):Int)) (8) om om))<|.K 1 (true&&decide ((↑(length l+i):Int)/8<(↑(length (pk (aX l v i))+1):Int))) Rw<|.O 2 ((map dB (pk (aX l v i))++[bI 0])[0+zq ((↑(length l+i):Int)/8)*1]?) (bI 0) (@ER (pk (aX l v i)) (bI 0) (zq ((↑(length l+i):Int)/8)) (by(have h7:=An l v i;have h6:=An l v (i+1);omega)))<|.O 3 (aV Wn (VU Wn (↑(WC (VY 32 (WJ (v:Int) (2^min i 32))&&&VY 32 1)):Int))) (uI (VU Wn (↑(WC (VY 32 (WJ (v:Int) (2^min i 32))&&&VY 32 1)):Int))) (cb _ _)<|.O 1 (ay .u8 (VU Wn (↑(WC (VY 32 (WJ (v:Int) (2^min i 32))&&&VY 32 1)):Int))) (bI (VU Wn (↑(WC (VY 32 (WJ (v:Int) (2^min i 32))&&&VY 32 1)):Int)%256)) (aE _ _)<|.O 13 (aV VV (WW (↑(length l+i):Int) 8)) (zI ((↑(length l+i):Int)%8)) (au (@bw  ((↑(length l+i):Int)) (8) om))<|.O 2 (ay .u8 (2^min (zq ((↑(length l+i):Int)%8)) 8*(VU Wn (↑(WC (VY 32 (WJ (v:Int) (2^min i 32))&&&VY 32 1)):Int)%256))) (bI (2^min (zq ((↑(length l+i):Int)%8)) 8*(VU Wn (↑(WC (VY 32 (WJ (v:Int) (2^min i 32))&&&VY 32 1)):Int)%256))) (gI SS)<|.O 2 (aV Zx (VU Zx (↑(WC (VY 8 0|||VY 8 (2^min (zq ((↑(length l+i):Int)%8)) 8*(VU Wn (↑(WC (VY 32 (WJ (v:Int) (2^min i 32))&&&VY 32 1)):Int)%256)))):Int))) (bI (0+2^min (zq ((↑(length l+i):Int)%8)) 8*(VU Wn (↑(WC (VY 32 (WJ (v:Int) (2^min i 32))&&&VY 32 1)):Int)%256))) (au (@tD 8 (256:Int) (0) (2^min (zq ((↑(length l+i):Int)%8)) 8*(VU Wn (↑(WC (VY 32 (WJ (v:Int) (2^min i 32))&&&VY 32 1)):Int)%256)) om SS om om SS))<|.K 1 (true&&decide ((↑(length l+i):Int)/8<(↑(length (pk (aX l v i))+1):Int))) Rw<|.K 1 (true&&VN (0+zq ((↑(length l+i):Int)/8)*1+1) (length (map dB (pk (aX l v i))++[bI 0]))) (by(simp;have h7:=An l v i;have h6:=An l v (i+1);omega))<|.lst (ag (map dB (pk (aX l v i))++[bI 0]) (0+zq ((↑(length l+i):Int)/8)*1) [bI (0+2^min (zq ((↑(length l+i):Int)%8)) 8*(VU Wn (↑(WC (VY 32 (WJ (v:Int) (2^min i 32))&&&VY 32 1)):Int)%256))]) (ag (map dB (pk (aX l v i))++[bI 0]) (zq ((↑(length l+i):Int)/8)) [bI (0+2^min (zq ((↑(length l+i):Int)%8)) 8*(VU Wn (↑(WC (VY 32 (WJ (v:Int) (2^min i 32))&&&VY 32 1)):Int)%256))]) (by(simp;done))<|.W 13 ((↑(length l+i):Int)+1)<|.W 12 (i+1)<|.V 1 39 (zI (i+1)) (zN (i+1)) (by(refine aG ?_;(omega)))<|.blk 8 8 (VF [VJ 200 200 0 (length (pk (aX l v i))+1) 1,zI ((↑(length l+i):Int)+1)] 163 false) (VF [VJ 200 200 0 (length (pk (aX l v (i+1)))) 1,zN (length l+(i+1))] 163 false) UR<|.blk 200 200 (VF (ag (map dB (pk (aX l v i))++[bI 0]) (zq ((↑(length l+i):Int)/8)) [bI (0+2^min (zq ((↑(length l+i):Int)%8)) 8*(VU Wn (↑(WC (VY 32 (WJ (v:Int) (2^min i 32))&&&VY 32 1)):Int)%256))]) 5 true) (VF (map dB (pk (aX l v (i+1)))) 5 true) (by(refine aw (Eq.trans (Nu (by rw[bc]) om (Hw om om)) ?_);rw[xl]))<|Hn.next ZB ⟨(i+1),om,⟨⟩⟩ (by show n-(i+1)<n-i;clear ZB ZD;omega) [(0,0),(8,8),(200,200)] ro) (λ p1=>have Z8:=ap p1;.O 25 (aV VV (VU VV (WZ (↑(length l+i):Int) 8))) (zI ((↑(length l+i):Int)/8)) (au (@aN  ((↑(length l+i):Int)) (8) om om))<|.K 1 (true&&decide ((↑(length l+i):Int)/8<(↑(length (pk (aX l v i))):Int))) Rw<|.O 2 ((map dB (pk (aX l v i)))[0+zq ((↑(length l+i):Int)/8)*1]?) (dB (getD (pk (aX l v i)) (0+zq ((↑(length l+i):Int)/8)*1) lh)) (am _ _ (by(have h7:=An l v i;have h6:=An l v (i+1);omega)))<|.O 3 (aV Wn (VU Wn (↑(WC (VY 32 (WJ (v:Int) (2^min i 32))&&&VY 32 1)):Int))) (uI (VU Wn (↑(WC (VY 32 (WJ (v:Int) (2^min i 32))&&&VY 32 1)):Int))) (cb _ _)<|.O 1 (ay .u8 (VU Wn (↑(WC (VY 32 (WJ (v:Int) (2^min i 32))&&&VY 32 1)):Int))) (bI (VU Wn (↑(WC (VY 32 (WJ (v:Int) (2^min i 32))&&&VY 32 1)):Int)%256)) (aE _ _)<|.O 13 (aV VV (WW (↑(length l+i):Int) 8)) (zI ((↑(length l+i):Int)%8)) (au (@bw  ((↑(length l+i):Int)) (8) om))<|.O 2 (ay .u8 (2^min (zq ((↑(length l+i):Int)%8)) 8*(VU Wn (↑(WC (VY 32 (WJ (v:Int) (2^min i 32))&&&VY 32 1)):Int)%256))) (bI (2^min (zq ((↑(length l+i):Int)%8)) 8*(VU Wn (↑(WC (VY 32 (WJ (v:Int) (2^min i 32))&&&VY 32 1)):Int)%256)%256)) (aE _ _)<|.O 2 (aV Zx (VU Zx (↑(WC (VY 8 (↑(VE (getD (pk (aX l v i)) (0+zq ((↑(length l+i):Int)/8)*1) lh)):Int)|||VY 8 (2^min (zq ((↑(length l+i):Int)%8)) 8*(VU Wn (↑(WC (VY 32 (WJ (v:Int) (2^min i 32))&&&VY 32 1)):Int)%256)%256))):Int))) (da (VE (getD (pk (aX l v i)) (0+zq ((↑(length l+i):Int)/8)*1) lh)|||zq (2^min (zq ((↑(length l+i):Int)%8)) 8*(VU Wn (↑(WC (VY 32 (WJ (v:Int) (2^min i 32))&&&VY 32 1)):Int)%256)%256))) (au (@tC  ((↑(VE (getD (pk (aX l v i)) (0+zq ((↑(length l+i):Int)/8)*1) lh)):Int)) (2^min (zq ((↑(length l+i):Int)%8)) 8*(VU Wn (↑(WC (VY 32 (WJ (v:Int) (2^min i 32))&&&VY 32 1)):Int)%256)%256) (by(exact dR _ (by decide) (by decide))) om))<|.K 1 (true&&decide ((↑(length l+i):Int)/8<(↑(length (pk (aX l v i))):Int))) Rw<|.K 1 (true&&VN (0+zq ((↑(length l+i):Int)/8)*1+1) (length (map dB (pk (aX l v i))))) UQ<|.lst (ag (map dB (pk (aX l v i))) (0+zq ((↑(length l+i):Int)/8)*1) [da (VE (getD (pk (aX l v i)) (0+zq ((↑(length l+i):Int)/8)*1) lh)|||zq (2^min (zq ((↑(length l+i):Int)%8)) 8*(VU Wn (↑(WC (VY 32 (WJ (v:Int) (2^min i 32))&&&VY 32 1)):Int)%256)%256))]) (ag (map dB (pk (aX l v i))) (zq ((↑(length l+i):Int)/8)) [da (VE (getD (pk (aX l v i)) (zq ((↑(length l+i):Int)/8)) lh)|||zq (2^min (zq ((↑(length l+i):Int)%8)) 8*(VU Wn (↑(WC (VY 32 (WJ (v:Int) (2^min i 32))&&&VY 32 1)):Int)%256)%256))]) (by(simp;done))<|.W 13 ((↑(length l+i):Int)+1)<|.W 12 (i+1)<|.V 1 39 (zI (i+1)) (zN (i+1)) (by(refine aG ?_;(omega)))<|.blk 8 8 (VF [VJ 16 16 0 (length (pk (aX l v i))) 1,zI ((↑(length l+i):Int)+1)] 163 false) (VF [VJ 16 16 0 (length (pk (aX l v (i+1)))) 1,zN (length l+(i+1))] 163 false) UR<|.blk 16 16 (VF (ag (map dB (pk (aX l v i))) (zq ((↑(length l+i):Int)/8)) [da (VE (getD (pk (aX l v i)) (zq ((↑(length l+i):Int)/8)) lh)|||zq (2^min (zq ((↑(length l+i):Int)%8)) 8*(VU Wn (↑(WC (VY 32 (WJ (v:Int) (2^min i 32))&&&VY 32 1)):Int)%256)%256))]) 5 true) (VF (map dB (pk (aX l v (i+1)))) 5 true) (by(refine aw (Eq.trans (Nt (by rw[bc]) om (Hw om om)) ?_);rw[xl]))<|Hn.next ZB ⟨(i+1),om,⟨⟩⟩ (by show n-(i+1)<n-i;clear ZB ZD;omega) [(0,0),(8,8),(16,16)] ro)) (λ p0 Z9=>.blk 8 8 (VF [VJ 16 16 0 (length (pk (aX l v i))) 1,zN (length l+i)] 163 false) (VF [VJ 16 16 0 (length (pk (aX l v n))) 1,zN (length l+n)] 163 false) (by(rw[show i=n from by(omega)]))<|.blk 16 16 (VF (map dB (pk (aX l v i))) 5 true) (VF (map dB (pk (aX l v n))) 5 true) (by(rw[show i=n from by(omega)]))<|Hn.last ZD 0 (():Unit) rfl [(0,0),(8,8),(16,16)] ro)) (fun|⟨i,hi,_⟩=>by kernel_rfl) ⟨(0),om,⟨⟩⟩ [(8,8),(296,296),(336,336)] ro (bM (fun|()=>.Y 16 [16] [16] (WL [Wu [VJ 0 0 0 (length (pk (aX l v n))) 1,zN (length l+n)],zI 0]) [VF (map dB (pk (aX l v n))) 5 true] ok))) kr
end Vp
end Go.Proofs.YtefjnofhgkjpmaaGreat

/- Part 1. -/
import Derived.WalkKit
import Derived.WalkSpells
import Derived.WalkLawsBesides
import Derived.Outline
import Derived.Lib.Hide
import Derived.Lib.SlBytesConst
import Derived.ProofKit
import Derived.OpenShut
import Derived.ShutString
import Derived.Below
import Derived.Deep.MidRow
import Derived.Deep.AppendLies
import Derived.Maps.AppendAt
import Derived.Laws.AppendOwnNone
import Derived.Deep.RegionHeld3
import Derived.Deep.QuietTactic
import Derived.BigQuiet
import Derived.Deep.DrawnRows
import Derived.CallsIn
import Derived.OrdersIn
import Derived.TacticsIn
import Derived.RangeFuncLeaves
set_option linter.unusedVariables false
set_option linter.unusedSimpArgs false
set_option maxRecDepth 100000
set_option maxHeartbeats 4000000
open Array renaming getElem?_eq_getElem → Va, getElem?_eq_none → VX, getElem?_modify → WN, getElem?_setIfInBounds_ne → U7, getElem?_setIfInBounds_self_of_lt → Wo, getElem?_toList → Wi, toArray_toList → U0, toList_map → VH
open BitVec renaming ofInt → TA
open Bool renaming and_eq_true → Tw, false_eq_true → Vh, not_eq_true' → VC, or_eq_true → VF
open Go renaming underlying → Wy
open Go.Act renaming put → YY
open Go.Addr renaming add_mid → U8
open Go.Builtin renaming len_ → XA
open Go.Instr renaming indexAt → Yb, sliceAt → Yc, sliceBounds → Wm, sureAddr → WJ
open Go.Op renaming bytesLess → Xz, equal → WZ, equalIn → VU, intArith → Wb, intBits → Wq, intCmp → WP
open Go.Result renaming andThen_ok → TE
open Go.RowKit.Below renaming heap_alloc → Vk
open Go.Sem renaming run → WX, run_bind → TS, run_ite → V0, run_pure → TV
open Go.Value renaming agg → Y4, cells → Xp
open Go.World renaming cell?_of_block → XP, setCells → XO, shape? → Xc
open Inhabited renaming default → mb
open Int renaming toNat_of_nonneg → Vc
open List renaming append_assoc → TG, foldlM_cons → Yv, foldlM_nil → YO, foldl_cons → W5, forIn_cons → YN, getD_eq_getElem?_getD → To, getElem?_append_left → TQ, getElem?_append_right → TO, getElem?_cons_succ → Vg, getElem?_cons_zero → V9, getElem?_drop → UM, getElem?_eq_getElem → Ts, getElem?_map → TN, getElem?_range → UO, getElem?_take → Un, getElem?_toArray → XM, getElem_mem → Uo, length_cons → T3, length_drop → Ul, length_nil → Vj, length_take → TR, map_cons → Vq, map_drop → Xt, map_take → Wg, mem_cons_of_mem → TU, mem_cons_self → TP, mem_map → WI, mem_of_getElem? → UB, mem_of_mem_drop → Wp, mem_of_mem_take → U1, mem_range → XQ, range → Uv, take_of_length_le → T9
open Nat renaming add_assoc → UF, add_le_add_left → X6, add_mul → UN, add_zero → VD, beq → Tx, ble → Tz, ble_eq_true_of_le → Tv, blt → VL, div → Xy, div_one → YI, eq_of_beq_eq_true → TB, land → Xi, le_of_ble_eq_true → TC, le_refl → TD, le_trans → T6, lt_of_lt_of_le → Ug, lt_or_ge → T5, mul_le_mul_right → Ur, pow_succ → Us, sub_mul → YJ, sub_self → UJ, zero_add → T0, zero_mul → Vd
open Ne renaming symm → WW
open Option renaming isNone_iff_eq_none → Xn, map_eq_some_iff → UG, map_none → YP, map_some → WA
open UInt8 renaming ofNat → Um
namespace Go.Bw
open Go.RowKit

def Ly (w:World)(a:Option Addr)(cap n size:Nat)(cs:List Value):Prop:=
 cs.length=n*size∧n≤cap∧cap≤9223372036854775807∧(a=none→cap=0)∧
 (n=0∨∃b off,a=some ⟨b,off,none⟩∧b<w.heap.size∧∀i v,cs[i]? =some v→w.cell? ⟨b,off+i,none⟩=some v)

def bv (x:UInt8):Value:=.int .u8 (x.toNat:Int)

def iV (w:World)(a:Option Addr)(cap:Nat)(bs:List UInt8):Prop:=Ly w a cap bs.length 1 (bs.map bv)

theorem Ly.below {w w':World}{a:Option Addr}{cap n size:Nat}{cs:List Value}{B:Nat}(h:Ly w a cap n size cs)(hb:Below B w w')(hB:B=w.heap.size):Ly w' a cap n size cs:=by
 subst hB
 obtain⟨h1,h2,h3,h0,h4⟩:=h
 refine⟨h1,h2,h3,h0,?_⟩
 rcases h4 with h4|⟨b,off,ha,hlt,hc⟩
 ·exact .inl h4
 ·exact .inr ⟨b,off,ha,Ug hlt hb.size,fun i v hv=>(hb.cell (p:=⟨b,off+i,none⟩) hlt).trans (hc i v hv)⟩

theorem iV.below {w w':World}{a:Option Addr}{cap:Nat}{bs:List UInt8}{B:Nat}(h:iV w a cap bs)(hb:Below B w w')(hB:B=w.heap.size):iV w' a cap bs:=Ly.below h hb hB

theorem iV.nil (w:World):iV w none 0 []:=⟨rfl,TD _,by omega,fun _=>rfl,.inl rfl⟩

theorem iV.le {w:World}{a:Option Addr}{cap:Nat}{bs:List UInt8}(h:iV w a cap bs):bs.length≤cap∧cap≤9223372036854775807:=⟨h.2.1,h.2.2.1⟩

theorem iV.get {w:World}{a:Option Addr}{cap:Nat}{bs:List UInt8}(h:iV w a cap bs)(k:Nat)(hk:k<bs.length):
  ∃b off,a=some ⟨b,off,none⟩∧b<w.heap.size∧w.cell? ⟨b,off+k,none⟩=some (.int .u8 ((bs[k]).toNat:Int)):=by
 obtain⟨h1,h2,h3,h0,h4⟩:=h
 rcases h4 with h4|⟨b,off,ha,hlt,hc⟩
 ·omega
 ·exact⟨b,off,ha,hlt,hc k _ (by simp[Ts hk,bv])⟩

theorem iV.take {w:World}{a:Option Addr}{cap:Nat}{bs:List UInt8}(h:iV w a cap bs)(t:Nat):iV w a cap (bs.take t):=by
 obtain⟨h1,h2,h3,h0,h4⟩:=h
 refine⟨by simp,by rw[TR];omega,h3,h0,?_⟩
 rcases h4 with h4|⟨b,off,ha,hlt,hc⟩
 ·exact .inl (by rw[TR];omega)
 ·refine .inr ⟨b,off,ha,hlt,fun i v hv=>hc i v ?_⟩
  rw[Wg,Un]at hv
  split at hv
  ·exact hv
  ·cases hv
def qW (a:Option Addr)(cap t:Nat):Option Addr:=if cap=t then a else a.map (·.add (t*1))
theorem iV.drop {w:World}{a:Option Addr}{cap:Nat}{bs:List UInt8}(h:iV w a cap bs)(t:Nat)(ht:t≤bs.length):iV w (qW a cap t) (cap-t) (bs.drop t):=by
 obtain⟨h1,h2,h3,h0,h4⟩:=h
 refine⟨by simp,by rw[Ul];omega,by omega,?_,?_⟩
 ·intro hn
  by_cases e:cap=t
  ·omega
  ·unfold qW at hn
   rw[if_neg e]at hn
   cases a with
   |none=>have:=h0 rfl;omega
   |some ad=>simp at hn
 ·by_cases hl:(bs.drop t).length=0
  ·exact .inl hl
  ·rcases h4 with h4|⟨b,off,ha,hlt,hc⟩
   ·simp at hl;omega
   ·refine .inr ⟨b,off+t,?_,hlt,fun i v hv=>?_⟩
    ·unfold qW
     rw[if_neg (by simp at hl;omega),ha]
     simp[U8]
    ·rw[UF]
     refine hc (t+i) v ?_
     rw[Xt,UM]at hv
     exact hv
section
variable {P:Program}
end

theorem i7 (n:Nat)(h:n<256):(Um n).toNat=n:=by simp;omega

theorem Lz {a w w':World}(h:Below a.heap.size a w)(k:Below w.heap.size w w'):Below a.heap.size a w':=h.trans (k.mono h.size)
def Gives (w:World)(v:Value)(e:Ending)(w':World):Prop:=e= .returned v∧Below w.heap.size w w'

def ew (w:World)(g:Nat)(cs:Array Value)(t:TypeId):Prop:=w.heap[g]? =some (.cells cs t (0,0))

theorem ew.lt {w:World}{g:Nat}{cs:Array Value}{t:TypeId}(h:ew w g cs t):g<w.heap.size:=by
 rcases T5 g w.heap.size with h1|h1
 ·exact h1
 ·unfold ew at h;rw[VX h1]at h;cases h
theorem ew.cell {w:World}{g:Nat}{cs:Array Value}{t:TypeId}(h:ew w g cs t)(j:Nat):w.cell? ⟨g,j,none⟩=cs[j]?:=cell_of_row w g j cs t (0,0) h
theorem ew.set {w:World}{g:Nat}{cs:Array Value}{t:TypeId}(h:ew w g cs t)(i:Nat)(v:Value):ew (w.setCell ⟨g,i,none⟩ v) g (cs.setIfInBounds i v) t:=heap_setCell_same w g i cs t v h
theorem ew.alloc {w:World}{g:Nat}{cs:Array Value}{t:TypeId}(h:ew w g cs t)(o:Obj):ew (w.alloc o) g cs t:=(Vk w o g h.lt).trans h
theorem ew.new (w:World)(cs:Array Value)(t:TypeId):ew (w.alloc (.cells cs t)) w.heap.size cs t:=heap_alloc_new w _
theorem ew.below {w w':World}{B g:Nat}{cs:Array Value}{t:TypeId}(h:ew w g cs t)(hb:Below B w w')(hg:g<B):ew w' g cs t:=(hb.block g hg).trans h
theorem ew.drew {w:World}{g:Nat}{cs:Array Value}{t:TypeId}(h:ew w g cs t):ew w.drew g cs t:=h

def ey (cs:Array Value):Nat→List Value→Array Value
 |_,[]=>cs
 |o,v::r=>ey (cs.setIfInBounds o v) (o+1) r
theorem ic:∀(vs:List Value) (o:Nat) (cs:Array Value),(ey cs o vs).size=cs.size
 |[],_,_=>rfl
 |v::r,o,cs=>by rw[ey,ic r];simp
theorem dm (g:Nat):∀(vs:List Value) (o:Nat) (w:World),w.grownBy (w.setCells g o vs) (some g)∧(w.setCells g o vs).heap.size=w.heap.size
 |[],_,_=>⟨⟨rfl,rfl,rfl,TD _,fun _ _ _=>rfl⟩,rfl⟩
 |v::r,o,w=>by
  obtain⟨h,hs⟩:=dm g r (o+1) (w.setCell ⟨g,o,none⟩ v)
  have hz:(w.setCell ⟨g,o,none⟩ v).heap.size=w.heap.size:=by simp[World.setCell]
  refine⟨⟨h.os,h.tape,h.output,by rw[XO,hs,hz];exact TD _,fun k hk hkr=>?_⟩,by rw[XO,hs,hz]⟩
  have e:=h.block k (by omega) hkr
  rw[XO,e]
  exact heap_setCell_other w _ k v (fun e=>hkr (by rw[e]))
section
variable {P:Program}
end

theorem vx (w:World)(r:Option Nat):w.grownBy w r:=⟨rfl,rfl,rfl,TD _,fun _ _ _=>rfl⟩
section
variable {P:Program}
end

theorem py {w w':World}{B b o:Nat}{cs:List Value}(h:w.rangeAt b o cs)(hb:Below B w w')(hlt:b<B):w'.rangeAt b o cs:=
 fun j v hv=>(hb.cell (p:=⟨b,o+j,none⟩) hlt).trans (h j v hv)
def Qu (w0:World)(g:Nat)(cs:List Value)(w:World):Prop:=Below w0.heap.size w0 w∧w.rangeAt g 0 cs
theorem Qu.next {w0 w w':World}{g:Nat}{cs:List Value}(h:Below w0.heap.size w0 w∧w.rangeAt g 0 cs)(hb:Below w.heap.size w w')(hg:g<w0.heap.size):Below w0.heap.size w0 w'∧w'.rangeAt g 0 cs:=
 ⟨Lz h.1 hb,py h.2 hb (Ug hg h.1.size)⟩

theorem vy (bs:List UInt8):∀s:ByteArray,(bs.map fun x=>((x.toNat:Nat):Int)).foldl (fun r n=>r.push (Um n.toNat)) s=⟨s.data++bs.toArray⟩:=by
 induction bs with
 |nil=>intro s;simp
 |cons x bs ih=>
  intro s
  simp only[Vq,W5]
  rw[ih]
  simp[ByteArray.push]
end Go.Bw
namespace Go.Vx
inductive Tr (α:Type) where
 |e
 |n (l:Tr α) (v:Option α) (r:Tr α)
 deriving Inhabited
namespace Tr
variable {α:Type}
def get (t:Tr α):Nat→Option α:=
 match t with
 | .e=>fun _=>none
 | .n l v r=>fun k=>bif Tx k 0 then v else bif Tx (Xi k 1) 1 then l.get (Xy k 2)else r.get (Xy k 2-1)
def put (v:Option α):Nat→Nat→Tr α→Tr α
 |0,_,_=>.e
 |f+1,k,.e=>bif Tx k 0 then .n .e v .e else bif Tx (Xi k 1) 1 then .n (put v f (Xy k 2) .e) none .e else .n .e none (put v f (Xy k 2-1) .e)
 |f+1,k,.n l x r=>bif Tx k 0 then .n l v r else bif Tx (Xi k 1) 1 then .n (put v f (Xy k 2) l) x r else .n l x (put v f (Xy k 2-1) r)
theorem nR (k:Nat):Tx (Xi k 1) 1=decide (k%2=1):=by
 have:Xi k 1=k%2:=Nat.and_one_is_mod k
 rw[this]
 rcases Nat.mod_two_eq_zero_or_one k with h|h<;>rw[h]<;>rfl
theorem qX (a b:Nat):Tx a b=decide (a=b):=by
 by_cases h:a=b
 ·subst h;simp
 ·cases hb:Tx a b with
  |false=>simp[h]
  |true=>exact absurd (TB hb) h
theorem pJ (k:Nat):(Tr.e:Tr α).get k=none:=rfl
theorem nS (l:Tr α)(v:Option α)(r:Tr α)(k:Nat):(Tr.n l v r).get k=if k=0 then v else if k%2=1 then l.get (k/2)else r.get (k/2-1):=by
 show(bif Tx k 0 then v else bif Tx (Xi k 1) 1 then l.get (Xy k 2)else r.get (Xy k 2-1))=_
 rw[nR,qX]
 by_cases h0:k=0
 ·simp[h0]
 ·by_cases h1:k%2=1<;>simp[h0,h1]<;>rfl
theorem LA (v:Option α)(f k:Nat):put v (f+1) k .e=if k=0 then .n .e v .e else if k%2=1 then .n (put v f (k/2) .e) none .e else .n .e none (put v f (k/2-1) .e):=by
 show(bif Tx k 0 then _ else bif Tx (Xi k 1) 1 then _ else _)=_
 rw[nR,qX]
 by_cases h0:k=0
 ·simp[h0]
 ·by_cases h1:k%2=1<;>simp[h0,h1]<;>rfl
theorem LC (v:Option α)(f k:Nat)(l:Tr α)(x:Option α)(r:Tr α):put v (f+1) k (.n l x r)=if k=0 then .n l v r else if k%2=1 then .n (put v f (k/2) l) x r else .n l x (put v f (k/2-1) r):=by
 show(bif Tx k 0 then _ else bif Tx (Xi k 1) 1 then _ else _)=_
 rw[nR,qX]
 by_cases h0:k=0
 ·simp[h0]
 ·by_cases h1:k%2=1<;>simp[h0,h1]<;>rfl
theorem kM (v:Option α):∀(f k:Nat) (t:Tr α) (c:Nat),k+1<2^f→(put v f k t).get c=if c=k then v else t.get c
 |0,k,t,c,h=>by simp at h
 |f+1,k,.e,c,h=>by
  have h2:2^(f+1)=2*2^f:=by rw[Us];omega
  rw[LA,pJ]
  by_cases h0:k=0
  ·rw[if_pos h0,nS];subst h0
   by_cases hc:c=0
   ·simp[hc]
   ·by_cases h1:c%2=1<;>simp[hc,h1,pJ]
  ·rw[if_neg h0]
   by_cases hk:k%2=1
   ·rw[if_pos hk,nS]
    by_cases hc:c=0
    ·have:c≠k:=by omega
     simp[hc,WW h0]
    ·by_cases h1:c%2=1
     ·rw[if_neg hc,if_pos h1,kM v f (k/2) .e (c/2) (by omega),pJ]
      by_cases e:c=k
      ·simp[e]
      ·rw[if_neg e,if_neg (by omega)]
     ·rw[if_neg hc,if_neg h1,pJ,if_neg (by omega)]
   ·rw[if_neg hk,nS]
    by_cases hc:c=0
    ·simp[hc,WW h0]
    ·by_cases h1:c%2=1
     ·rw[if_neg hc,if_pos h1,pJ,if_neg (by omega)]
     ·rw[if_neg hc,if_neg h1,kM v f (k/2-1) .e (c/2-1) (by omega),pJ]
      by_cases e:c=k
      ·simp[e]
      ·rw[if_neg e,if_neg (by omega)]
 |f+1,k,.n l x r,c,h=>by
  have h2:2^(f+1)=2*2^f:=by rw[Us];omega
  rw[LC,nS]
  by_cases h0:k=0
  ·rw[if_pos h0,nS];subst h0
   by_cases hc:c=0
   ·simp[hc]
   ·simp[hc]
  ·rw[if_neg h0]
   by_cases hk:k%2=1
   ·rw[if_pos hk,nS]
    by_cases hc:c=0
    ·simp[hc,WW h0]
    ·by_cases h1:c%2=1
     ·rw[if_neg hc,if_pos h1,kM v f (k/2) l (c/2) (by omega),if_neg hc,if_pos h1]
      by_cases e:c=k
      ·simp[e]
      ·rw[if_neg e,if_neg (by omega)]
     ·rw[if_neg hc,if_neg h1,if_neg hc,if_neg h1,if_neg (by omega)]
   ·rw[if_neg hk,nS]
    by_cases hc:c=0
    ·simp[hc,WW h0]
    ·by_cases h1:c%2=1
     ·rw[if_neg hc,if_pos h1,if_neg hc,if_pos h1,if_neg (by omega)]
     ·rw[if_neg hc,if_neg h1,kM v f (k/2-1) r (c/2-1) (by omega),if_neg hc,if_neg h1]
      by_cases e:c=k
      ·simp[e]
      ·rw[if_neg e,if_neg (by omega)]
def okK (k:Nat):Bool:=VL k 1152921504606846976
theorem DG {k:Nat}:okK k=true↔k<1152921504606846976:=by
 unfold okK;constructor
 ·intro h;have:=TC h;omega
 ·intro h;exact Tv (by omega)
def set (t:Tr α)(k:Nat)(v:Option α):Tr α:=bif okK k then put v 61 k t else .e
theorem get_set (t:Tr α)(k:Nat)(v:Option α)(h:okK k=true)(c:Nat):(t.set k v).get c=if c=k then v else t.get c:=by
 unfold set;rw[h]
 refine kM v 61 k t c ?_
 have:=DG.1 h
 have:(2:Nat)^61=2305843009213693952:=by decide
 omega
theorem of_set {t:Tr α}{k c:Nat}{v:Option α}{d:α}(h:(t.set k v).get c=some d):(c=k∧v=some d)∨(c≠k∧t.get c=some d):=by
 cases hk:okK k with
 |true=>
  rw[get_set t k v hk]at h
  by_cases e:c=k
  ·rw[if_pos e]at h;exact .inl ⟨e,h⟩
  ·rw[if_neg e]at h;exact .inr ⟨e,h⟩
 |false=>unfold set at h;rw[hk]at h;cases h
def ofL:List (Nat×α)→Tr α
 |[]=>.e
 |p::r=>(ofL r).set p.1 (some p.2)
theorem of_ofL {l:List (Nat×α)}{c:Nat}{d:α}(h:(ofL l).get c=some d):(c,d)∈l:=by
 induction l with
 |nil=>cases h
 |cons p r ih=>
  obtain⟨k,v⟩:=p
  rcases of_set h with⟨rfl,hv⟩|⟨_,h⟩
  ·cases hv;exact TP
  ·exact TU _ (ih h)
end Tr
end Go.Vx
namespace Go.Vx
open Go.RowKit Go.Bw

inductive D
 |v (c:Value)
 |sl (nn:Bool) (n size:Nat) (cells:List D)
 |ref (k g off n sz:Nat)
 |ptr (k g off:Nat)
 |ep (cells:List D) (off:Nat)
 |agg (cs:List D)
 |tup (vs:List D)
 |ifc (t:TypeId) (x:D)
 |fn (f:Fn) (first cap:List D)
 |yl (k g:Nat)
 deriving Inhabited

structure Blk where
 cells:List D
 elem:TypeId
 row:Bool
 deriving Inhabited
structure LRec where
 st:LoopState
 pend:Option Code
 params:Array Tmp
 assign:Code
 body:Code
 nt:Nat
 tm:Tr D
 deriving Inhabited
inductive Ob where
 |b (x:Blk)
 |l (r:LRec)
 deriving Inhabited

structure AS where
 tm:Tr D
 hp:Tr (Nat×Ob)
 nx:Nat
 us:List Nat:=[]
 deriving Inhabited

def AS.gat (s:AS)(k:Nat):Option (Nat×Ob):=s.hp.get k
def AS.at (s:AS)(k:Nat):Option (Nat×Blk):=
 match s.hp.get k with
 |some (g,.b x)=>some (g,x)
 |_=>none
def AS.lat (s:AS)(k:Nat):Option (Nat×LRec):=
 match s.hp.get k with
 |some (g,.l r)=>some (g,r)
 |_=>none
theorem AS.at_iff {s:AS}{k g:Nat}{b:Blk}:s.at k=some (g,b)↔s.gat k=some (g,.b b):=by
 unfold AS.at AS.gat;split
 ·rename_i h;rw[h];simp
 ·rename_i h
  constructor
  ·intro h';cases h'
  ·intro h';exact absurd h' (h _ _)
theorem AS.lat_iff {s:AS}{k g:Nat}{r:LRec}:s.lat k=some (g,r)↔s.gat k=some (g,.l r):=by
 unfold AS.lat AS.gat;split
 ·rename_i h;rw[h];simp
 ·rename_i h
  constructor
  ·intro h';cases h'
  ·intro h';exact absurd h' (h _ _)

structure Env where
 φ:Nat→Option Nat
 own:Nat→Prop
 nm:Nat→Prop

def fY:Nat:=9223372036854775807

def Env.cl (E:Env):Env:=⟨E.φ,E.own,fun _=>False⟩

inductive RD:Env→World→D→Value→Prop
 |v {E:Env} {w:World} (c:Value) (h:c.oneCell'=true):RD E w (.v c) c
 |sl {E:Env} {w:World} (nn:Bool) (n size:Nat) (cells:List D) (a:Option Addr) (c:Nat) (us:List Value) (hlen:us.length=cells.length)
   (hd:∀(i:Nat) d u,cells[i]? =some d→us[i]? =some u→RD E.cl w d u) (h1:∀u∈us,u.oneCell'=true)
   (hn:cells.length=n*size) (hs:0<size) (hc:n≤c∧c≤fY) (h0:a=none→c=0∧nn=false)
   (hr:n=0∨∃b off,a=some ⟨b,off,none⟩∧b<w.heap.size∧¬E.own b∧∀(i:Nat) u,us[i]? =some u→w.cell? ⟨b,off+i,none⟩=some u):
   RD E w (.sl nn n size cells) (.slice a n c)
 |ref {E:Env} {w:World} (k g off n sz c b off':Nat) (t:TypeId) (m:Nat) (hg:E.nm g) (hb:E.φ g=some b) (hc:n≤c∧c≤fY) (ho:off'=off∨(n=0∧c=0)) (hs:w.shape? b=some (t,m)) (hm:off'+c*sz≤m):
   RD E w (.ref k g off n sz) (.slice (some ⟨b,off',none⟩) n c)
 |refn {E:Env} {w:World} (k g sz:Nat) (hg:E.nm g) (hb:E.φ g=none):RD E w (.ref k g 0 0 sz) (.slice none 0 0)
 |ptr {E:Env} {w:World} (k g off b:Nat) (hg:E.nm g) (hb:E.φ g=some b):RD E w (.ptr k g off) (.pointer (some ⟨b,off,none⟩))
 |ep {E:Env} {w:World} (cells:List D) (off b o:Nat) (us:List Value) (hlen:us.length=cells.length)
   (hd:∀(i:Nat) d u,cells[i]? =some d→us[i]? =some u→RD E.cl w d u) (h1:∀u∈us,u.oneCell'=true)
   (hb:b<w.heap.size) (ho:¬E.own b) (hr:∀(i:Nat) u,us[i]? =some u→w.cell? ⟨b,o+i,none⟩=some u):
   RD E w (.ep cells off) (.pointer (some ⟨b,o+off,none⟩))
 |agg {E:Env} {w:World} (cs:List D) (us:List Value) (hlen:us.length=cs.length) (hd:∀(i:Nat) d u,cs[i]? =some d→us[i]? =some u→RD E w d u) (h1:∀u∈us,u.oneCell'=true):
   RD E w (.agg cs) (.agg us.toArray)
 |tup {E:Env} {w:World} (cs:List D) (us:List Value) (hlen:us.length=cs.length) (hd:∀(i:Nat) d u,cs[i]? =some d→us[i]? =some u→RD E w d u):
   RD E w (.tup cs) (.tuple us.toArray)
 |ifc {E:Env} {w:World} (t:TypeId) (x:D) (u:Value) (h:RD E w x u):RD E w (.ifc t x) (.iface t u)
 |fn {E:Env} {w:World} (f:Fn) (fi ca:List D) (us vs:List Value) (hl1:us.length=fi.length) (hl2:vs.length=ca.length)
   (hd1:∀(i:Nat) d u,fi[i]? =some d→us[i]? =some u→RD E w d u) (hd2:∀(i:Nat) d u,ca[i]? =some d→vs[i]? =some u→RD E w d u):
   RD E w (.fn f fi ca) (.func f us.toArray vs.toArray)
 |yl {E:Env} {w:World} (k g b:Nat) (hg:E.nm g) (hb:E.φ g=some b):RD E w (.yl k g) (.func (.yield b) #[] #[])

structure Stp (E E':Env)(w w':World):Prop where
 nm:∀g,E.nm g→E'.nm g
 φ:∀g,E.nm g→E'.φ g=E.φ g
 size:w.heap.size≤w'.heap.size
 keep:∀b,b<w.heap.size→¬E.own b→¬E'.own b∧w'.heap[b]? =w.heap[b]?
 shape:∀b,b<w.heap.size→w'.shape? b=w.shape? b

theorem Stp.refl (E:Env)(w:World):Stp E E w w:=⟨fun _ h=>h,fun _ _=>rfl,TD _,fun _ _ h=>⟨h,rfl⟩,fun _ _=>rfl⟩
theorem Stp.trans {E E' E'':Env}{w w' w'':World}(h:Stp E E' w w')(k:Stp E' E'' w' w''):Stp E E'' w w'':=
 ⟨fun g hg=>k.nm g (h.nm g hg),fun g hg=>(k.φ g (h.nm g hg)).trans (h.φ g hg),T6 h.size k.size,fun b hb ho=>by
  obtain⟨h1,h2⟩:=h.keep b hb ho
  obtain⟨h3,h4⟩:=k.keep b (Ug hb h.size) h1
  exact⟨h3,h4.trans h2⟩,fun b hb=>(k.shape b (Ug hb h.size)).trans (h.shape b hb)⟩

structure StpX (n:Nat)(E E':Env)(w w':World):Prop where
 nm:∀g,g<n→E.nm g→E'.nm g
 φ:∀g,g<n→E.nm g→E'.φ g=E.φ g
 size:w.heap.size≤w'.heap.size
 keep:∀b,b<w.heap.size→¬E.own b→¬E'.own b∧w'.heap[b]? =w.heap[b]?
 shape:∀b,b<w.heap.size→w'.shape? b=w.shape? b
theorem Stp.x {E E':Env}{w w':World}(h:Stp E E' w w')(n:Nat):StpX n E E' w w':=⟨fun g _ hg=>h.nm g hg,fun g _ hg=>h.φ g hg,h.size,h.keep,h.shape⟩
theorem StpX.full {n:Nat}{E E':Env}{w w':World}(h:StpX n E E' w w')(hn:∀g,E.nm g→g<n):Stp E E' w w':=⟨fun g hg=>h.nm g (hn g hg) hg,fun g hg=>h.φ g (hn g hg) hg,h.size,h.keep,h.shape⟩
theorem StpX.trans {n:Nat}{E E' E'':Env}{w w' w'':World}(h:StpX n E E' w w')(k:StpX n E' E'' w' w''):StpX n E E'' w w'':=
 ⟨fun g hn hg=>k.nm g hn (h.nm g hn hg),fun g hn hg=>(k.φ g hn (h.nm g hn hg)).trans (h.φ g hn hg),T6 h.size k.size,fun b hb ho=>by
  obtain⟨h1,h2⟩:=h.keep b hb ho
  obtain⟨h3,h4⟩:=k.keep b (Ug hb h.size) h1
  exact⟨h3,h4.trans h2⟩,fun b hb=>(k.shape b (Ug hb h.size)).trans (h.shape b hb)⟩

theorem Stp.cl {E E':Env}{w w':World}(h:Stp E E' w w'):Stp E.cl E'.cl w w':=⟨fun _ hg=>hg.elim,fun _ hg=>hg.elim,h.size,h.keep,h.shape⟩
theorem Stp.ofCl (E:Env)(w:World):Stp E.cl E w w:=⟨fun _ hg=>hg.elim,fun _ hg=>hg.elim,TD _,fun _ _ h=>⟨h,rfl⟩,fun _ _=>rfl⟩

theorem RD.step {E E':Env}{w w':World}(hs:Stp E E' w w'){d:D}{u:Value}(h:RD E w d u):RD E' w' d u:=by
 induction h generalizing E' w' with
 |v c h=>exact .v c h
 |sl nn n size cells a c us hlen _ h1 hn hp hc h0 hr ih=>
  refine .sl nn n size cells a c us hlen (fun i d u a1 a2=>ih i d u a1 a2 hs.cl) h1 hn hp hc h0 ?_
  rcases hr with h|⟨b,off,ha,hb,ho,hcell⟩
  ·exact .inl h
  ·obtain⟨ho',hk⟩:=hs.keep b hb ho
   exact .inr ⟨b,off,ha,Ug hb hs.size,ho',fun i u hu=>(XP (a:=⟨b,off+i,none⟩) hk).trans (hcell i u hu)⟩
 |@ref E w k g off n sz c b off' t m hg hb hc ho hsh hm=>
  have hlt:b<w.heap.size:=by
   rcases T5 b w.heap.size with h|h
   ·exact h
   ·rw[Xc,VX h]at hsh;cases hsh
  exact .ref k g off n sz c b off' t m (hs.nm _ hg) ((hs.φ g hg).trans hb) hc ho ((hs.shape b hlt).trans hsh) hm
 |refn k g sz hg hb=>exact .refn k g sz (hs.nm _ hg) ((hs.φ g hg).trans hb)
 |ptr k g off b hg hb=>exact .ptr k g off b (hs.nm _ hg) ((hs.φ g hg).trans hb)
 |ep cells off b o us hlen _ h1 hb ho hr ih=>
  obtain⟨ho',hk⟩:=hs.keep b hb ho
  exact .ep cells off b o us hlen (fun i d u a1 a2=>ih i d u a1 a2 hs.cl) h1 (Ug hb hs.size) ho' fun i u hu=>(XP (a:=⟨b,o+i,none⟩) hk).trans (hr i u hu)
 |agg cs us hlen _ h1 ih=>exact .agg cs us hlen (fun i d u a1 a2=>ih i d u a1 a2 hs) h1
 |tup cs us hlen _ ih=>exact .tup cs us hlen (fun i d u a1 a2=>ih i d u a1 a2 hs)
 |ifc t x u _ ih=>exact .ifc t x u (ih hs)
 |fn f fi ca us vs hl1 hl2 _ _ ih1 ih2=>exact .fn f fi ca us vs hl1 hl2 (fun i d u a1 a2=>ih1 i d u a1 a2 hs) (fun i d u a1 a2=>ih2 i d u a1 a2 hs)
 |yl k g b hg hb=>exact .yl k g b (hs.nm _ hg) ((hs.φ g hg).trans hb)
theorem RD.ofCl {E:Env}{w:World}{d:D}{u:Value}(h:RD E.cl w d u):RD E w d u:=h.step (Stp.ofCl E w)

def gS (fr:Nat×Nat)(n:Nat):Prop:=fr.1=fr.2∨n≤fr.1
theorem gS.zero (n:Nat):gS (0,0) n:=.inl rfl
theorem gS.no {fr:Nat×Nat}{n j:Nat}(h:gS fr n)(hj:j<n):(decide (fr.1≤j)&&decide (j<fr.2))=false:=by
 rcases h with h|h
 ·by_cases h1:fr.1≤j
  ·simp;omega
  ·simp[h1]
 ·simp;omega
theorem gS.more {fr:Nat×Nat}{n:Nat}(h:gS fr n):gS (if fr.1==fr.2 then(n,n+1)else(min fr.1 n,max fr.2 (n+1))) n:=by
 by_cases e:fr.1=fr.2
 ·rw[if_pos (by simpa using e)];exact .inr (TD _)
 ·rw[if_neg (by simpa using e)]
  rcases h with h|h
  ·exact absurd h e
  ·refine .inr ?_
   show n≤min fr.1 n
   omega

def HB (E:Env)(w:World)(g:Nat)(k:Blk):Prop:=
 E.nm g∧match E.φ g with
  |none=>k.cells=[]∧k.row=true
  |some b=>E.own b∧b<w.heap.size∧∃(cur:Array Value) (fr:Nat×Nat),w.heap[b]? =some (.cells cur k.elem fr)∧gS fr cur.size∧k.cells.length≤cur.size∧(k.row=false→cur.size=k.cells.length)∧
   (∀(i:Nat) d,k.cells[i]? =some d→∃u,cur[i]? =some u∧u.oneCell'=true∧RD E w d u)

def LB (E:Env)(w:World)(g:Nat)(r:LRec):Prop:=
 E.nm g∧∃(b:Nat) (L:Loop),E.φ g=some b∧E.own b∧b<w.heap.size∧w.heap[b]? =some (.loop L)∧L.state=r.st∧L.pending=r.pend∧L.params=r.params∧L.assign=r.assign∧L.body=r.body∧r.nt≤L.tmps.size∧
  (∀t d,r.tm.get t=some d→∃u,L.tmps[t]? =some u∧RD E w d u)

structure Fr (M:Nat→Prop)(w w':World):Prop where
 os:w'.os=w.os
 tape:w'.tape=w.tape
 output:w'.output=w.output
 size:w.heap.size≤w'.heap.size
 block:∀k,k<w.heap.size→¬M k→w'.heap[k]? =w.heap[k]?
 shape:∀k,k<w.heap.size→w'.shape? k=w.shape? k
theorem Fr.refl (M:Nat→Prop)(w:World):Fr M w w:=⟨rfl,rfl,rfl,TD _,fun _ _ _=>rfl,fun _ _=>rfl⟩
theorem Fr.trans {M:Nat→Prop}{a b c:World}(h:Fr M a b)(k:Fr M b c):Fr M a c:=
 ⟨k.os.trans h.os,k.tape.trans h.tape,k.output.trans h.output,T6 h.size k.size,fun i hi hn=>(k.block i (Ug hi h.size) hn).trans (h.block i hi hn),fun i hi=>(k.shape i (Ug hi h.size)).trans (h.shape i hi)⟩
theorem Fr.mono {M M':Nat→Prop}{w w':World}(h:Fr M w w')(hM:∀x,M x→M' x):Fr M' w w':=⟨h.os,h.tape,h.output,h.size,fun k hk hn=>h.block k hk (fun hm=>hn (hM k hm)),h.shape⟩
theorem Fr.below {w w':World}(h:Fr (fun k=>w.heap.size≤k) w w'):Below w.heap.size w w':=⟨h.os,h.tape,h.output,h.size,fun k hk=>h.block k hk (by omega)⟩
theorem Fr.of_grown {M:Nat→Prop}{w w':World}{row:Option Nat}(hg:w.grownBy w' row)(hr:∀k,row=some k→M k)(hs:∀k,k<w.heap.size→w'.shape? k=w.shape? k):Fr M w w':=
 ⟨hg.os,hg.tape,hg.output,hg.size,fun k hk hn=>hg.block k hk (fun e=>hn (hr k e.symm)),hs⟩
theorem Fr.drew (M:Nat→Prop)(w:World):Fr M w w.drew:=⟨rfl,rfl,rfl,TD _,fun _ _ _=>rfl,fun _ _=>rfl⟩

structure Cx where
 B:Nat
 w0:World
 nt:Nat
 O:Nat→Prop
 M:Nat→Prop
 hM:∀x,B≤x→M x
 xn:Nat

def mI (B:Nat)(E:Env)(w:World)(ds:List Deferred):Prop:=
 ∃bs:List Nat,ds=bs.map (fun b=>{target:=.collected b,args:=#[]})∧bs.Nodup∧∀b∈bs,B≤b∧E.own b∧w.heap[b]? =some (.deferred (some []))
theorem mI.nil (B:Nat)(E:Env)(w:World):mI B E w []:=⟨[],rfl,List.nodup_nil,fun b h=>by cases h⟩

def bG (s:AS)(φ:Nat→Option Nat)(x:Nat):Prop:=∃k g o,s.gat k=some (g,o)∧φ g=some x

structure SR (cx:Cx)(E:Env)(s:AS)(a:Act)(w:World):Prop where
 fr:∀t d,s.tm.get t=some d→∃u,a.tmps[t]? =some u∧RD E w d u
 sz:cx.nt≤a.tmps.size
 df:mI cx.B E w a.defers
 hp:∀k g b,s.at k=some (g,b)→HB E w g b
 lp:∀k g r,s.lat k=some (g,r)→LB E w g r
 inj:∀k k' g g' o o',k≠k'→s.gat k=some (g,o)→s.gat k'=some (g',o')→∀x,E.φ g=some x→E.φ g'≠some x
 lt:∀x,E.own x→x<w.heap.size
 low:∀x,bG s E.φ x→cx.M x
 base:∀x,cx.O x→E.own x
 bel:Fr cx.M cx.w0 w
 nm:∀g,E.nm g→g<s.nx∨∃i∈s.us,s.nx+8*i≤g∧g<s.nx+8*i+8
 szB:cx.B≤w.heap.size

theorem SR.kept {cx:Cx}{E:Env}{s:AS}{a:Act}{w:World}(h:SR cx E s a w){x:Nat}(hx:bG s E.φ x):E.own x∧x<w.heap.size∧((∃c t fr,w.heap[x]? =some (.cells c t fr))∨∃L,w.heap[x]? =some (.loop L)):=by
 obtain⟨k,g,o,hk,hx⟩:=hx
 cases o with
 |b b=>
  have:=(h.hp k g b (AS.at_iff.2 hk)).2
  rw[hx]at this
  obtain⟨h1,h2,cur,fr,h3,_⟩:=this
  exact⟨h1,h2,.inl ⟨_,_,_,h3⟩⟩
 |l r=>
  obtain⟨_,b,L,h1,h2,h3,h4,_⟩:=h.lp k g r (AS.lat_iff.2 hk)
  rw[hx]at h1;cases h1
  exact⟨h2,h3,.inr ⟨L,h4⟩⟩
theorem SR.own_of {cx:Cx}{E:Env}{s:AS}{a:Act}{w:World}(h:SR cx E s a w){x:Nat}(hx:bG s E.φ x):E.own x:=(h.kept hx).1
theorem SR.unmarked {cx:Cx}{E:Env}{s:AS}{a:Act}{w:World}(h:SR cx E s a w){x:Nat}(hx:w.heap[x]? =some (.deferred (some []))):¬bG s E.φ x:=by
 intro ho
 obtain⟨_,_,⟨c,t,fr,h1⟩|⟨L,h1⟩⟩:=h.kept ho<;>rw[hx]at h1<;>cases h1

def bT:Value→D
 | .agg cs=>.agg (cs.toList.map .v)
 | .tuple cs=>.tup (cs.toList.map .v)
 |v=>.v v

def fq:Value→Bool
 | .agg cs=>cs.toList.all (·.oneCell')
 | .tuple cs=>cs.toList.all (·.oneCell')
 |_=>true

theorem RD.const (E:Env)(w:World)(v:Value)(h:fq v=true):RD E w (bT v) v:=by
 have key:∀(l:List Value),l.all (·.oneCell')=true→(l.length=(l.map D.v).length)∧(∀(i:Nat) d u,(l.map D.v)[i]? =some d→l[i]? =some u→RD E w d u)∧(∀u∈l,u.oneCell'=true):=by
  intro l hl
  refine⟨by simp,fun i d u hd hu=>?_,fun u hu=>List.all_eq_true.1 hl u hu⟩
  rw[TN,hu]at hd
  simp at hd;subst hd
  exact .v u (List.all_eq_true.1 hl u (UB hu))
 cases v
 case agg cs=>obtain⟨h1,h2,h3⟩:=key cs.toList h;exact .agg _ _ h1 h2 h3
 case tuple cs=>obtain⟨h1,h2,h3⟩:=key cs.toList h;exact .tup _ _ h1 h2
 all_goals exact .v _ rfl

def ft (s:AS):Operand→Option D
 | .tmp t=>s.tm.get t
 | .const v=>if fq v then some (bT v)else none
 | .global g=>some (.v (.pointer (some ⟨g,0,none⟩)))
 | .func f=>some (.fn (.func f) [] [])

theorem SR.eval {cx:Cx}{E:Env}{s:AS}{a:Act}{w:World}(h:SR cx E s a w){x:Operand}{d:D}(hx:ft s x=some d):RD E w d (a.eval x):=by
 cases x with
 |tmp t=>
  obtain⟨u,hu,hr⟩:=h.fr t d hx
  have:a.eval (.tmp t)=u:=by simp[Act.eval,hu]
  rw[this];exact hr
 |const v=>
  simp only[ft]at hx
  split at hx
  ·cases hx;exact RD.const E w v ‹_›
  ·cases hx
 |global g=>cases hx;exact .v _ rfl
 |func f=>cases hx;exact RD.fn (.func f) [] [] [] [] rfl rfl (by simp) (by simp)

theorem SR.put {cx:Cx}{E:Env}{s:AS}{a:Act}{w:World}(h:SR cx E s a w){t:Nat}(ht:t<cx.nt){d:D}{u:Value}(hd:RD E w d u):
  SR cx E {s with tm:=s.tm.set t (some d)} (a.put (some t) u) w:=by
 refine{h with fr:=fun t' d' hg=>?_,sz:=?_,df:=h.df}
 ·rcases Tr.of_set hg with⟨rfl,he⟩|⟨e,hg⟩
  ·cases he
   refine⟨u,?_,hd⟩
   have:=h.sz
   simp[YY,show t'<a.tmps.size by omega]
  ·obtain⟨u',hu',hr⟩:=h.fr t' d' hg
   exact⟨u',by simpa[YY,U7 (WW e)]using hu',hr⟩
 ·simpa[YY]using h.sz
theorem SR.unput {cx:Cx}{E:Env}{s:AS}{a:Act}{w:World}(h:SR cx E s a w){t:Nat}(u:Value):
  SR cx E {s with tm:=s.tm.set t none} (a.put (some t) u) w:=by
 refine{h with fr:=fun t' d' hg=>?_,sz:=?_,df:=h.df}
 ·rcases Tr.of_set hg with⟨rfl,he⟩|⟨e,hg⟩
  ·cases he
  ·obtain⟨u',hu',hr⟩:=h.fr t' d' hg
   exact⟨u',by simpa[YY,U7 (WW e)]using hu',hr⟩
 ·simpa[YY]using h.sz

theorem HB.step {E E':Env}{w w':World}{g:Nat}{k:Blk}(h:HB E w g k)(hs:Stp E E' w w')(hb:∀b,E.φ g=some b→E'.own b∧w'.heap[b]? =w.heap[b]?):HB E' w' g k:=by
 obtain⟨h1,h2⟩:=h
 refine⟨hs.nm g h1,?_⟩
 rw[hs.φ g h1]
 cases hp:E.φ g with
 |none=>rw[hp]at h2;exact h2
 |some b=>
  rw[hp]at h2
  obtain⟨_,hlt,cur,fr,hc,hfr,hl,hr,hcell⟩:=h2
  obtain⟨ho,hk⟩:=hb b hp
  refine⟨ho,Ug hlt hs.size,cur,fr,hk.trans hc,hfr,hl,hr,fun i d hd=>?_⟩
  obtain⟨u,hu,h1,hrd⟩:=hcell i d hd
  exact⟨u,hu,h1,hrd.step hs⟩

theorem cI {w w':World}{b:Nat}(h:w'.heap[b]? =w.heap[b]?):w'.shape? b=w.shape? b:=by unfold Xc;rw[h]
theorem aN {w:World}{b:Nat}{cur:Array Value}{t:TypeId}{fr:Nat×Nat}(h:w.heap[b]? =some (.cells cur t fr)):w.shape? b=some (t,cur.size):=by unfold Xc;rw[h]

theorem LB.step {E E':Env}{w w':World}{g:Nat}{r:LRec}(h:LB E w g r)(hs:Stp E E' w w')(hb:∀b,E.φ g=some b→E'.own b∧w'.heap[b]? =w.heap[b]?):LB E' w' g r:=by
 obtain⟨h1,b,L,h2,h3,h4,h5,h6,h7,h8,h9,h10,h11,h12⟩:=h
 obtain⟨ho,hk⟩:=hb b h2
 refine⟨hs.nm g h1,b,L,(hs.φ g h1).trans h2,ho,Ug h4 hs.size,hk.trans h5,h6,h7,h8,h9,h10,h11,fun t d hd=>?_⟩
 obtain⟨u,hu,hr⟩:=h12 t d hd
 exact⟨u,hu,hr.step hs⟩

def et (E:Env)(s:AS)(φ:Nat→Option Nat)(x:Nat):Prop:=E.own x∨bG s φ x
structure Mut (s s':AS)(E E':Env)(w w':World):Prop where
 own:∀b,E.own b→E'.own b
 heap:∀b,b<w.heap.size→¬bG s E.φ b→w'.heap[b]? =w.heap[b]?
 old:∀x,x<w.heap.size→bG s' E'.φ x→bG s E.φ x
theorem Mut.refl (s:AS)(E:Env)(w:World):Mut s s E E w w:=⟨fun _ h=>h,fun _ _ _=>rfl,fun _ _ h=>h⟩
theorem Mut.trans {s s' s'':AS}{E E' E'':Env}{w w' w'':World}(h:Mut s s' E E' w w')(k:Mut s' s'' E' E'' w' w'')(hz:w.heap.size≤w'.heap.size):Mut s s'' E E'' w w'':=
 ⟨fun b hb=>k.own b (h.own b hb),fun b hb hn=>(k.heap b (Ug hb hz) fun ho=>hn (h.old b hb ho)).trans (h.heap b hb hn),fun x hx ho=>h.old x hx (k.old x (Ug hx hz) ho)⟩

theorem mI.step {B:Nat}{E E':Env}{w w':World}{ds:List Deferred}(h:mI B E w ds)(hown:∀b,E.own b→E'.own b)(hk:∀b,E.own b→w.heap[b]? =some (.deferred (some []))→w'.heap[b]? =w.heap[b]?):mI B E' w' ds:=by
 obtain⟨bs,h1,h2,h3⟩:=h
 refine⟨bs,h1,h2,fun b hb=>?_⟩
 obtain⟨c1,c2,c3⟩:=h3 b hb
 exact⟨c1,hown b c2,(hk b c2 c3).trans c3⟩

theorem SR.turn {cx:Cx}{E:Env}{s s':AS}{a:Act}{w w':World}(h:SR cx E s a w)(φ':Nat→Option Nat)(nm':Nat→Prop)(htm:s'.tm=s.tm)
  (hs:Stp E ⟨φ',et E s' φ',nm'⟩ w w') (hhp:∀k g b,s'.at k=some (g,b)→HB ⟨φ',et E s' φ',nm'⟩ w' g b)
  (hlp:∀k g r,s'.lat k=some (g,r)→LB ⟨φ',et E s' φ',nm'⟩ w' g r)
  (hinj:∀k k' g g' o o',k≠k'→s'.gat k=some (g,o)→s'.gat k'=some (g',o')→∀x,φ' g=some x→φ' g'≠some x)
  (hlow:∀x,bG s' φ' x→cx.M x) (hbel:Fr cx.M w w') (hnm:∀g,nm' g→g<s'.nx∨∃i∈s'.us,s'.nx+8*i≤g∧g<s'.nx+8*i+8)
  (hkeep:∀b,b<w.heap.size→¬bG s E.φ b→w'.heap[b]? =w.heap[b]?):
  SR cx ⟨φ',et E s' φ',nm'⟩ s' a w':=
 {
  fr:=fun t d hd=>by rw[htm]at hd;obtain⟨u,hu,hr⟩:=h.fr t d hd;exact⟨u,hu,hr.step hs⟩
  sz:=h.sz
  df:=h.df.step (fun b hb=>.inl hb) fun b hb hd=>hkeep b (h.lt b hb) (h.unmarked hd)
  hp:=hhp,lp:=hlp,inj:=hinj
  lt:=fun x hx=>by
   rcases hx with hx|⟨k,g,o,hk,hx⟩
   ·exact Ug (h.lt x hx) hs.size
   ·cases o with
    |b b=>
     have:=(hhp k g b (AS.at_iff.2 hk)).2
     have hx':(⟨φ',et E s' φ',nm'⟩:Env).φ g=some x:=hx
     rw[hx']at this;exact this.2.1
    |l r=>
     obtain⟨_,b,L,h1,_,h3,_⟩:=hlp k g r (AS.lat_iff.2 hk)
     have hx':(⟨φ',et E s' φ',nm'⟩:Env).φ g=some x:=hx
     rw[hx']at h1;cases h1;exact h3
  low:=fun x hx=>hlow x hx,base:=fun x hx=>.inl (h.base x hx),bel:=h.bel.trans hbel,nm:=hnm,szB:=T6 h.szB hs.size}

end Go.Vx
namespace Go.Vx
open Go.RowKit Go.Bw

theorem b9 (w:World)(o:Obj):(w.alloc o).heap[w.heap.size]? =some o:=heap_alloc_new w _

def At (φ:Nat→Option Nat)(g:Nat)(x:Option Nat):Nat→Option Nat:=fun n=>if n=g then x else φ n
theorem bZ (φ:Nat→Option Nat)(g:Nat)(x:Option Nat):At φ g x g=x:=if_pos rfl
theorem bi {φ:Nat→Option Nat}{g n:Nat}{x:Option Nat}(h:n≠g):At φ g x n=φ n:=if_neg h
def Env.add (E:Env)(s':AS)(g:Nat)(x:Option Nat):Env:=⟨At E.φ g x,et E s' (At E.φ g x),fun n=>E.nm n∨n=g⟩

def OB (E:Env)(w:World)(g:Nat):Ob→Prop
 | .b b=>HB E w g b
 | .l r=>LB E w g r
theorem OB.nm {E:Env}{w:World}{g:Nat}{o:Ob}(h:OB E w g o):E.nm g:=by cases o<;>exact h.1
theorem SR.ob {cx:Cx}{E:Env}{s:AS}{a:Act}{w:World}(h:SR cx E s a w){k g:Nat}{o:Ob}(hk:s.gat k=some (g,o)):OB E w g o:=by
 cases o with
 |b b=>exact h.hp _ _ _ (AS.at_iff.2 hk)
 |l r=>exact h.lp _ _ _ (AS.lat_iff.2 hk)
theorem OB.step {E E':Env}{w w':World}{g:Nat}{o:Ob}(h:OB E w g o)(hs:Stp E E' w w')(hb:∀b,E.φ g=some b→E'.own b∧w'.heap[b]? =w.heap[b]?):OB E' w' g o:=by
 cases o with
 |b b=>exact HB.step h hs hb
 |l r=>exact LB.step h hs hb
theorem OB.lt {E:Env}{w:World}{g:Nat}{o:Ob}(h:OB E w g o){x:Nat}(hx:E.φ g=some x):x<w.heap.size:=by
 cases o with
 |b b=>have:=h.2;rw[hx]at this;exact this.2.1
 |l r=>obtain⟨_,b,L,h1,_,h3,_⟩:=h;rw[hx]at h1;cases h1;exact h3

theorem SR.newG {cx:Cx}{E:Env}{s:AS}{a:Act}{w:World}(h:SR cx E s a w){g ky i:Nat}(hi:i∉s.us)(hg:s.nx+8*i≤g∧g<s.nx+8*i+8)(o:Ob)(obj:Obj)
  (ho:∀E',Stp E E' w (w.alloc obj)→E'.nm g→E'.φ g=some w.heap.size→E'.own w.heap.size→OB E' (w.alloc obj) g o):
  let s':AS:={s with hp:=s.hp.set ky (some (g,o)),us:=i::s.us}
  let w':=w.alloc obj
  SR cx (E.add s' g (some w.heap.size)) s' a w'∧Stp E (E.add s' g (some w.heap.size)) w w'∧(E.add s' g (some w.heap.size)).nm g∧(E.add s' g (some w.heap.size)).φ g=some w.heap.size∧Mut s s' E (E.add s' g (some w.heap.size)) w w':=by
 intro s' w'
 have hfr:¬E.nm g:=fun hn=>by
  rcases h.nm g hn with h1|⟨j,hj,h1,h2⟩
  ·omega
  ·have:j=i:=by omega
   subst this;exact hi hj
 have hat:∀{k' g' o'},s'.gat k'=some (g',o')→(k'=ky∧g'=g∧o'=o)∨(k'≠ky∧s.gat k'=some (g',o')):=fun hk=>by
  rcases Tr.of_set hk with⟨e,hv⟩|⟨e,hk⟩
  ·cases hv;exact .inl ⟨e,rfl,rfl⟩
  ·exact .inr ⟨e,hk⟩
 have hne:∀{k g' o'},s.gat k=some (g',o')→g'≠g:=fun hk e=>by subst e;exact hfr (h.ob hk).nm
 have hlt:∀{k g' o' x},s.gat k=some (g',o')→E.φ g'=some x→x<w.heap.size:=fun hk hx=>(h.ob hk).lt hx
 have hsz:w'.heap.size=w.heap.size+1:=by simp[w']
 have hs:Stp E (E.add s' g (some w.heap.size)) w w':=by
  refine⟨fun x hx=>.inl hx,fun x hx=>?_,by omega,fun b hb ho=>⟨?_,Vk w _ b hb⟩,fun b hb=>cI (Vk w _ b hb)⟩
  ·exact bi (fun e=>by subst e;exact hfr hx)
  ·rintro(ho'|⟨k,g',o',hk,hx⟩)
   ·exact ho ho'
   ·rcases hat hk with⟨_,rfl,rfl⟩|⟨_,hk⟩
    ·rw[bZ]at hx;cases hx;omega
    ·rw[bi (hne hk)]at hx
     exact ho (h.own_of ⟨k,g',o',hk,hx⟩)
 have hφg:(E.add s' g (some w.heap.size)).φ g=some w.heap.size:=bZ _ _ _
 have hold:∀{k g' o'},s'.gat k=some (g',o')→OB (E.add s' g (some w.heap.size)) w' g' o':=fun{k g' o'} hk=>by
  rcases hat hk with⟨rfl,rfl,rfl⟩|⟨_,hk0⟩
  ·exact ho _ hs (.inr rfl) hφg (.inr ⟨_,_,_,hk,hφg⟩)
  ·refine(h.ob hk0).step hs fun b hb=>⟨.inr ⟨k,g',o',hk,(bi (hne hk0)).trans hb⟩,Vk w _ b (hlt hk0 hb)⟩
 have hmut:Mut s s' E (E.add s' g (some w.heap.size)) w w':=⟨fun b hb=>.inl hb,fun b hb _=>Vk w _ b hb,fun x hlt' ⟨k,g',o',hk,hx⟩=>by
  have hx:At E.φ g (some w.heap.size) g'=some x:=hx
  rcases hat hk with⟨_,e5,_⟩|⟨_,hk⟩
  ·subst e5;rw[bZ]at hx;cases hx;omega
  ·rw[bi (hne hk)]at hx
   exact⟨k,g',o',hk,hx⟩⟩
 refine⟨h.turn _ _ rfl hs (fun k g' b hk=>hold (AS.at_iff.1 hk)) (fun k g' r hk=>hold (AS.lat_iff.1 hk)) ?_ ?_ ?_ ?_ hmut.heap,hs,.inr rfl,hφg,hmut⟩
 ·intro k k' g1 g2 o1 o2 hkk h1 h2 x hx1 hx2
  have key:∀{k g' o'},s.gat k=some (g',o')→At E.φ g (some w.heap.size) g'=some x→E.φ g'=some x∧x<w.heap.size:=fun hk hx=>by
   rw[bi (hne hk)]at hx
   exact⟨hx,hlt hk hx⟩
  rcases hat h1 with⟨e1,e3,e4⟩|⟨_,a1⟩<;>rcases hat h2 with⟨e2,e5,e6⟩|⟨_,a2⟩
  ·omega
  ·subst e3;rw[bZ]at hx1;cases hx1
   have:=(key a2 hx2).2;omega
  ·subst e5;rw[bZ]at hx2;cases hx2
   have:=(key a1 hx1).2;omega
  ·exact h.inj k k' g1 g2 o1 o2 hkk a1 a2 x (key a1 hx1).1 (key a2 hx2).1
 ·rintro x ⟨k,g',o',hk,hx⟩
  have hx:At E.φ g (some w.heap.size) g'=some x:=hx
  rcases hat hk with⟨_,e5,_⟩|⟨_,hk⟩
  ·subst e5;rw[bZ]at hx;cases hx
   exact cx.hM _ h.szB
  ·rw[bi (hne hk)]at hx
   exact h.low x ⟨k,g',o',hk,hx⟩
 ·exact⟨rfl,rfl,rfl,by omega,fun k hk _=>Vk w _ k hk,hs.shape⟩
 ·rintro n (hn|rfl)
  ·rcases h.nm n hn with h1|⟨j,hj,h1⟩
   ·exact .inl h1
   ·exact .inr ⟨j,TU _ hj,h1⟩
  ·exact .inr ⟨i,TP,hg⟩

theorem SR.new {cx:Cx}{E:Env}{s:AS}{a:Act}{w:World}(h:SR cx E s a w){g ky i:Nat}(hi:i∉s.us)(hg:s.nx+8*i≤g∧g<s.nx+8*i+8)(elem:TypeId)(cs:List D)(us:List Value)(row:Bool)(fr:Nat×Nat)(hfz:gS fr us.length)
  (hlen:cs.length≤us.length) (hrow:row=false→us.length=cs.length) (hd:∀(j:Nat) d,cs[j]? =some d→∃u,us[j]? =some u∧u.oneCell'=true∧RD E w d u):
  let s':AS:={s with hp:=s.hp.set ky (some (g,.b ⟨cs,elem,row⟩)),us:=i::s.us}
  let w':=w.alloc (.cells us.toArray elem fr)
  SR cx (E.add s' g (some w.heap.size)) s' a w'∧Stp E (E.add s' g (some w.heap.size)) w w'∧(E.add s' g (some w.heap.size)).nm g∧(E.add s' g (some w.heap.size)).φ g=some w.heap.size∧Mut s s' E (E.add s' g (some w.heap.size)) w w':=by
 refine h.newG hi hg (.b ⟨cs,elem,row⟩) (.cells us.toArray elem fr) fun E' hs hn hp ho=>?_
 refine⟨hn,?_⟩
 rw[hp]
 refine⟨ho,by simp,us.toArray,fr,b9 w _,by simpa using hfz,by simpa using hlen,fun hr=>by simpa using hrow hr,fun j d hj=>?_⟩
 obtain⟨u,hu,h1,hr⟩:=hd j d hj
 exact⟨u,by simpa using hu,h1,hr.step hs⟩

def aj (cells:List D)(off:Nat)(ds:List D):List D:=cells.take off++ds++cells.drop (off+ds.length)

theorem dX {cells:List D}{off:Nat}{ds:List D}(h:off+ds.length≤cells.length):(aj cells off ds).length=cells.length:=by
 simp[aj];omega
theorem ci {cells:List D}{off:Nat}{ds:List D}(h:off+ds.length≤cells.length)(i:Nat):
  (aj cells off ds)[i]? =if off≤i∧i<off+ds.length then ds[i-off]? else cells[i]?:=by
 unfold aj
 by_cases h1:i<off
 ·rw[if_neg (by omega),TG,TQ (by simp;omega),Un,if_pos h1]
 ·by_cases h2:i<off+ds.length
  ·rw[if_pos ⟨by omega,h2⟩,TG,TO (by simp;omega),TQ (by simp;omega)]
   congr 1;simp;omega
  ·rw[if_neg (by omega),TG,TO (by simp;omega),TO (by simp;omega),UM]
   congr 1;simp;omega

theorem SR.storeG {cx:Cx}{E:Env}{s:AS}{a:Act}{w w':World}(h:SR cx E s a w){k g i b:Nat}{o o':Ob}(hk:s.gat k=some (g,o))(hb:E.φ g=some b)(us:List Nat)(hus:s.us ⊆ us)
  (hg:w.grownBy w' (some b)) (hz:w'.heap.size=w.heap.size) (hsh:w'.shape? b=w.shape? b)
  (ho:∀E':Env,Stp E E' w w'→(∀x,E.nm x→E'.nm x)→E'.φ=E.φ→E'.own b→OB E' w' g o'):
  let s':AS:={s with hp:=s.hp.set k (some (g,o')),us:=us}
  SR cx ⟨E.φ,et E s' E.φ,E.nm⟩ s' a w'∧Stp E ⟨E.φ,et E s' E.φ,E.nm⟩ w w'∧Mut s s' E ⟨E.φ,et E s' E.φ,E.nm⟩ w w':=by
 intro s'
 have hat:∀{k' g' o''},s'.gat k'=some (g',o'')→(k'=k∧g'=g∧o''=o')∨(k'≠k∧s.gat k'=some (g',o'')):=fun hk=>by
  rcases Tr.of_set hk with⟨e,hv⟩|⟨e,hk⟩
  ·cases hv;exact .inl ⟨e,rfl,rfl⟩
  ·exact .inr ⟨e,hk⟩
 have hown:E.own b:=h.own_of ⟨k,g,o,hk,hb⟩
 have hs:Stp E ⟨E.φ,et E s' E.φ,E.nm⟩ w w':=by
  refine⟨fun x hx=>hx,fun x hx=>rfl,by omega,fun x hx hno=>⟨?_,hg.block x hx (fun e=>by cases e;exact hno hown)⟩,fun x hx=>?_⟩
  rotate_left
  ·by_cases e:x=b
   ·subst e;exact hsh
   ·exact cI (hg.block x hx (fun e2=>by cases e2;exact e rfl))
  rintro(ho'|⟨k',g',o'',hk',hx'⟩)
  ·exact hno ho'
  ·rcases hat hk' with⟨_,rfl,rfl⟩|⟨_,hk'⟩
   ·exact hno (h.own_of ⟨k,_,o,hk,hx'⟩)
   ·exact hno (h.own_of ⟨k',g',o'',hk',hx'⟩)
 have hmut:Mut s s' E ⟨E.φ,et E s' E.φ,E.nm⟩ w w':=⟨fun b hb=>.inl hb,fun x hx hno=>hg.block x hx (fun e=>by cases e;exact hno ⟨k,g,o,hk,hb⟩),fun x hlt' ⟨k',g',o'',hk',hx⟩=>by
  rcases hat hk' with⟨_,rfl,rfl⟩|⟨_,hk'⟩
  ·exact⟨k,_,o,hk,hx⟩
  ·exact⟨k',g',o'',hk',hx⟩⟩
 have hold:∀{k' g' o''},s'.gat k'=some (g',o'')→OB ⟨E.φ,et E s' E.φ,E.nm⟩ w' g' o'':=fun{k' g' o''} hk'=>by
  rcases hat hk' with⟨rfl,rfl,rfl⟩|⟨e,hk0⟩
  ·exact ho _ hs (fun x hx=>hx) rfl (.inl hown)
  ·refine(h.ob hk0).step hs fun x hx=>⟨.inr ⟨k',g',o'',hk',hx⟩,?_⟩
   exact hg.block x ((h.ob hk0).lt hx) (fun e2=>by cases e2;exact h.inj k k' g g' o o'' (WW e) hk hk0 _ hb hx)
 refine⟨h.turn _ _ rfl hs (fun k g' b hk=>hold (AS.at_iff.1 hk)) (fun k g' r hk=>hold (AS.lat_iff.1 hk)) ?_ ?_ ?_ ?_ hmut.heap,hs,hmut⟩
 ·intro k1 k2 g1 g2 o1 o2 hkk h1 h2 x hx1 hx2
  have key:∀{k0 g0 o0},s'.gat k0=some (g0,o0)→∃o3,s.gat k0=some (g0,o3):=fun{k0 g0 o0} hh=>by
   rcases hat hh with⟨rfl,rfl,rfl⟩|⟨_,hh⟩
   ·exact⟨o,hk⟩
   ·exact⟨_,hh⟩
  obtain⟨o3,h3⟩:=key h1
  obtain⟨o4,h4⟩:=key h2
  exact h.inj k1 k2 g1 g2 o3 o4 hkk h3 h4 x hx1 hx2
 ·rintro x ⟨k',g',o'',hk',hx⟩
  rcases hat hk' with⟨rfl,rfl,rfl⟩|⟨_,hk'⟩
  ·exact h.low x ⟨_,_,o,hk,hx⟩
  ·exact h.low x ⟨k',g',o'',hk',hx⟩
 ·exact Fr.of_grown hg (fun x e=>by cases e;exact h.low b ⟨k,g,o,hk,hb⟩) hs.shape
 ·intro n hn
  rcases h.nm n hn with h1|⟨j,hj,h1⟩
  ·exact .inl h1
  ·exact .inr ⟨j,hus hj,h1⟩

theorem SR.store {cx:Cx}{E:Env}{s:AS}{a:Act}{w w':World}(h:SR cx E s a w){k g i b:Nat}{blk:Blk}(hk:s.at k=some (g,blk))(hb:E.φ g=some b)(cells':List D)(hl:cells'.length=blk.cells.length)
  (hg:w.grownBy w' (some b)) (hz:w'.heap.size=w.heap.size) (cur cur':Array Value) (fr:Nat×Nat) (hcur:w.heap[b]? =some (.cells cur blk.elem fr)) (hcur':w'.heap[b]? =some (.cells cur' blk.elem fr)) (hsz:cur'.size=cur.size)
  (hd:∀(j:Nat) d,cells'[j]? =some d→∃u,cur'[j]? =some u∧u.oneCell'=true∧RD E w d u):
  let s':AS:={s with hp:=s.hp.set k (some (g,.b ⟨cells',blk.elem,blk.row⟩)),us:=i::s.us}
  SR cx ⟨E.φ,et E s' E.φ,E.nm⟩ s' a w'∧Stp E ⟨E.φ,et E s' E.φ,E.nm⟩ w w'∧Mut s s' E ⟨E.φ,et E s' E.φ,E.nm⟩ w w':=by
 have hbk:=h.hp k g blk hk
 have hbm:=hbk.2
 rw[hb]at hbm
 obtain⟨hown,hlt,cur0,fr0,hcur0,hfz,hle,hrow,_⟩:=hbm
 rw[hcur]at hcur0;cases hcur0
 refine h.storeG (i:=i) (o':= .b ⟨cells',blk.elem,blk.row⟩) (AS.at_iff.1 hk) hb (i::s.us) (fun x hx=>TU _ hx) hg hz (by rw[aN hcur,aN hcur',hsz]) fun E' hs hn hp ho=>?_
 refine⟨hn _ hbk.1,?_⟩
 rw[hp,hb]
 refine⟨ho,by omega,cur',fr,hcur',by rw[hsz];exact hfz,by simp only;omega,fun hr=>by simp only;rw[hsz,hrow hr,hl],fun j d hj=>?_⟩
 obtain⟨u,hu,h1,hr⟩:=hd j d hj
 exact⟨u,hu,h1,hr.step hs⟩

end Go.Vx
namespace Go.Vx
open Go.RowKit Go.Bw

structure TI where
 desc:TypeDesc
 zero:Value
 size:Nat
 bytes:Nat
 plain:Bool
abbrev TT:=Tr TI
def TT.ok (P:Program)(T:TT):Prop:=∀t i,T.get t=some i→P.underlying t=some i.desc∧i.zero.cells.size=i.size∧(∃j,P.info? t=some j∧j.zero=some i.zero∧j.size=i.size∧j.bytes=i.bytes)∧(i.plain=true→P.stoodInHeld t=false∧P.eqGuardType P.depth t=false∧∀fs,i.desc= .struct fs→fs.toList.all (fun f=>f.name != "_")=true)

abbrev Up:=List (Nat×Option (Nat×Ob))
def gm:Up→Tr (Nat×Ob)→Tr (Nat×Ob)
 |[],h=>h
 |p::r,h=>(gm r h).set p.1 p.2

def dB (b:UInt8):D:=.v (.int .u8 (b.toNat:Int))
inductive Ev
 |ok (v:Option D) (up:Up)
 |cond (b:Bool) (k:Ev)
 |opt (o:Option D) (k:D→Ev)
 |bytes (cells:List D) (k:List UInt8→Ev)
 |list (cells:List D) (k:List D→Ev)
 |stuck

def Ev.run:Ev→Option D→Up→Prop
 | .ok v u,v',u'=>v'=v∧u'=u
 | .cond b k,v',u'=>b=true∧k.run v' u'
 | .opt o k,v',u'=>∃d,o=some d∧(k d).run v' u'
 | .bytes cs k,v',u'=>∃bs,cs=bs.map dB∧(k bs).run v' u'
 | .list cs k,v',u'=>(k cs).run v' u'
 | .stuck,_,_=>False

def ce (P:Program)(cx:Cx)(E:Env)(s:AS)(a:Act)(w:World)(i:Nat)(o:Oper)(v:Option D)(up:Up):Prop:=
 ∃E' w',Stp E E' w w'∧SR cx E' {s with hp:=gm up s.hp,us:=i::s.us} a w'∧Mut s {s with hp:=gm up s.hp,us:=i::s.us} E E' w w'∧
  match v with
  |some d=>∃u,(execOp a.eval o).run P w= .ok (.value u) w'∧RD E' w' d u
  |none=>(execOp a.eval o).run P w= .ok .skip w'

theorem SR.us {cx:Cx}{E:Env}{s:AS}{a:Act}{w:World}(h:SR cx E s a w)(i:Nat):SR cx E {s with us:=i::s.us} a w:=
 {h with nm:=fun g hg=>(h.nm g hg).imp id fun⟨j,hj,h1⟩=>⟨j,TU _ hj,h1⟩}

section
variable {P:Program} {cx:Cx} {E:Env} {s:AS} {a:Act} {w:World} {i:Nat} {o:Oper} {T:TT}

theorem ce.pure (h:SR cx E s a w){d:D}{u:Value}(hr:(execOp a.eval o).run P w= .ok (.value u) w)(hd:RD E w d u):ce P cx E s a w i o (some d) []:=
 ⟨E,w,Stp.refl E w,h.us i,⟨fun _ h=>h,fun _ _ _=>rfl,fun _ _ h=>h⟩,u,hr,hd⟩

def Vw (E:Env)(w:World)(b o:Nat)(cells:List D):Prop:=∀(j:Nat) d,cells[j]? =some d→∃u,w.cell? ⟨b,o+j,none⟩=some u∧u.oneCell'=true∧RD E w d u

def lT (s:AS):D→Option (Bool×List D×Nat)
 | .ptr k g off=>match s.at k with
  |some p=>some (Tx g p.1,p.2.cells,off)
  |none=>none
 | .ep cells off=>some (true,cells,off)
 |_=>none

theorem SR.block (h:SR cx E s a w){k g:Nat}{blk:Blk}(hk:s.at k=some (g,blk)){b:Nat}(hb:E.φ g=some b):
  b<w.heap.size∧E.own b∧∃(cur:Array Value) (fr:Nat×Nat),w.heap[b]? =some (.cells cur blk.elem fr)∧gS fr cur.size∧blk.cells.length≤cur.size∧(blk.row=false→cur.size=blk.cells.length)∧
   (∀(j:Nat) d,blk.cells[j]? =some d→∃u,cur[j]? =some u∧u.oneCell'=true∧RD E w d u):=by
 have:=(h.hp k g blk hk).2
 rw[hb]at this
 exact⟨this.2.1,this.1,this.2.2⟩

theorem nT (h:SR cx E s a w){d:D}{u:Value}(hd:RD E w d u){c:Bool}{cells:List D}{off:Nat}(hv:lT s d=some (c,cells,off))(hc:c=true):
  ∃b o,u= .pointer (some ⟨b,o+off,none⟩)∧Vw E w b o cells:=by
 cases d<;>simp only[lT]at hv<;>try cases hv
 case ptr k g off'=>
  cases hk:s.at k with
  |none=>rw[hk]at hv;cases hv
  |some p=>
   rw[hk]at hv
   obtain⟨g',blk⟩:=p
   cases hv
   have e:g=g':=TB hc
   subst e
   cases hd with
   |ptr _ _ _ b hg hb=>
    obtain⟨hlt,_,cur,fr,hcur,_,hl,_,hcell⟩:=h.block hk hb
    refine⟨b,0,by rw[T0],fun j d hj=>?_⟩
    obtain⟨u,hu,h1,hr⟩:=hcell j d hj
    exact⟨u,by rw[T0,cell_of_row w b j cur blk.elem fr hcur];exact hu,h1,hr⟩
 case ep=>
  cases hd with
  |ep _ _ b o us hlen hd h1 hb ho hr=>
   refine⟨b,o,rfl,fun j d hj=>?_⟩
   have hlt:j<us.length:=by
    rw[hlen];exact(List.getElem?_eq_some_iff.1 hj).1
   exact⟨us[j],hr j _ (Ts hlt),h1 _ (Uo hlt),(hd j d _ hj (Ts hlt)).ofCl⟩

theorem Vw.seg {b o:Nat}{cells:List D}(h:Vw E w b o cells){off m:Nat}(hm:off+m≤cells.length):
  ∃us:List Value,us.length=m∧w.rangeAt b (o+off) us∧(∀u∈us,u.oneCell'=true)∧∀(j:Nat) d u,((cells.drop off).take m)[j]? =some d→us[j]? =some u→RD E w d u:=by
 have key:∀j,j<m→∃u,w.cell? ⟨b,o+off+j,none⟩=some u∧u.oneCell'=true∧RD E w (cells.getD (off+j) mb) u:=fun j hj=>by
  have hlt:off+j<cells.length:=by omega
  obtain⟨u,hu,h1,hr⟩:=h (off+j) cells[off+j] (Ts hlt)
  exact⟨u,by rw[UF];exact hu,h1,by rw[To,Ts hlt];exact hr⟩
 have hget:∀j,j<m→((Uv m).map fun j=>(w.cell? ⟨b,o+off+j,none⟩).getD undef)[j]? =some ((w.cell? ⟨b,o+off+j,none⟩).getD undef):=fun j hj=>by
  rw[TN,UO hj];rfl
 refine⟨(Uv m).map fun j=>(w.cell? ⟨b,o+off+j,none⟩).getD undef,by simp,fun j v hv=>?_,fun u hu=>?_,fun j d u hd hu=>?_⟩
 ·have hj:j<m:=by have:=(List.getElem?_eq_some_iff.1 hv).1;simpa using this
  rw[hget j hj]at hv
  obtain⟨u,hu,_⟩:=key j hj
  rw[hu]at hv;cases hv;exact hu
 ·simp only[WI,XQ]at hu
  obtain⟨j,hj,rfl⟩:=hu
  obtain⟨u,hu,h1,_⟩:=key j hj
  rw[hu];exact h1
 ·have hj:j<m:=by
   have:=(List.getElem?_eq_some_iff.1 hu).1;simpa using this
  rw[hget j hj]at hu
  obtain⟨u',hu',_,hr⟩:=key j hj
  rw[hu']at hu;cases hu
  rw[Un,if_pos hj,UM]at hd
  rw[To,hd]at hr
  exact hr

theorem TT.info (hT:T.ok P){t:TypeId}{ti:TI}(ht:T.get t=some ti):P.underlying t=some ti.desc∧(P.info? t).map (·.size)=some ti.size:=by
 obtain⟨h1,_,⟨j,h2,h3,h4,h5⟩,_⟩:=hT t ti ht
 exact⟨h1,by rw[h2];simp[h4]⟩
theorem TT.sizeOf (hT:T.ok P){t:TypeId}{ti:TI}(ht:T.get t=some ti)(w:World):(sizeOf t).run P w= .ok ti.size w:=by
 obtain⟨h1,_,⟨j,h2,h3,h4,h5⟩,_⟩:=hT t ti ht
 simp[Go.sizeOf,typeInfo,h2,h4]
theorem TT.zeroValue (hT:T.ok P){t:TypeId}{ti:TI}(ht:T.get t=some ti)(w:World):(zeroValue t).run P w= .ok ti.zero w:=by
 obtain⟨h1,_,⟨j,h2,h3,h4,h5⟩,_⟩:=hT t ti ht
 simp[Go.zeroValue,typeInfo,h2,h3]
theorem TT.underlying (hT:T.ok P){t:TypeId}{ti:TI}(ht:T.get t=some ti)(w:World):(Wy t).run P w= .ok ti.desc w:=run_underlying (hT t ti ht).1 w
theorem gT (hT:T.ok P){t:TypeId}{ti:TI}(ht:T.get t=some ti)(w:World):(isAgg t).run P w= .ok ti.desc.isRow w:=by
 unfold isAgg
 rw[TS,TT.underlying hT ht w]
 cases ti.desc<;>rfl

def ng (ti:TI)(cells:List D)(off:Nat):Ev:=
 bif ti.desc.isRow then .cond (Tz (off+ti.size) cells.length) (.list ((cells.drop off).take ti.size) fun cs=>.ok (some (.agg cs)) [])
 else .opt cells[off]? fun d=>.ok (some d) []
def ie (T:TT)(s:AS)(t:TypeId)(x:Operand):Ev:=
 match T.get t,ft s x with
 |some ti,some d=>match lT s d with
  |some p=>.cond p.1 (ng ti p.2.1 p.2.2)
  |none=>.stuck
 |_,_=>.stuck

theorem nU (hT:T.ok P)(h:SR cx E s a w){t:TypeId}{x:Operand}(ho:o.op= .load t x){v:Option D}{up:Up}(he:(ie T s t x).run v up):ce P cx E s a w i o v up:=by
 unfold ie at he
 split at he
 case h_2=>exact he.elim
 case h_1 ti d hti hx=>
 split at he
 case h_2=>exact he.elim
 case h_1 p hp=>
 obtain⟨c,cells,off⟩:=p
 obtain⟨hc,he⟩:=he
 obtain⟨b,ob,hu,hv⟩:=nT h (h.eval hx) hp hc
 have hrun:(execOp a.eval o).run P w=((loadVar t ⟨b,ob+off,none⟩).run P w).andThen fun u w'=> .ok (.value u) w':=by
  unfold execOp
  simp only[ho,hu,Instr.loadAt,WJ,TS,TV,TE]
 unfold ng at he
 cases hrow:ti.desc.isRow with
 |true=>
  simp only[hrow,cond_true]at he
  obtain⟨hle,rfl,rfl⟩:=he
  obtain⟨us,hl,hrg,h1,hd⟩:=hv.seg (TC hle)
  refine .pure h (u:=.agg us.toArray) ?_ (.agg _ _ (by have:=TC hle;simp[hl];omega) hd h1)
  rw[hrun,run_loadVar_mid w b _ t us ti.desc hrg (TT.info hT hti).1 hrow (by rw[(TT.info hT hti).2,hl])]
  rfl
 |false=>
  simp only[hrow,cond_false]at he
  obtain⟨d',hd',rfl,rfl⟩:=he
  obtain⟨u,hu,h1,hr⟩:=hv off d' hd'
  refine .pure h (u:=u) ?_ hr
  rw[hrun]
  have:(loadVar t ⟨b,ob+off,none⟩).run P w= .ok u w:=by
   simp only[loadVar,TS,gT hT hti w,TE,hrow,Vh,if_false]
   simp[Go.load,WX,hu]
  rw[this];rfl

def D.cells:D→List D
 | .agg cs=>cs
 |d=>[d]
def D.isTup:D→Bool
 | .tup _=>true
 |_=>false

theorem RD.cellsOf {d:D}{u:Value}(h:RD E w d u)(ht:d.isTup=false):
  u.cells.toList.length=d.cells.length∧(∀v∈u.cells.toList,v.oneCell'=true)∧∀(j:Nat) e,d.cells[j]? =some e→∃v,u.cells.toList[j]? =some v∧v.oneCell'=true∧RD E w e v:=by
 have one:∀{d:D} {u:Value},RD E w d u→u.oneCell'=true→d.cells=[d]→u.cells= #[u]→
   u.cells.toList.length=d.cells.length∧(∀v∈u.cells.toList,v.oneCell'=true)∧∀(j:Nat) e,d.cells[j]? =some e→∃v,u.cells.toList[j]? =some v∧v.oneCell'=true∧RD E w e v:=by
  intro d u h h1 hd hu
  rw[hd,hu]
  refine⟨rfl,fun v hv=>by simp at hv;subst hv;exact h1,fun j e he=>?_⟩
  cases j with
  |zero=>simp at he;subst he;exact⟨u,rfl,h1,h⟩
  |succ j=>simp at he
 have h0:=h
 cases h with
 |v c hc=>exact one h0 hc rfl (by cases u<;>first|rfl|cases hc)
 |agg cs us hlen hd h1=>
  refine⟨by simp[Xp,D.cells,hlen],by simpa[Xp]using h1,fun j e he=>?_⟩
  have hlt:j<us.length:=by rw[hlen];exact(List.getElem?_eq_some_iff.1 he).1
  exact⟨us[j],by simp[Xp,hlt],h1 _ (Uo hlt),hd j e _ he (Ts hlt)⟩
 |tup=>cases ht
 |_=>exact one h0 rfl rfl rfl

def wW (s:AS)(nm ky:Nat)(t:TypeId)(x:Operand):Ev:=
 match ft s x with
 |some d=>.cond (!d.isTup) (.ok (some (.ptr ky nm 0)) [(ky,some (nm,.b ⟨d.cells,t,false⟩))])
 |none=>.stuck

theorem ce.block (h:SR cx E s a w){g ky:Nat}(hi:i∉s.us)(hg:s.nx+8*i≤g∧g<s.nx+8*i+8)(elem:TypeId)(cs:List D)(us:List Value)(row:Bool)(fr:Nat×Nat)(hfz:gS fr us.length)
  (hlen:cs.length≤us.length) (hrow:row=false→us.length=cs.length) (hd:∀(j:Nat) d,cs[j]? =some d→∃u,us[j]? =some u∧u.oneCell'=true∧RD E w d u) (d:D) (u:Value)
  (hr:(execOp a.eval o).run P w= .ok (.value u) (w.alloc (.cells us.toArray elem fr))) (hu:∀E',E'.nm g→E'.φ g=some w.heap.size→RD E' (w.alloc (.cells us.toArray elem fr)) d u):
  ce P cx E s a w i o (some d) [(ky,some (g,.b ⟨cs,elem,row⟩))]:=by
 obtain⟨h1,h2,h3,h4,h5⟩:=h.new (ky:=ky) hi hg elem cs us row fr hfz hlen hrow hd
 exact⟨_,_,h2,h1,h5,u,hr,hu _ h3 h4⟩

theorem za (h:SR cx E s a w)(hi:i∉s.us){nm ky:Nat}(hg:s.nx+8*i≤nm∧nm<s.nx+8*i+8){t:TypeId}{x:Operand}(ho:o.op= .box t x){v:Option D}{up:Up}(he:(wW s nm ky t x).run v up):
  ce P cx E s a w i o v up:=by
 unfold wW at he
 split at he
 case h_2=>exact he.elim
 case h_1 d hx=>
 obtain⟨hc,rfl,rfl⟩:=he
 have hr:=h.eval hx
 obtain⟨hl,h1,hd⟩:=hr.cellsOf (by simpa using hc)
 refine ce.block h hi hg t d.cells (a.eval x).cells.toList false (0,0) (gS.zero _) (by omega) (fun _=>hl) hd _ (.pointer (some ⟨w.heap.size,0,none⟩)) ?_ (fun E' hn hp=>.ptr _ _ _ _ hn hp)
 unfold execOp
 simp only[ho,Instr.box,newVar,newRow,newObj,TS,TV,TE,WX,U0]
 rfl

def nh (T:TT)(nm ky:Nat)(t:TypeId):Ev:=
 match T.get t with
 |some ti=>.cond (fq ti.zero&& !(bT ti.zero).isTup) (.ok (some (.ptr ky nm 0)) [(ky,some (nm,.b ⟨(bT ti.zero).cells,t,false⟩))])
 |none=>.stuck
theorem tg (hT:T.ok P)(h:SR cx E s a w)(hi:i∉s.us){nm ky:Nat}(hg:s.nx+8*i≤nm∧nm<s.nx+8*i+8){t:TypeId}(ho:o.op= .alloc t){v:Option D}{up:Up}(he:(nh T nm ky t).run v up):
  ce P cx E s a w i o v up:=by
 unfold nh at he
 split at he
 case h_2=>exact he.elim
 case h_1 ti hti=>
 obtain⟨hc,rfl,rfl⟩:=he
 rw[Tw]at hc
 have hr:=RD.const E w ti.zero hc.1
 obtain⟨hl,h1,hd⟩:=hr.cellsOf (by simpa using hc.2)
 refine ce.block h hi hg t _ ti.zero.cells.toList false (0,0) (gS.zero _) (by omega) (fun _=>hl) hd _ (.pointer (some ⟨w.heap.size,0,none⟩)) ?_ (fun E' hn hp=>.ptr _ _ _ _ hn hp)
 unfold execOp
 simp only[ho,Instr.alloc,newVar,newRow,newObj,TS,TV,TE,WX,TT.zeroValue hT hti w,U0]
 rfl

def ni (T:TT)(s:AS)(t:TypeId)(x y:Operand):Ev:=
 match T.get t,ft s x,ft s y with
 |some ti,some (.ptr k g off),some d=>match s.at k with
  |some p=>.cond (Tx g p.1&& !d.isTup&&Tx d.cells.length ti.size&&Tz (off+ti.size) p.2.cells.length)
    (.list (aj p.2.cells off d.cells) fun cs=>.ok none [(k,some (g,.b ⟨cs,p.2.elem,p.2.row⟩))])
  |none=>.stuck
 |_,_,_=>.stuck

theorem m0 (w:World)(b o:Nat)(cur:Array Value)(t:TypeId)(fr:Nat×Nat)(v:Value)(hb:w.heap[b]? =some (.cells cur t fr)):(w.setCell ⟨b,o,none⟩ v).heap[b]? =some (.cells (cur.setIfInBounds o v) t fr):=by
 have hlt:=(Array.getElem?_eq_some_iff.1 hb).1
 simp only[World.setCell,WN,if_true,hb,WA]
 rfl
theorem mJ (b:Nat)(t:TypeId)(fr:Nat×Nat):∀(vs:List Value) (o:Nat) (w:World) (cur:Array Value),w.heap[b]? =some (.cells cur t fr)→(w.setCells b o vs).heap[b]? =some (.cells (ey cur o vs) t fr)
 |[],_,_,_,h=>h
 |v::r,o,w,cur,h=>mJ b t fr r (o+1) _ _ (m0 w b o cur t fr v h)
theorem jF (w:World)(b j:Nat)(cur:Array Value)(t:TypeId)(fr:Nat×Nat)(hb:w.heap[b]? =some (.cells cur t fr))(hf:gS fr cur.size)(hj:j<cur.size):w.frozen? ⟨b,j,none⟩=false:=by
 have:=hf.no hj
 obtain⟨lo,hi⟩:=fr
 simp only[World.frozen?,hb];exact this
theorem fO (w:World)(b o:Nat)(cur:Array Value)(t:TypeId)(fr:Nat×Nat)(vs:List Value)(hb:w.heap[b]? =some (.cells cur t fr))(hl:o+vs.length≤cur.size):
  ∃cur',(w.setCells b o vs).heap[b]? =some (.cells cur' t fr)∧cur'.size=cur.size∧∀j:Nat,cur'[j]? =if o≤j∧j<o+vs.length then vs[j-o]? else cur[j]?:=by
 refine⟨ey cur o vs,mJ b t fr vs o w cur hb,ic vs o cur,?_⟩
 clear hb
 induction vs generalizing o cur with
 |nil=>intro j;rw[if_neg (by simp only[Vj];omega)];rfl
 |cons v r ih=>
  intro j
  simp only[ey,T3]at hl ⊢
  rw[ih (o+1) _ (by simp;omega) j]
  by_cases h1:j=o
  ·subst h1
   rw[if_neg (by omega),if_pos ⟨by omega,by omega⟩]
   simp only[UJ,V9]
   rw[Wo (by omega)]
  ·by_cases h2:o+1≤j∧j<o+1+r.length
   ·rw[if_pos h2,if_pos ⟨by omega,by omega⟩]
    have:j-o=(j-(o+1))+1:=by omega
    rw[this,Vg]
   ·rw[if_neg h2,if_neg (by omega),U7 (fun e=>h1 e.symm)]

theorem th (hT:T.ok P)(h:SR cx E s a w){t:TypeId}{x y:Operand}(ho:o.op= .store t x y){v:Option D}{up:Up}(he:(ni T s t x y).run v up):ce P cx E s a w i o v up:=by
 unfold ni at he
 split at he
 case h_2=>exact he.elim
 case h_1 ti k g off d hti hx hy=>
 split at he
 case h_2=>exact he.elim
 case h_1 p hp=>
 obtain⟨g',blk⟩:=p
 obtain⟨hc,rfl,rfl⟩:=he
 simp only[Tw,VC]at hc
 obtain⟨⟨⟨hgg,htup⟩,hlen⟩,hle⟩:=hc
 have e:g=g':=TB hgg
 subst e
 have hlen:=TB hlen
 have hle:=TC hle
 have hrx:=h.eval hx
 have hry:=h.eval hy
 obtain⟨hcl,hone,hcd⟩:=hry.cellsOf htup
 generalize hux:a.eval x=ux at hrx
 generalize huy:a.eval y=uy at hry hcl hone hcd
 cases hrx with
 |ptr _ _ _ b hg hb=>
 obtain⟨hlt,hown,cur,fr,hcur,hfz,hcl2,hrow,hcell⟩:=h.block hp hb
 have hszv:uy.cells.size=ti.size:=by rw[←hlen,←hcl];simp
 obtain⟨cur',hcur',hsz',hget'⟩:=fO w b off cur blk.elem fr uy.cells.toList hcur (by simp;omega)
 obtain⟨hgr,hz⟩:=dm b uy.cells.toList off w
 have hst:=h.store (i:=i) hp hb (aj blk.cells off d.cells) (dX (by omega)) hgr hz cur cur' fr hcur hcur' hsz' (fun j e hj=>by
  rw[ci (by omega)]at hj
  split at hj
  ·rename_i hr
   obtain⟨u,hu,h1,hru⟩:=hcd _ _ hj
   exact⟨u,by rw[hget',if_pos ⟨hr.1,by simpa[hcl]using hr.2⟩];exact hu,h1,hru⟩
  ·rename_i hr
   obtain⟨u,hu,h1,hru⟩:=hcell _ _ hj
   exact⟨u,by rw[hget',if_neg (fun hh=>hr ⟨hh.1,by simpa[hcl]using hh.2⟩)];exact hu,h1,hru⟩)
 refine⟨_,_,hst.2.1,hst.1,hst.2.2,?_⟩
 have hrun:=run_storeCells_cells (P:=P) b off uy.cells.toList 0 w (fun j hj=>by
   simp only[VD]
   rw[cell_of_row w b _ cur blk.elem fr hcur,Va (by simp at hj;omega)];rfl) (fun j hj=>by
   simp only[VD];exact jF w b _ cur blk.elem fr hcur hfz (by simp at hj;omega)) hone
 simp only[VD]at hrun
 show(execOp a.eval o).run P w= .ok .skip (w.setCells b off uy.cells.toList)
 unfold execOp
 simp only[ho,hux,huy,Instr.storeAt,WJ,storeVar,TS,TV,TE,TT.sizeOf hT hti w,hszv,ne_eq,not_true_eq_false,if_false,V0,hrun]

end
end Go.Vx
namespace Go.Vx
open Go.RowKit Go.Bw
section
variable {P:Program} {cx:Cx} {E:Env} {s:AS} {a:Act} {w:World} {i:Nat} {o:Oper} {T:TT}

def ig (s:AS)(x:Operand):Ev:=
 match ft s x with
 |some d=>.ok (some d) []
 |none=>.stuck
theorem nV (h:SR cx E s a w){x:Operand}(ho:o.op= .move x∨o.op= .assign x){v:Option D}{up:Up}(he:(ig s x).run v up):ce P cx E s a w i o v up:=by
 unfold ig at he
 split at he
 case h_2=>exact he.elim
 case h_1 d hx=>
 obtain⟨rfl,rfl⟩:=he
 refine .pure h ?_ (h.eval hx)
 unfold execOp
 rcases ho with ho|ho<;>simp only[ho,TV]

def qY (s:AS)(x:Operand):Ev:=
 match ft s x with
 |some (.ptr k g off)=>.ok (some (.ptr k g off)) []
 |some (.ep cells off)=>.ok (some (.ep cells off)) []
 |_=>.stuck
theorem vz (h:SR cx E s a w){x:Operand}(ho:o.op= .nilCheck x){v:Option D}{up:Up}(he:(qY s x).run v up):ce P cx E s a w i o v up:=by
 unfold qY at he
 split at he
 case h_3=>exact he.elim
 all_goals
  rename_i hx
  obtain⟨rfl,rfl⟩:=he
  have hr:=h.eval hx
  refine .pure h ?_ (h.eval hx)
  generalize huc:a.eval x=uc at hr
  cases hr
  unfold execOp
  simp only[ho,huc,TV]

def qZ (s:AS)(c x y:Operand):Ev:=
 match ft s c with
 |some (.v (.bool true))=>ig s x
 |some (.v (.bool false))=>ig s y
 |_=>.stuck
theorem vA (h:SR cx E s a w){c x y:Operand}(ho:o.op= .pick c x y){v:Option D}{up:Up}(he:(qZ s c x y).run v up):ce P cx E s a w i o v up:=by
 have key:∀(b:Bool) (z:Operand),ft s c=some (.v (.bool b))→(if b then x else y)=z→(ig s z).run v up→ce P cx E s a w i o v up:=by
  intro b z hc hz he
  unfold ig at he
  split at he
  case h_2=>exact he.elim
  case h_1 d hx=>
  obtain⟨rfl,rfl⟩:=he
  have hr:=h.eval hc
  generalize huc:a.eval c=uc at hr
  cases hr
  refine .pure h ?_ (h.eval hx)
  unfold execOp
  simp only[ho,huc,asBool,TS,TV,TE]
  rw[←hz];cases b<;>rfl
 unfold qZ at he
 split at he
 case h_3=>exact he.elim
 case h_1 hc=>exact key true x hc rfl he
 case h_2 hc=>exact key false y hc rfl he

def jG (s:AS)(x:Operand)(n:Nat):Ev:=
 match ft s x with
 |some (.tup ds)=>.opt ds[n]? fun d=>.ok (some d) []
 |_=>.stuck
theorem pz (h:SR cx E s a w){x:Operand}{n:Nat}(ho:o.op= .extract x n){v:Option D}{up:Up}(he:(jG s x n).run v up):ce P cx E s a w i o v up:=by
 unfold jG at he
 split at he
 case h_2=>exact he.elim
 case h_1 ds hx=>
 obtain⟨d,hd,rfl,rfl⟩:=he
 have hr:=h.eval hx
 generalize huc:a.eval x=uc at hr
 cases hr with
 |tup _ us hlen hds=>
 have hlt:n<us.length:=by rw[hlen];exact(List.getElem?_eq_some_iff.1 hd).1
 refine .pure h (u:=us[n]) ?_ (hds n d _ hd (Ts hlt))
 unfold execOp
 simp only[ho,huc,Instr.extract,XM,Ts hlt,TS,TV,TE]

def nj:TypeDesc→Bool
 | .interface _=>true
 |_=>false
def nk (T:TT)(s:AS)(t:TypeId)(x:Operand):Ev:=
 match T.get t,ft s x with
 |some ti,some d=>.cond (!nj ti.desc) (.ok (some (.ifc t d)) [])
 |_,_=>.stuck
theorem tj (hT:T.ok P)(h:SR cx E s a w){t:TypeId}{x:Operand}(ho:o.op= .makeInterface t x){v:Option D}{up:Up}(he:(nk T s t x).run v up):ce P cx E s a w i o v up:=by
 unfold nk at he
 split at he
 case h_2=>exact he.elim
 case h_1 ti d hti hx=>
 obtain⟨hc,rfl,rfl⟩:=he
 refine .pure h (u:=.iface t (a.eval x)) ?_ (.ifc _ _ _ (h.eval hx))
 unfold execOp
 simp only[ho,Instr.makeInterface,TS,TT.underlying hT hti w,TE]
 cases hd:ti.desc<;>simp[hd,nj]at hc ⊢

def vB:D→Nat→Option D
 | .ptr k g off,n=>some (.ptr k g (off+n))
 | .ep cells off,n=>some (.ep cells (off+n))
 |_,_=>none
theorem mK {d d':D}{n:Nat}{u:Value}(h:RD E w d u)(hd:vB d n=some d'):∃b off,u= .pointer (some ⟨b,off,none⟩)∧RD E w d' (.pointer (some ⟨b,off+n,none⟩)):=by
 cases h with
 |ptr k g off b hg hb=>cases hd;exact⟨b,off,rfl,.ptr _ _ _ _ hg hb⟩
 |ep cells off b o us hlen hd' h1 hb ho hr=>cases hd;exact⟨b,o+off,rfl,by rw[UF];exact .ep cells (off+n) b o us hlen hd' h1 hb ho hr⟩
 |_=>cases hd

def gn (T:TT)(s:AS)(t:TypeId)(x:Operand)(f:Nat):Ev:=
 match T.get t with
 |some ⟨.struct fs,_,_,_,_⟩=>match fs.toList[f]?,ft s x with
  |some fd,some d=>match T.get fd.type with
   |some fi=>.cond (!Tx fi.size 0) (.opt (vB d fd.offset) fun d'=> .ok (some d') [])
   |none=>.stuck
  |_,_=>.stuck
 |_=>.stuck
theorem m4 (hT:T.ok P)(h:SR cx E s a w){t:TypeId}{x:Operand}{f:Nat}(ho:o.op= .fieldAddr t x f){v:Option D}{up:Up}(he:(gn T s t x f).run v up):ce P cx E s a w i o v up:=by
 unfold gn at he
 split at he
 case h_2=>exact he.elim
 case h_1 fs z1 z2 z3 z4 hti=>
 split at he
 case h_2=>exact he.elim
 case h_1 fd d hf hx=>
 split at he
 case h_2=>exact he.elim
 case h_1 fi hfi=>
 obtain⟨hz,d',hd',rfl,rfl⟩:=he
 obtain⟨b,off,hu,hr⟩:=mK (h.eval hx) hd'
 refine .pure h ?_ hr
 have hf':fs[f]? =some fd:=by simpa using hf
 have hz':fi.size≠0:=fun e=>by rw[e]at hz;cases hz
 unfold execOp
 simp only[ho,hu,Instr.fieldAt,TS,TT.underlying hT hti w,TE,hf',WJ,TV,fieldPlace,TT.sizeOf hT hfi w,hz',if_false,U8,V0]

def DH (ti:TI)(cs:List D)(off:Nat):Ev:=
 bif ti.desc.isRow then .cond (Tz (off+ti.size) cs.length) (.list ((cs.drop off).take ti.size) fun cs=>.ok (some (.agg cs)) [])else .opt cs[off]? fun d=>.ok (some d) []
theorem pK (hT:T.ok P)(h:SR cx E s a w){t:TypeId}{ti:TI}(hti:T.get t=some ti){cs:List D}{us:List Value}(hr:RD E w (.agg cs) (.agg us.toArray)){off:Nat}
  (hrun:(execOp a.eval o).run P w=((part t us.toArray off).run P w).andThen fun u w'=> .ok (.value u) w') {v:Option D} {up:Up} (he:(DH ti cs off).run v up):ce P cx E s a w i o v up:=by
 generalize hu:(Y4 us.toArray)=u at hr
 cases hr with
 |agg _ us' hlen hd h1=>
 have hus:us=us':=by have:=Value.agg.inj hu;simpa using this
 subst hus
 unfold DH at he
 cases hrow:ti.desc.isRow with
 |true=>
  simp only[hrow,cond_true]at he
  obtain⟨hle,rfl,rfl⟩:=he
  have hle:=TC hle
  refine .pure h (u:=.agg ((us.drop off).take ti.size).toArray) ?_ (.agg _ _ (by simp;omega) (fun j d u hj hk=>?_) (fun u hu=>h1 u (Wp (U1 hu))))
  ·rw[hrun]
   simp only[part,TS,gT hT hti w,TE,hrow,if_true,TT.sizeOf hT hti w,TV]
   simp[List.extract_eq_take_drop]
  ·rw[Un]at hj hk
   split at hj
   ·rename_i hlt
    rw[if_pos hlt,UM]at hk
    rw[UM]at hj
    exact hd _ _ _ hj hk
   ·cases hj
 |false=>
  simp only[hrow,cond_false]at he
  obtain⟨d',hd',rfl,rfl⟩:=he
  have hlt:off<us.length:=by rw[hlen];exact(List.getElem?_eq_some_iff.1 hd').1
  refine .pure h (u:=us[off]) ?_ (hd _ _ _ hd' (Ts hlt))
  rw[hrun]
  simp only[part,TS,gT hT hti w,TE,hrow,Vh,if_false,XM,Ts hlt,TV]

def nl (T:TT)(s:AS)(t:TypeId)(x:Operand)(f:Nat):Ev:=
 match T.get t with
 |some ⟨.struct fs,_,_,_,_⟩=>match fs.toList[f]?,ft s x with
  |some fd,some (.agg cs)=>match T.get fd.type with
   |some fi=>DH fi cs fd.offset
   |none=>.stuck
  |_,_=>.stuck
 |_=>.stuck
theorem tn (hT:T.ok P)(h:SR cx E s a w){t:TypeId}{x:Operand}{f:Nat}(ho:o.op= .field t x f){v:Option D}{up:Up}(he:(nl T s t x f).run v up):ce P cx E s a w i o v up:=by
 unfold nl at he
 split at he
 case h_2=>exact he.elim
 case h_1 fs z1 z2 z3 z4 hti=>
 split at he
 case h_2=>exact he.elim
 case h_1 fd cs hf hx=>
 split at he
 case h_2=>exact he.elim
 case h_1 fi hfi=>
 have hr:=h.eval hx
 have hr0:=hr
 generalize hux:a.eval x=ux at hr hr0
 cases hr with
 |agg _ us hlen hd h1=>
 refine pK hT h hfi hr0 ?_ he
 have hf':fs[f]? =some fd:=by simpa using hf
 unfold execOp
 simp only[ho,hux,Instr.field,TS,TT.underlying hT hti w,TE,hf',asAgg,TV]

def gq (T:TT)(s:AS)(t:TypeId)(x ix:Operand):Ev:=
 match T.get t,ft s ix,ft s x with
 |some ti,some (.v (.int _ z)),some d=>match ti.desc,d with
  | .slice e,.ref k g off n _=>match T.get e with
   |some ei=>.cond (decide (0≤z)&&decide (z<(n:Int))) (.ok (some (.ptr k g (off+z.toNat*ei.size))) [])
   |none=>.stuck
  | .slice e,.sl _ n size cells=>match T.get e with
   |some ei=>.cond (decide (0≤z)&&decide (z<(n:Int))&&Tx size ei.size) (.ok (some (.ep cells (z.toNat*size))) [])
   |none=>.stuck
  | .array len e,d=>match T.get e with
   |some ei=>.cond (decide (0≤z)&&decide (z<(len:Int))) (.opt (vB d (z.toNat*ei.size)) fun d'=> .ok (some d') [])
   |none=>.stuck
  |_,_=>.stuck
 |_,_,_=>.stuck

theorem np {p q:Prop}[Decidable p][Decidable q](h:(decide p&&decide q)=true):p∧q:=by simpa using h

theorem m5 (hT:T.ok P)(h:SR cx E s a w){t:TypeId}{x ix:Operand}(ho:o.op= .indexAddr t x ix){v:Option D}{up:Up}(he:(gq T s t x ix).run v up):ce P cx E s a w i o v up:=by
 unfold gq at he
 split at he
 case h_2=>exact he.elim
 case h_1 ti kz z d hti hix hx=>
 have hrx:=h.eval hx
 have hri:=h.eval hix
 generalize hux:a.eval x=ux at hrx
 generalize hui:a.eval ix=ui at hri
 cases hri with
 |v _ _=>
 have hund:=TT.underlying hT hti w
 split at he
 case h_1 e k g off n sz hd0=>
  split at he
  case h_2=>exact he.elim
  case h_1 ei hei=>
  obtain⟨hc,rfl,rfl⟩:=he
  obtain⟨h0,h1⟩:=np hc
  cases hrx with
  |ref _ _ _ _ _ c b off' tt m hg hb hc2 hoff hsh hm=>
   obtain rfl:off'=off:=by omega
   refine .pure h ?_ (.ptr k g _ b hg hb)
   unfold execOp
   rw[hd0]at hund
   simp only[ho,hux,hui,Yb,asIntOf,TS,TV,TE,hund,V0,h0,h1,and_self,if_true,TT.sizeOf hT hei w,U8]
  |refn _ _ _ hg hb=>omega
 case h_2 e nn n size cells hd0=>
  split at he
  case h_2=>exact he.elim
  case h_1 ei hei=>
  obtain⟨hc,rfl,rfl⟩:=he
  rw[Tw]at hc
  obtain⟨h0,h1⟩:=np hc.1
  have hsz:size=ei.size:=TB hc.2
  cases hrx with
  |sl _ _ _ _ ad c us hlen hd hone hn hs hc2 hnil hr=>
   rcases hr with hr|⟨b,off,ha,hb,hown,hcell⟩
   ·omega
   ·subst ha
    refine .pure h ?_ (.ep cells _ b off us hlen hd hone hb hown hcell)
    unfold execOp
    rw[hd0]at hund
    simp only[ho,hux,hui,Yb,asIntOf,TS,TV,TE,hund,V0,h0,h1,and_self,if_true,TT.sizeOf hT hei w,U8,hsz]
 case h_3 len e d hd0=>
  split at he
  case h_2=>exact he.elim
  case h_1 ei hei=>
  obtain⟨hc,d',hd',rfl,rfl⟩:=he
  obtain⟨h0,h1⟩:=np hc
  obtain⟨b,off,hu,hr⟩:=mK hrx hd'
  subst hu
  refine .pure h ?_ hr
  unfold execOp
  rw[hd0]at hund
  simp only[ho,hux,hui,Yb,asIntOf,WJ,TS,TV,TE,hund,V0,h0,h1,and_self,if_true,TT.sizeOf hT hei w,U8]
 case h_4=>exact he.elim

def nq (T:TT)(s:AS)(t:TypeId)(x ix:Operand):Ev:=
 match T.get t,ft s ix,ft s x with
 |some ti,some (.v (.int _ z)),some d=>match ti.desc,d with
  | .array len e,.agg cs=>match T.get e with
   |some ei=>.cond (decide (0≤z)&&decide (z<(len:Int))) (DH ei cs (z.toNat*ei.size))
   |none=>.stuck
  | .string,.v (.string b)=>.cond (decide (0≤z)) (.opt ((b.data.toList[z.toNat]?).map fun c=>D.v (.int .u8 c.toNat)) fun d=>.ok (some d) [])
  |_,_=>.stuck
 |_,_,_=>.stuck
theorem tq (hT:T.ok P)(h:SR cx E s a w){t:TypeId}{x ix:Operand}(ho:o.op= .index t x ix){v:Option D}{up:Up}(he:(nq T s t x ix).run v up):ce P cx E s a w i o v up:=by
 unfold nq at he
 split at he
 case h_2=>exact he.elim
 case h_1 ti kz z d hti hix hx=>
 have hrx:=h.eval hx
 have hri:=h.eval hix
 generalize hux:a.eval x=ux at hrx
 generalize hui:a.eval ix=ui at hri
 cases hri with
 |v _ _=>
 have hund:=TT.underlying hT hti w
 split at he
 case h_1 len e cs hd0=>
  split at he
  case h_2=>exact he.elim
  case h_1 ei hei=>
  obtain⟨hc,he⟩:=he
  obtain⟨h0,h1⟩:=np hc
  have hrx0:=hrx
  cases hrx with
  |agg _ us hlen hd hone=>
  refine pK hT h hei hrx0 ?_ he
  unfold execOp
  rw[hd0]at hund
  simp only[ho,hux,hui,Instr.index,asIntOf,TS,TV,TE,hund,V0,h0,h1,and_self,if_true,TT.sizeOf hT hei w]
 case h_2 b hd0=>
  obtain⟨hc,d',hd',rfl,rfl⟩:=he
  have h0:=of_decide_eq_true hc
  rw[UG]at hd'
  obtain⟨c,hcb,rfl⟩:=hd'
  cases hrx with
  |v _ _=>
  refine .pure h ?_ (.v (.int .u8 c.toNat) rfl)
  unfold execOp
  rw[hd0]at hund
  have hb:b[z.toNat]? =some c:=by
   have:b.data[z.toNat]? =some c:=by simpa using hcb
   obtain⟨hlt,he⟩:=Array.getElem?_eq_some_iff.1 this
   rw[getElem?_pos b z.toNat (by exact hlt)]
   exact congrArg some he
  simp only[ho,hux,hui,Instr.index,asIntOf,TS,TV,TE,hund,h0,if_true,hb]
 case h_3=>exact he.elim
end
end Go.Vx
namespace Go.Vx
open Go.RowKit Go.Bw
section
variable {P:Program} {cx:Cx} {E:Env} {s:AS} {a:Act} {w:World} {i:Nat} {o:Oper} {T:TT}

def ar (k:IntKind)(x:Int):Option D:=match decide (k.wrap x=x)with
 |true=>some (.v (.int k x))
 |false=>some (.v (.int k (k.wrap x)))
theorem aL (k:IntKind)(x:Int):ar k x=some (.v (.int k (k.wrap x))):=by
 unfold ar
 cases h:decide (k.wrap x=x)with
 |true=>rw[of_decide_eq_true h]
 |false=>rfl
def Iy (k:IntKind)(x:Int):Ev:=.opt (ar k x) fun d=>.ok (some d) []
theorem jH {k:IntKind}{x:Int}{v:Option D}{up:Up}(h:(Iy k x).run v up):v=some (.v (.int k (k.wrap x)))∧up=[]:=by
 obtain⟨d,hd,rfl,rfl⟩:=h
 rw[aL]at hd;cases hd;exact⟨rfl,rfl⟩
def b4 (k:IntKind)(v:Int):Option D:=match decide (v=0)with
 |true=>some (.v (.int k v))
 |false=>some (.v (.int k v))
theorem de (k:IntKind)(v:Int):b4 k v=some (.v (.int k v)):=by
 unfold b4
 cases decide (v=0)<;>rfl
def ta (k:IntKind)(x:Int):Ev:=.opt (b4 k x) fun d=>.ok (some d) []
theorem fP {k:IntKind}{x:Int}{v:Option D}{up:Up}(h:(ta k x).run v up):v=some (.v (.int k x))∧up=[]:=by
 obtain⟨d,hd,rfl,rfl⟩:=h
 rw[de]at hd;cases hd;exact⟨rfl,rfl⟩
def Au (op:BinOp)(k k':IntKind)(x y:Int):Ev:=
 match op with
 | .shl=>.cond (decide (0≤y)) (Iy k (2^(min y.toNat k.bits)*x))
 | .shr=>.cond (decide (0≤y)) (ta k (x.fdiv (2^(min y.toNat k.bits))))
 | .add=>.cond (decide (k=k')) (Iy k (x+y))
 | .sub=>.cond (decide (k=k')) (Iy k (x-y))
 | .mul=>.cond (decide (k=k')) (Iy k (x*y))
 | .quo=>.cond (decide (k=k')&& !decide (y=0)) (ta k (k.wrap (x.tdiv y)))
 | .rem=>.cond (decide (k=k')&& !decide (y=0)) (ta k (x.tmod y))
 | .and=>.cond (decide (k=k')) (ta k (k.wrap ((TA k.bits x&&&TA k.bits y).toNat:Int)))
 | .or=>.cond (decide (k=k')) (ta k (k.wrap ((TA k.bits x|||TA k.bits y).toNat:Int)))
 | .xor=>.cond (decide (k=k')) (ta k (k.wrap ((TA k.bits x^^^TA k.bits y).toNat:Int)))
 | .andNot=>.cond (decide (k=k')) (ta k (k.wrap ((TA k.bits x&&& ~~~ TA k.bits y).toNat:Int)))
 | .eql=>.cond (decide (k=k')) (.ok (some (.v (.bool (x==y)))) [])
 | .neq=>.cond (decide (k=k')) (.ok (some (.v (.bool (x !=y)))) [])
 | .lss=>.cond (decide (k=k')) (.ok (some (.v (.bool (decide (x<y))))) [])
 | .leq=>.cond (decide (k=k')) (.ok (some (.v (.bool (decide (x≤y))))) [])
 | .gtr=>.cond (decide (k=k')) (.ok (some (.v (.bool (decide (y<x))))) [])
 | .geq=>.cond (decide (k=k')) (.ok (some (.v (.bool (decide (y≤x))))) [])

def Av (op:BinOp)(x y:ByteArray):Ev:=
 match op with
 | .add=>.cond (Tz (x.size+y.size) fY) (.ok (some (.v (.string (x++y)))) [])
 | .eql=>.ok (some (.v (.bool (x.toList==y.toList)))) []
 | .neq=>.ok (some (.v (.bool (!(x.toList==y.toList))))) []
 | .lss=>.ok (some (.v (.bool (Xz x.toList y.toList)))) []
 | .leq=>.ok (some (.v (.bool (Xz x.toList y.toList||x.toList==y.toList)))) []
 | .gtr=>.ok (some (.v (.bool (!(Xz x.toList y.toList||x.toList==y.toList))))) []
 | .geq=>.ok (some (.v (.bool (!Xz x.toList y.toList)))) []
 |_=>.stuck

def nr:TypeDesc→Bool
 | .bool=>true
 |_=>false
def cY:TypeDesc→Bool
 | .slice _=>true
 |_=>false
def dT:D→Option Bool
 | .v (.slice none 0 0)=>some true
 | .sl true _ _ _=>some false
 | .ref _ _ _ (_+1) _=>some false
 |_=>none
def P5:TypeDesc→D→D→Option Bool
 | .int _,.v (.int k m),.v (.int k' n)=>match decide (k=k')with
  |true=>some (m==n)
  |false=>none
 | .bool,.v (.bool m),.v (.bool n)=>some (m==n)
 | .string,.v (.string m),.v (.string n)=>some (m.toList==n.toList)
 |_,_,_=>none
def Aw (T:TT)(cs ds:List D):List Field→Option Bool
 |[]=>some true
 |f::r=>match T.get f.type,cs[f.offset]?,ds[f.offset]?,Aw T cs ds r with
  |some fi,some x,some y,some c=>match P5 fi.desc x y with
   |some b=>some (b&&c)
   |none=>none
  |_,_,_,_=>none
def DI (d:TypeDesc):List D→List D→Option Bool
 |[],[]=>some true
 |x::r,y::q=>match P5 d x y,DI d r q with
  |some b,some c=>some (b&&c)
  |_,_=>none
 |_,_=>none
def Ax (T:TT)(n:Nat)(el:TypeId)(cs ds:List D):Option Bool:=
 match T.get el with
 |some ei=>match Tx ei.size 1&&Tx cs.length n with
  |true=>DI ei.desc cs ds
  |false=>none
 |none=>none
def wX (T:TT)(s:AS)(op:BinOp)(t:TypeId)(x y:Operand):Ev:=
 match ft s x,ft s y with
 |some (.v (.int k m)),some (.v (.int k' n))=>Au op k k' m n
 |some (.v (.string m)),some (.v (.string n))=>Av op m n
 |some (.v (.bool m)),some (.v (.bool n))=>match T.get t,op with
  |some ti,.eql=>.cond (nr ti.desc) (.ok (some (.v (.bool (m==n)))) [])
  |some ti,.neq=>.cond (nr ti.desc) (.ok (some (.v (.bool (!(m==n))))) [])
  |_,_=>.stuck
 |some d,some (.v (.slice none 0 0))=>match T.get t,op,dT d with
  |some ti,.eql,some b=>.cond (cY ti.desc) (.ok (some (.v (.bool b))) [])
  |some ti,.neq,some b=>.cond (cY ti.desc) (.ok (some (.v (.bool (!b)))) [])
  |_,_,_=>.stuck
 |some (.agg cs),some (.agg ds)=>match T.get t,op with
  |some ⟨.struct fs,_,_,_,pl⟩,.eql=>match Aw T cs ds fs.toList with
   |some b=>.cond pl (.ok (some (.v (.bool b))) [])
   |none=>.stuck
  |some ⟨.struct fs,_,_,_,pl⟩,.neq=>match Aw T cs ds fs.toList with
   |some b=>.cond pl (.ok (some (.v (.bool (!b)))) [])
   |none=>.stuck
  |some ⟨.array n el,_,_,_,pl⟩,.eql=>match Ax T n el cs ds with
   |some b=>.cond pl (.ok (some (.v (.bool b))) [])
   |none=>.stuck
  |some ⟨.array n el,_,_,_,pl⟩,.neq=>match Ax T n el cs ds with
   |some b=>.cond pl (.ok (some (.v (.bool (!b)))) [])
   |none=>.stuck
  |_,_=>.stuck
 |_,_=>.stuck

inductive EqAll (P:Program) (w:World) (d:Nat) (xs ys:Array Value):List Field→Bool→Prop
 |nil:EqAll P w d xs ys [] true
 |cons {f:Field} {r:List Field} {x y:Value} {b c:Bool} (hn:f.name≠ "_") (h1:(part f.type xs f.offset).run P w= .ok x w) (h2:(part f.type ys f.offset).run P w= .ok y w) (h3:(VU d f.type x y).run P w= .ok b w) (h4:EqAll P w d xs ys r c):EqAll P w d xs ys (f::r) (b&&c)
theorem nW (d:Nat){t:TypeId}{fs:Array Field}(hu:(Wy t).run P w= .ok (.struct fs) w)(hst:P.stoodInHeld t=false){xs ys:Array Value}{b:Bool}(h:EqAll P w d xs ys fs.toList b):(VU (d+1) t (.agg xs) (.agg ys)).run P w= .ok b w:=by
 rw[VU]
 simp only[TS,hu,TE]
 have hp:(program:Sem Program).run P w= .ok P w:=rfl
 simp only[hp,TE,hst,Vh,if_false,TS]
 rw[←Array.forIn_toList]
 generalize fs.toList=l at h
 induction h with
 |nil=>simp
 |cons hn h1 h2 h3 h4 ih=>
  rename_i f r x y b1 c1
  rw[YN]
  simp only[TS,h1,h2,h3,TE,hn,ne_eq,not_false_eq_true,if_true]
  cases b1 with
  |false=>simp
  |true=>simpa using ih
theorem kN (hT:T.ok P){t:TypeId}{ti:TI}(ht:T.get t=some ti)(hr:ti.desc.isRow=false){cs:Array Value}{off:Nat}{v:Value}(hv:cs[off]? =some v):(part t cs off).run P w= .ok v w:=by
 unfold part
 rw[TS,gT hT ht w,TE,hr]
 simp only[Vh,if_false,hv,TV]
theorem wY (hT:T.ok P){t:TypeId}{ti:TI}(ht:T.get t=some ti){E:Env}{x y:D}{u v:Value}(hx:RD E w x u)(hy:RD E w y v){b:Bool}(h:P5 ti.desc x y=some b)(n:Nat):(VU (n+1) t u v).run P w= .ok b w∧ti.desc.isRow=false:=by
 have hu:=TT.underlying hT ht w
 unfold P5 at h
 split at h
 case h_1 kk k m k' m' hd=>
  split at h
  case h_2=>cases h
  case h_1 hk=>
  cases h
  cases hx;cases hy
  have hk:=of_decide_eq_true hk
  rw[hd]at hu
  refine⟨?_,by rw[hd]⟩
  rw[VU];simp only[TS,hu,TE,hk,if_true,TV]
 case h_2 m m' hd=>
  cases h;cases hx;cases hy
  rw[hd]at hu
  refine⟨?_,by rw[hd]⟩
  rw[VU];simp only[TS,hu,TE,TV]
 case h_3 m m' hd=>
  cases h;cases hx;cases hy
  rw[hd]at hu
  refine⟨?_,by rw[hd]⟩
  rw[VU];simp only[TS,hu,TE,TV]
  rw[beq_toListBytes]
 case h_4=>cases h
theorem tu (hT:T.ok P){E:Env}{cs ds:List D}{us vs:List Value}(hu:∀(i:Nat) d,cs[i]? =some d→∃u,us[i]? =some u∧RD E w d u)(hv:∀(i:Nat) d,ds[i]? =some d→∃u,vs[i]? =some u∧RD E w d u)(n:Nat):∀(l:List Field) (b:Bool),(∀f∈l,f.name≠ "_")→Aw T cs ds l=some b→EqAll P w (n+1) us.toArray vs.toArray l b
 |[],b,_,h=>by cases h;exact .nil
 |f::r,b,hn,h=>by
  unfold Aw at h
  split at h
  case h_2=>cases h
  case h_1 fi x y c h1 h2 h3 h4=>
  split at h
  case h_2=>cases h
  case h_1 b1 hb=>
  cases h
  obtain⟨u,a1,a2⟩:=hu _ _ h2
  obtain⟨v,b1',b2⟩:=hv _ _ h3
  obtain⟨e1,e2⟩:=wY hT h1 a2 b2 hb n
  exact .cons (hn f TP) (kN hT h1 e2 (by simpa using a1)) (kN hT h1 e2 (by simpa using b1')) e1 (tu hT hu hv n r c (fun g hg=>hn g (TU _ hg)) h4)
theorem tv (hT:T.ok P){el:TypeId}{ei:TI}(he:T.get el=some ei){E:Env}(us vs:List Value)(n:Nat):∀(cs ds:List D) (i:Nat) (b:Bool),
  (∀(j:Nat) d,cs[j]? =some d→∃u,us[i+j]? =some u∧RD E w d u)→(∀(j:Nat) d,ds[j]? =some d→∃u,vs[i+j]? =some u∧RD E w d u)→DI ei.desc cs ds=some b→
  WX P (forIn (List.range' i cs.length) ((none:Option Bool),()) fun j __s=>do
      let __do_lift ←part el us.toArray (j*1)
      let __do_lift_1 ←part el vs.toArray (j*1)
      let __do_lift ←VU (n+1) el __do_lift __do_lift_1
      if(!__do_lift)=true then pure (ForInStep.done (some false,()))else pure (ForInStep.yield (none,()))) w= .ok ((bif b then none else some false),()) w
 |[],[],i,b,_,_,h=>by cases h;simp
 |[],_::_,i,b,_,_,h=>by cases h
 |_::_,[],i,b,_,_,h=>by cases h
 |x::r,y::q,i,b,hu,hv,h=>by
  unfold DI at h
  split at h
  case h_2=>cases h
  case h_1 b1 c1 h1 h2=>
  cases h
  obtain⟨u,a1,a2⟩:=hu 0 x rfl
  obtain⟨v,b1',b2⟩:=hv 0 y rfl
  obtain⟨e1,e2⟩:=wY hT he a2 b2 h1 n
  have ih:=tv hT he us vs n r q (i+1) c1 (fun j d hd=>by have:=hu (j+1) d (by simpa using hd);rw[show i+1+j=i+(j+1)from by omega];exact this) (fun j d hd=>by have:=hv (j+1) d (by simpa using hd);rw[show i+1+j=i+(j+1)from by omega];exact this) h2
  rw[T3,List.range'_succ,YN]
  have p1:=kN (P:=P) (w:=w) hT he e2 (cs:=us.toArray) (off:=i*1) (v:=u) (by simpa using a1)
  have p2:=kN (P:=P) (w:=w) hT he e2 (cs:=vs.toArray) (off:=i*1) (v:=v) (by simpa using b1')
  simp only[TS,p1,p2,e1,TE]
  cases b1 with
  |false=>simp
  |true=>simpa using ih
theorem mL (op:BinOp)(t:TypeId)(x y:Operand)(us vs:Array Value)(hg:P.eqGuardType P.depth t=false):(eqGuard op t x y (.agg us) (.agg vs)).run P w= .ok () w:=run_eqGuard_agg w op t x y us vs hg
theorem j8 (t:TypeId)(us vs:Array Value):binOp .eql t (.agg us) (.agg vs)=(do pure (.bool (←WZ t (.agg us) (.agg vs)))):=rfl
theorem j9 (t:TypeId)(us vs:Array Value):binOp .neq t (.agg us) (.agg vs)=(do pure (.bool (!(←WZ t (.agg us) (.agg vs))))):=rfl
theorem tw (op:BinOp)(t:TypeId)(x y:Operand)(k k':IntKind)(m n:Int):(eqGuard op t x y (.int k m) (.int k' n)).run P w= .ok () w:=by cases op<;>rfl
theorem tz (op:BinOp)(t:TypeId)(x y:Operand)(m n:ByteArray):(eqGuard op t x y (.string m) (.string n)).run P w= .ok () w:=by cases op<;>rfl
theorem kO (op:BinOp)(t:TypeId)(x y:Operand)(m n:Bool):(eqGuard op t x y (.bool m) (.bool n)).run P w= .ok () w:=by cases op<;>rfl
theorem ka (op:BinOp)(t:TypeId)(x y:Operand)(ad:Option Addr)(n c:Nat)(u:Value):(eqGuard op t x y (.slice ad n c) u).run P w= .ok () w:=by cases op<;>cases u<;>rfl

theorem q7 (n:Nat){t:TypeId}{x y:Bool}(hu:(Wy t).run P w= .ok .bool w):(VU (n+1) t (.bool x) (.bool y)).run P w= .ok (x==y) w:=by
 rw[VU];simp only[TS,hu,TE,TV]
theorem nX {t:TypeId}{x y:Bool}(hu:(Wy t).run P w= .ok .bool w):(WZ t (.bool x) (.bool y)).run P w= .ok (x==y) w:=q7 9999 hu
theorem tA (m:Nat){t e:TypeId}{ad:Option Addr}{n c:Nat}(hu:(Wy t).run P w= .ok (.slice e) w):(VU (m+1) t (.slice ad n c) (.slice none 0 0)).run P w= .ok ad.isNone w:=by
 rw[VU];simp only[TS,hu,TE];cases ad<;>rfl
theorem pL {t e:TypeId}{ad:Option Addr}{n c:Nat}(hu:(Wy t).run P w= .ok (.slice e) w):(WZ t (.slice ad n c) (.slice none 0 0)).run P w= .ok ad.isNone w:=tA 9999 hu
theorem pM (t:TypeId){x y:Value}(h1:(∃b c,x= .bool b∧y= .bool c)∨∃ad n c,x= .slice ad n c∧y= .slice none 0 0):binOp .eql t x y=(do pure (.bool (←WZ t x y))):=by
 rcases h1 with⟨b,c,rfl,rfl⟩|⟨ad,n,c,rfl,rfl⟩<;>rfl
theorem pN (t:TypeId){x y:Value}(h1:(∃b c,x= .bool b∧y= .bool c)∨∃ad n c,x= .slice ad n c∧y= .slice none 0 0):binOp .neq t x y=(do pure (.bool (!(←WZ t x y)))):=by
 rcases h1 with⟨b,c,rfl,rfl⟩|⟨ad,n,c,rfl,rfl⟩<;>rfl

theorem DJ (op:BinOp)(t:TypeId)(k k':IntKind)(m n:Int){v:Option D}{up:Up}(he:(Au op k k' m n).run v up):∃c:Value,v=some (.v c)∧up=[]∧c.oneCell'=true∧(binOp op t (.int k m) (.int k' n)).run P w= .ok c w:=by
 cases op<;>simp only[Au,Ev.run,Tw,decide_eq_true_eq,VC,decide_eq_false_iff_not]at he
 case add=>obtain⟨rfl,he⟩:=he;obtain⟨rfl,rfl⟩:=jH he;exact⟨_,rfl,rfl,rfl,by simp[binOp,Wb,Wq,WP]⟩
 case sub=>obtain⟨rfl,he⟩:=he;obtain⟨rfl,rfl⟩:=jH he;exact⟨_,rfl,rfl,rfl,by simp[binOp,Wb,Wq,WP]⟩
 case mul=>obtain⟨rfl,he⟩:=he;obtain⟨rfl,rfl⟩:=jH he;exact⟨_,rfl,rfl,rfl,by simp[binOp,Wb,Wq,WP]⟩
 case shl=>obtain⟨h0,he⟩:=he;obtain⟨rfl,rfl⟩:=jH he;exact⟨_,rfl,rfl,rfl,by rw[Int.mul_comm (2^_)];simp only[binOp,Op.shift,if_neg (show¬n<0 by omega),TV]⟩
 case shr=>obtain⟨h0,he⟩:=he;obtain⟨rfl,rfl⟩:=fP he;exact⟨_,rfl,rfl,rfl,by simp only[binOp,Op.shift,if_neg (show¬n<0 by omega),TV]⟩
 case quo=>obtain⟨⟨rfl,h0⟩,he⟩:=he;obtain⟨rfl,rfl⟩:=fP he;exact⟨_,rfl,rfl,rfl,by simp[binOp,Op.intDiv,h0]⟩
 case rem=>obtain⟨⟨rfl,h0⟩,he⟩:=he;obtain⟨rfl,rfl⟩:=fP he;exact⟨_,rfl,rfl,rfl,by simp[binOp,Op.intDiv,h0]⟩
 case and=>obtain⟨rfl,he⟩:=he;obtain⟨rfl,rfl⟩:=fP he;exact⟨_,rfl,rfl,rfl,by simp[binOp,Wb,Wq,WP]⟩
 case or=>obtain⟨rfl,he⟩:=he;obtain⟨rfl,rfl⟩:=fP he;exact⟨_,rfl,rfl,rfl,by simp[binOp,Wb,Wq,WP]⟩
 case xor=>obtain⟨rfl,he⟩:=he;obtain⟨rfl,rfl⟩:=fP he;exact⟨_,rfl,rfl,rfl,by simp[binOp,Wb,Wq,WP]⟩
 case andNot=>obtain⟨rfl,he⟩:=he;obtain⟨rfl,rfl⟩:=fP he;exact⟨_,rfl,rfl,rfl,by simp[binOp,Wb,Wq,WP]⟩
 all_goals (obtain⟨rfl,rfl,rfl⟩:=he;exact⟨_,rfl,rfl,rfl,by simp[binOp,Wb,Wq,WP]⟩)

theorem DK (op:BinOp)(t:TypeId)(m n:ByteArray){v:Option D}{up:Up}(he:(Av op m n).run v up):∃c:Value,v=some (.v c)∧up=[]∧c.oneCell'=true∧(binOp op t (.string m) (.string n)).run P w= .ok c w:=by
 cases op<;>simp only[Av,Ev.run]at he
 case add=>
  obtain⟨h0,rfl,rfl⟩:=he
  have h0:=TC h0
  refine⟨_,rfl,rfl,rfl,?_⟩
  have:¬((m.size+n.size:Nat):Int)>IntKind.i64.max:=by
   have:IntKind.i64.max=9223372036854775807:=by decide
   rw[this];unfold fY at h0;omega
  simp only[binOp,Op.stringOp,if_neg this,TV]
 all_goals first|exact he.elim|(obtain⟨rfl,rfl⟩:=he;exact⟨_,rfl,rfl,rfl,by simp[binOp,Op.stringOp]⟩)

theorem tB (hT:T.ok P)(h:SR cx E s a w){op:BinOp}{t yt:TypeId}{x y:Operand}(ho:o.op= .binOp op t x y yt){v:Option D}{up:Up}(he:(wX T s op t x y).run v up):ce P cx E s a w i o v up:=by
 unfold wX at he
 split at he
 case h_1 k m k' n hx hy=>
  have hrx:=h.eval hx
  have hry:=h.eval hy
  generalize hux:a.eval x=ux at hrx
  generalize huy:a.eval y=uy at hry
  cases hrx;cases hry
  obtain⟨c,rfl,rfl,h1,hr⟩:=DJ (P:=P) (w:=w) op t k k' m n he
  refine .pure h ?_ (.v c h1)
  unfold execOp
  simp only[ho,hux,huy,TS,tw,TE,hr,TV]
 case h_2 m n hx hy=>
  have hrx:=h.eval hx
  have hry:=h.eval hy
  generalize hux:a.eval x=ux at hrx
  generalize huy:a.eval y=uy at hry
  cases hrx;cases hry
  obtain⟨c,rfl,rfl,h1,hr⟩:=DK (P:=P) (w:=w) op t m n he
  refine .pure h ?_ (.v c h1)
  unfold execOp
  simp only[ho,hux,huy,TS,tz,TE,hr,TV]
 case h_3 m n hx hy=>
  have hrx:=h.eval hx
  have hry:=h.eval hy
  generalize hux:a.eval x=ux at hrx
  generalize huy:a.eval y=uy at hry
  cases hrx;cases hry
  split at he
  case h_3=>exact he.elim
  all_goals
   rename_i ti hti
   obtain⟨hc,rfl,rfl⟩:=he
   have hund:=TT.underlying hT hti w
   have hd:ti.desc= .bool:=by cases hq:ti.desc<;>simp[hq,nr]at hc ⊢
   rw[hd]at hund
   refine .pure h ?_ (.v _ rfl)
   unfold execOp
   first
    |(rw[ho];simp only[hux,huy,TS,kO,TE,pM t (.inl ⟨_,_,rfl,rfl⟩),nX hund,TV];done)
    |(rw[ho];simp only[hux,huy,TS,kO,TE,pN t (.inl ⟨_,_,rfl,rfl⟩),nX hund,TV];done)
 case h_4 d hx hy=>
  have hrx:=h.eval hx
  have hry:=h.eval hy
  generalize hux:a.eval x=ux at hrx
  generalize huy:a.eval y=uy at hry
  cases hry
  have key:∀b,dT d=some b→∃(ad:Option Addr) (n c:Nat),ux= .slice ad n c∧ad.isNone=b:=by
   intro b hb
   cases hrx with
   |v c hc=>
    unfold dT at hb
    split at hb
    case h_1 e=>cases hb;cases e;exact⟨none,0,0,rfl,rfl⟩
    all_goals first|(rename_i e;cases e)|cases hb
   |sl nn n size cells ad c us hlen hd hone hn hs hc2 hnil hr=>
    cases nn with
    |true=>cases hb;exact⟨ad,n,c,rfl,by cases ad with|none=>exact absurd (hnil rfl).2 (by decide)|some _=>rfl⟩
    |false=>cases hb
   |ref k g off n sz c b off' tt m hg hb2 hc=>
    cases n with
    |zero=>cases hb
    |succ n=>cases hb;exact⟨_,_,_,rfl,rfl⟩
   |refn=>cases hb
   |_=>cases hb
  split at he
  case h_3=>exact he.elim
  all_goals
   rename_i ti b hti hb
   obtain⟨hc,rfl,rfl⟩:=he
   obtain⟨ad,n,c,rfl,hn⟩:=key b hb
   have hund:=TT.underlying hT hti w
   obtain⟨e,hd⟩:∃e,ti.desc= .slice e:=by cases hq:ti.desc<;>simp[hq,cY]at hc ⊢
   rw[hd]at hund
   refine .pure h ?_ (.v _ rfl)
   unfold execOp
   subst hn
   first
    |(rw[ho];simp only[hux,huy,TS,ka,TE,pM t (.inr ⟨_,_,_,rfl,rfl⟩),pL hund,TV];done)
    |(rw[ho];simp only[hux,huy,TS,ka,TE,pN t (.inr ⟨_,_,_,rfl,rfl⟩),pL hund,TV];done)
 case h_5 cs ds hx hy=>
  have hrx:=h.eval hx
  have hry:=h.eval hy
  generalize hux:a.eval x=ux at hrx
  generalize huy:a.eval y=uy at hry
  cases hrx with
  |agg _ us hlen1 hd1 hone1=>
  cases hry with
  |agg _ vs hlen2 hd2 hone2=>
  have hcell:∀{l:List D} {us:List Value},us.length=l.length→(∀(i:Nat) d u,l[i]? =some d→us[i]? =some u→RD E w d u)→∀(i:Nat) d,l[i]? =some d→∃u,us[i]? =some u∧RD E w d u:=fun{l us} hl hd i d hi=>by
   have hlt:i<us.length:=by rw[hl];exact(List.getElem?_eq_some_iff.1 hi).1
   exact⟨us[i],Ts hlt,hd i d _ hi (Ts hlt)⟩
  split at he
  case h_5=>exact he.elim
  case h_3|h_4=>
   rename_i n el z1 z2 z3 pl hti
   split at he
   case h_2=>exact he.elim
   rename_i b hb
   obtain⟨hc,rfl,rfl⟩:=he
   subst hc
   obtain⟨p1,p2,p3⟩:=(hT t _ hti).2.2.2 rfl
   have hund:=TT.underlying hT hti w
   have heq:(WZ t (.agg us.toArray) (.agg vs.toArray)).run P w= .ok b w:=by
    unfold Ax at hb
    split at hb
    case h_2=>cases hb
    rename_i ei hei
    split at hb
    case h_2=>cases hb
    rename_i hsz
    rw[Tw]at hsz
    have s1:=TB hsz.1
    have s2:=TB hsz.2
    have hl:=tv (P:=P) (w:=w) hT hei (E:=E) us vs 9998 _ _ 0 b (fun j d hd=>by rw[T0];exact hcell hlen1 hd1 j d hd) (fun j d hd=>by rw[T0];exact hcell hlen2 hd2 j d hd) hb
    unfold WZ Op.maxDepth
    rw[show(10000:Nat)=9998+1+1 from rfl,VU]
    simp only[TS,hund,TE,TT.sizeOf hT hei w,s1]
    rw[s2]at hl
    simp only[Std.Legacy.Range.forIn_eq_forIn_range',Std.Legacy.Range.size]
    rw[show(n-0+1-1)/1=n from by rw[YI];omega,hl]
    cases b<;>rfl
   refine .pure h ?_ (.v _ rfl)
   unfold execOp
   rw[ho]
   simp only[hux,huy,TS,mL _ _ _ _ _ _ p2,TE,j8,j9,heq,TV]
  all_goals
   rename_i fs z1 z2 z3 pl hti
   split at he
   case h_2=>exact he.elim
   rename_i b hb
   obtain⟨hc,rfl,rfl⟩:=he
   subst hc
   obtain⟨p1,p2,p3⟩:=(hT t _ hti).2.2.2 rfl
   have hund:=TT.underlying hT hti w
   have heq:(WZ t (.agg us.toArray) (.agg vs.toArray)).run P w= .ok b w:=nW 9999 hund p1 (tu hT (hcell hlen1 hd1) (hcell hlen2 hd2) 9998 fs.toList b (fun f hf=>by
    have:=List.all_eq_true.1 (p3 fs rfl) f hf
    simpa using this) hb)
   refine .pure h ?_ (.v _ rfl)
   unfold execOp
   rw[ho]
   simp only[hux,huy,TS,mL _ _ _ _ _ _ p2,TE,j8,j9,heq,TV]
 case h_6=>exact he.elim

def DL (s:AS)(op:UnOp)(x:Operand):Ev:=
 match op,ft s x with
 | .not,some (.v (.bool b))=>.ok (some (.v (.bool (!b)))) []
 | .neg,some (.v (.int k n))=>Iy k (0-n)
 | .xor,some (.v (.int k n))=>ta k (k.wrap ((TA k.bits (if k.signed then -1 else k.max)^^^TA k.bits n).toNat:Int))
 |_,_=>.stuck
theorem vC (h:SR cx E s a w){op:UnOp}{t:TypeId}{x:Operand}(ho:o.op= .unOp op t x){v:Option D}{up:Up}(he:(DL s op x).run v up):ce P cx E s a w i o v up:=by
 unfold DL at he
 split at he
 case h_4=>exact he.elim
 all_goals
  rename_i hx
  have hrx:=h.eval hx
  generalize hux:a.eval x=ux at hrx
  cases hrx
  first|obtain⟨rfl,rfl⟩:=fP he|obtain⟨rfl,rfl⟩:=jH he|obtain⟨rfl,rfl⟩:=he
  refine .pure h ?_ (.v _ rfl)
  unfold execOp
  simp only[ho,hux,TS,Op.unary,Wb,Wq,TV,TE]

def ns (T:TT)(s:AS)(src dst:TypeId)(x:Operand):Ev:=
 match T.get src,T.get dst,ft s x with
 |some _,some ⟨.int k,_,_,_,_⟩,some (.v (.int _ n))=>Iy k n
 |some _,some ⟨.string,_,_,_,_⟩,some (.v (.string b))=>.ok (some (.v (.string b))) []
 |_,_,_=>.stuck
theorem tC (hT:T.ok P)(h:SR cx E s a w){src dst:TypeId}{x:Operand}(ho:o.op= .convert src dst x){v:Option D}{up:Up}(he:(ns T s src dst x).run v up):ce P cx E s a w i o v up:=by
 unfold ns at he
 split at he
 case h_3=>exact he.elim
 all_goals
  rename_i h1 h2 hx
  have hrx:=h.eval hx
  generalize hux:a.eval x=ux at hrx
  cases hrx
  first|obtain⟨rfl,rfl⟩:=fP he|obtain⟨rfl,rfl⟩:=jH he|obtain⟨rfl,rfl⟩:=he
  have u1:=TT.underlying hT h1 w
  have u2:=TT.underlying hT h2 w
  refine .pure h ?_ (.v _ rfl)
  unfold execOp
  simp only[ho,hux,TS,convert,u1,u2,TE]
  rfl

def Iz:D→Option Nat
 | .sl _ n _ _=>some n
 | .ref _ _ _ n _=>some n
 | .v (.slice _ n _)=>some n
 |_=>none
def wZ (T:TT)(s:AS)(ts:Array TypeId)(xs:Array Operand):Ev:=
 match ts.toList,xs.toList with
 |t::_,x::_=>match T.get t,ft s x with
  |some ⟨.slice _,_,_,_,_⟩,some d=>match Iz d with
   |some n=>.ok (some (.v (.int .i64 (n:Int)))) []
   |none=>.stuck
  |some ⟨.string,_,_,_,_⟩,some (.v (.string b))=>.ok (some (.v (.int .i64 (b.size:Int)))) []
  |some ⟨.array n _,_,_,_,_⟩,some _=>.ok (some (.v (.int .i64 (n:Int)))) []
  |_,_=>.stuck
 |_,_=>.stuck
theorem vD {d:D}{u:Value}{n:Nat}(h:RD E w d u)(hn:Iz d=some n):∃ad c,u= .slice ad n c:=by
 cases h with
 |v c hc=>
  unfold Iz at hn
  split at hn
  case h_3 e=>cases hn;cases e;exact⟨_,_,rfl⟩
  all_goals first|(rename_i e;cases e)|cases hn
 |sl=>cases hn;exact⟨_,_,rfl⟩
 |ref=>cases hn;exact⟨_,_,rfl⟩
 |refn=>cases hn;exact⟨_,_,rfl⟩
 |_=>cases hn

theorem zb (hT:T.ok P)(h:SR cx E s a w){c:Call}(ho:o.op= .call c)(hc:c.callee= .builtin .len){v:Option D}{up:Up}(he:(wZ T s c.argTypes c.args).run v up):ce P cx E s a w i o v up:=by
 unfold wZ at he
 split at he
 case h_2=>exact he.elim
 case h_1 t tr x xr hts hxs=>
 have e1:c.argTypes[0]? =some t:=by rw[←Wi,hts];rfl
 have e2:(c.args.map a.eval)[0]? =some (a.eval x):=by
  rw[Array.getElem?_map,←Wi,hxs];rfl
 have run0:∀{u:Value},(XA c.argTypes o.type (c.args.map a.eval)).run P w= .ok u w→(execOp a.eval o).run P w= .ok (.value u) w:=fun hu=>by
  unfold execOp
  simp only[ho,resolve,hc,TS,TV,TE,invoke,builtin,hu]
 split at he
 case h_1 hti hx=>
  split at he
  case h_2=>exact he.elim
  case h_1 n hn=>
  obtain⟨rfl,rfl⟩:=he
  obtain⟨ad,cp,hu⟩:=vD (h.eval hx) hn
  refine .pure h (run0 ?_) (.v _ rfl)
  simp only[XA,e1,e2,hu,TS,TT.underlying hT hti w,TE,goInt,TV]
 case h_2 hti hx=>
  have hrx:=h.eval hx
  generalize hux:a.eval x=ux at hrx e2
  cases hrx
  obtain⟨rfl,rfl⟩:=he
  refine .pure h (run0 ?_) (.v _ rfl)
  simp only[XA,e1,e2,TS,TT.underlying hT hti w,TE,goInt,TV]
 case h_3 hti hx=>
  obtain⟨rfl,rfl⟩:=he
  refine .pure h (run0 ?_) (.v _ rfl)
  simp only[XA,e1,e2,TS,TT.underlying hT hti w,TE,goInt,TV]
 case h_4=>exact he.elim

def lU (k:IntKind)(mx:Bool)(m n:Int):Option D:=match(bif mx then decide (n>m)else decide (n<m))with
 |true=>some (.v (.int k n))
 |false=>some (.v (.int k m))
theorem q8 (k:IntKind)(mx:Bool)(m n:Int):lU k mx m n=some (.v (.int k (bif mx then(if n>m then n else m)else(if n<m then n else m)))):=by
 unfold lU
 cases mx with
 |true=>simp only[cond_true];by_cases h:n>m<;>simp[h]
 |false=>simp only[cond_false];by_cases h:n<m<;>simp[h]
def tD (s:AS)(mx:Bool)(xs:Array Operand):Ev:=
 match xs.toList with
 |[x,y]=>match ft s x,ft s y with
  |some (.v (.int k m)),some (.v (.int _ n))=>.opt (lU k mx m n) fun d=>.ok (some d) []
  |_,_=>.stuck
 |_=>.stuck
theorem pO (h:SR cx E s a w){c:Call}(ho:o.op= .call c){mx:Bool}(hc:c.callee= .builtin (bif mx then .max else .min)){v:Option D}{up:Up}(he:(tD s mx c.args).run v up):ce P cx E s a w i o v up:=by
 unfold tD at he
 split at he
 case h_2=>exact he.elim
 case h_1 x y hxs=>
 split at he
 case h_2=>exact he.elim
 case h_1 k m k' n hx hy=>
 have hrx:=h.eval hx
 have hry:=h.eval hy
 generalize hux:a.eval x=ux at hrx
 generalize huy:a.eval y=uy at hry
 cases hrx;cases hry
 obtain⟨d,hd,rfl,rfl⟩:=he
 rw[q8]at hd;cases hd
 have e2:(c.args.map a.eval).toList=[.int k m,.int k' n]:=by rw[VH,hxs];simp[hux,huy]
 refine .pure h ?_ (.v _ rfl)
 cases mx
 ·simp only[cond_false]at hc
  unfold execOp
  simp only[ho,resolve,hc,TS,TV,TE,invoke,builtin,Builtin.min_,e2,Yv,YO,Builtin.min2,cond_false]
 ·simp only[cond_true]at hc
  unfold execOp
  simp only[ho,resolve,hc,TS,TV,TE,invoke,builtin,Builtin.max_,e2,Yv,YO,Builtin.max2,cond_true]
end
end Go.Vx
namespace Go.Vx
open Go.RowKit Go.Bw
section
variable {P:Program} {cx:Cx} {E:Env} {s:AS} {a:Act} {w:World} {i:Nat} {o:Oper} {T:TT}

def Ay (s:AS):Option Operand→Option (Option Int)
 |none=>some none
 |some x=>match ft s x with
  |some (.v (.int _ z))=>some (some z)
  |_=>none

theorem jI (h:SR cx E s a w){x:Option Operand}{r:Option Int}(hx:Ay s x=some r):(r=none∧x.map a.eval=none)∨∃k z,r=some z∧x.map a.eval=some (.int k z):=by
 cases x with
 |none=>cases hx;exact .inl ⟨rfl,rfl⟩
 |some x=>
  simp only[Ay]at hx
  split at hx
  case h_2=>cases hx
  case h_1 k z hz=>
  cases hx
  have hr:=h.eval hz
  generalize hu:a.eval x=u at hr
  cases hr
  exact .inr ⟨k,z,rfl,by simp[hu]⟩

theorem zd (b:Bool)(len cap:Nat)(lo hi mx:Option Value)(l h m:Nat)
  (hl:(lo=none∧l=0)∨∃k,lo=some (.int k (l:Int))) (hh:(hi=none∧mx=none∧h=len)∨∃k,hi=some (.int k (h:Int)))
  (hm:(mx=none∧m=cap)∨∃k,mx=some (.int k (m:Int))) (h1:l≤h) (h2:h≤m) (h3:m≤cap):(Wm b len cap lo hi mx).run P w= .ok (l,h,m) w:=by
 have sb:∀(k:IntKind) (x y:Nat) (code:BoundsCode),x≤y→(Instr.sliceBound (.int k (x:Int)) y code).run P w= .ok x w:=fun k x y code hxy=>by
  rw[run_sliceBound w k x y code (by omega) (by omega)];simp
 rcases hl with⟨rfl,rfl⟩|⟨kl,rfl⟩<;>rcases hh with⟨rfl,rfl,rfl⟩|⟨kh,rfl⟩<;>rcases hm with⟨hm,rfl⟩|⟨km,hm⟩<;>
  first
   |(cases hm;done)
   |(cases hm;simp[Wm,sb _ _ _ _ h1,sb _ _ _ _ h2,sb _ _ _ _ h3];done)
   |(subst hm;simp[Wm,sb _ _ _ _ h1,sb _ _ _ _ h2,sb _ _ _ _ h3];done)

def dl (r:Option Int):Nat:=match r with|none=>0|some z=>z.toNat
def bg (r:Option Int)(n:Nat):Nat:=match r with|none=>n|some z=>z.toNat
def aZ (l h m:Option Int)(n:Nat):Bool:=
 (match l with|none=>true|some z=>decide (0≤z))&&(match h with|none=>true|some z=>decide (0≤z))&&(match m with|none=>true|some z=>decide (0≤z))&&
 Tz (dl l) (bg h n)&&Tz (bg h n) (bg m n)&&Tz (bg m n) n&&(m.isNone||h.isSome)
def IA (cells:List D)(l h:Option Int)(es:Nat):List D:=
 match l,h with
 |none,none=>cells
 |none,some h=>cells.take (h.toNat*es)
 |some l,none=>cells.drop (l.toNat*es)
 |some l,some h=>(cells.drop (l.toNat*es)).take ((h.toNat-l.toNat)*es)
def nY (n:Nat)(l h:Option Int):Nat:=
 match l,h with
 |none,none=>n
 |none,some h=>h.toNat
 |some l,none=>n-l.toNat
 |some l,some h=>h.toNat-l.toNat
theorem gr (n:Nat)(l h:Option Int):nY n l h=bg h n-dl l:=by cases l<;>cases h<;>simp[nY,bg,dl]
theorem DM {cells:List D}{n es:Nat}(hn:cells.length=n*es)(l h:Option Int)(h1:bg h n≤n):IA cells l h es=(cells.drop (dl l*es)).take (nY n l h*es):=by
 cases l<;>cases h<;>simp[IA,nY,dl,hn.symm]
 rename_i z
 rw[T9]
 rw[Ul,hn,YJ];omega

theorem fZ {l h m:Option Int}{n:Nat}(hb:aZ l h m n=true):(∀z,l=some z→0≤z)∧(∀z,h=some z→0≤z)∧(∀z,m=some z→0≤z)∧dl l≤bg h n∧bg h n≤bg m n∧bg m n≤n∧(m=none∨h.isSome=true):=by
 simp only[aZ,Tw,VF,Xn]at hb
 obtain⟨⟨⟨⟨⟨⟨h1,h2⟩,h3⟩,h4⟩,h5⟩,h6⟩,h7⟩:=hb
 refine⟨fun z e=>by subst e;simpa using h1,fun z e=>by subst e;simpa using h2,fun z e=>by subst e;simpa using h3,TC h4,TC h5,TC h6,h7⟩

theorem fc (h:SR cx E s a w){lo hi mx:Option Operand}{l r m:Option Int}(hl:Ay s lo=some l)(hh:Ay s hi=some r)(hm:Ay s mx=some m){n:Nat}(hb:aZ l r m n=true)(b:Bool)(cap:Nat)(hc:n≤cap):
  (Wm b n cap (lo.map a.eval) (hi.map a.eval) (mx.map a.eval)).run P w= .ok (dl l,bg r n,bg m cap) w:=by
 obtain⟨z1,z2,z3,h1,h2,h3,h4⟩:=fZ hb
 refine zd b n cap _ _ _ _ _ _ ?_ ?_ ?_ h1 ?_ ?_
 ·rcases jI h hl with⟨rfl,e⟩|⟨k,z,rfl,e⟩
  ·exact .inl ⟨e,rfl⟩
  ·exact .inr ⟨k,by rw[e];simp[dl,Vc (z1 z rfl)]⟩
 ·rcases jI h hh with⟨rfl,e⟩|⟨k,z,rfl,e⟩
  ·refine .inl ⟨e,?_,rfl⟩
   rcases h4 with rfl|h4
   ·rcases jI h hm with⟨_,e⟩|⟨k,z,e,_⟩
    ·exact e
    ·cases e
   ·cases h4
  ·exact .inr ⟨k,by rw[e];simp[bg,Vc (z2 z rfl)]⟩
 ·rcases jI h hm with⟨rfl,e⟩|⟨k,z,rfl,e⟩
  ·exact .inl ⟨e,rfl⟩
  ·exact .inr ⟨k,by rw[e];simp[bg,Vc (z3 z rfl)]⟩
 ·cases m with
  |none=>simp only[bg]at h2 ⊢;omega
  |some z=>exact h2
 ·cases m with
  |none=>exact TD _
  |some z=>simp only[bg]at h3 ⊢;omega

def nu (T:TT)(s:AS)(t:TypeId)(x:Operand)(lo hi mx:Option Operand):Ev:=
 match Ay s lo,Ay s hi,Ay s mx with
 |some l,some h,some m=>match T.get t,ft s x with
  |some ⟨.slice e,_,_,_,_⟩,some (.ref k g off n sz)=>match T.get e with
   |some ei=>.cond (aZ l h m n&&Tx sz ei.size) (.ok (some (.ref k g (off+dl l*sz) (nY n l h) sz)) [])
   |none=>.stuck
  |some ⟨.slice e,_,_,_,_⟩,some (.sl nn n sz cells)=>match T.get e with
   |some ei=>.cond (aZ l h m n&&Tx sz ei.size) (.ok (some (.sl nn (nY n l h) sz (IA cells l h sz))) [])
   |none=>.stuck
  |some ⟨.slice e,_,_,_,_⟩,some (.v (.slice none 0 0))=>match T.get e with
   |some _=>.cond (aZ l h m 0) (.ok (some (.v (.slice none 0 0))) [])
   |none=>.stuck
  |some ⟨.string,_,_,_,_⟩,some (.v (.string b))=>.cond (aZ l h none b.size&&m.isNone&&mx.isNone) (.ok (some (.v (.string (b.extract (dl l) (bg h b.size))))) [])
  |some ⟨.array len e,_,_,_,_⟩,some (.ptr k g off)=>match T.get e,s.at k with
   |some ei,some p=>.cond (aZ l h m len&&Tx g p.1&&Tz (off+len*ei.size) p.2.cells.length&&Tz len fY) (.ok (some (.ref k g (off+dl l*ei.size) (nY len l h) ei.size)) [])
   |_,_=>.stuck
  |_,_=>.stuck
 |_,_,_=>.stuck

theorem jJ {t e:TypeId}{x:Operand}{lo hi mx:Option Operand}{z:Value}{sz by_:Nat}{pl_:Bool}(hT:T.ok P)(ho:o.op= .slice t x lo hi mx)(hti:T.get t=some ⟨.slice e,z,sz,by_,pl_⟩){ei:TI}(hei:T.get e=some ei){ad:Option Addr}{n c:Nat}(hx:a.eval x= .slice ad n c)
  {l h m:Nat} (hb:(Wm true n c (lo.map a.eval) (hi.map a.eval) (mx.map a.eval)).run P w= .ok (l,h,m) w):
  (execOp a.eval o).run P w= .ok (.value (.slice (if m=l then ad else ad.map (·.add (l*ei.size))) (h-l) (m-l))) w:=by
 unfold execOp
 simp only[ho,hx,Yc,Instr.slice,TS,TT.underlying hT hti w,TE,hb,TT.sizeOf hT hei w,TV]

theorem tE (hT:T.ok P)(h:SR cx E s a w){t:TypeId}{x:Operand}{lo hi mx:Option Operand}(ho:o.op= .slice t x lo hi mx){v:Option D}{up:Up}(he:(nu T s t x lo hi mx).run v up):ce P cx E s a w i o v up:=by
 unfold nu at he
 split at he
 case h_2=>exact he.elim
 case h_1 l r m hl hh hm=>
 split at he
 case h_1 e z1 z2 z3 z4 k g off n sz hti hx=>
  split at he
  case h_2=>exact he.elim
  case h_1 ei hei=>
  obtain⟨hc,rfl,rfl⟩:=he
  rw[Tw]at hc
  obtain⟨hb,hsz⟩:=hc
  obtain rfl:sz=ei.size:=TB hsz
  obtain⟨_,_,_,h1,h2,h3,_⟩:=fZ hb
  have hrx:=h.eval hx
  generalize hux:a.eval x=ux at hrx
  cases hrx with
  |ref _ _ _ _ _ c b off' tt mm hg hb2 hc2 hoff hsh hmm=>
   have hbr:=fc (P:=P) h hl hh hm hb true c hc2.1
   have hM:bg r n≤bg m c∧bg m c≤c:=by cases m<;>simp only[bg]at h2 h3 ⊢ <;>omega
   refine .pure h (jJ hT ho hti hei hux hbr) ?_
   rw[gr]
   by_cases hml:bg m c=dl l
   ·rw[if_pos hml]
    refine .ref k g _ _ _ _ b off' tt mm hg hb2 ⟨by omega,by omega⟩ (.inr ⟨by omega,by omega⟩) hsh ?_
    have:bg m c-dl l=0:=by omega
    rw[this,Vd]
    exact T6 (by omega) hmm
   ·rw[if_neg hml]
    simp only[WA,U8]
    refine .ref k g _ _ _ _ b _ tt mm hg hb2 ⟨by omega,by omega⟩ ?_ hsh ?_
    ·rcases hoff with rfl|⟨rfl,rfl⟩
     ·exact .inl rfl
     ·exact .inr ⟨by omega,by omega⟩
    ·rw[UF,←UN]
     have:dl l+(bg m c-dl l)≤c:=by omega
     exact T6 (X6 (Ur _ this) _) hmm
  |refn _ _ _ hg hb2=>
   have hbr:=fc (P:=P) h hl hh hm hb true 0 (TD _)
   have e0:dl l=0:=by omega
   have e1:bg m 0=0:=by cases m<;>simp only[bg]at h3 ⊢ <;>omega
   have e2:bg r 0=0:=by omega
   rw[e0,e1,e2]at hbr
   refine .pure h (jJ hT ho hti hei hux hbr) ?_
   rw[gr,e0,e2,if_pos rfl,Vd]
   exact .refn k g _ hg hb2
 case h_2 e z1 z2 z3 z4 nn n sz cells hti hx=>
  split at he
  case h_2=>exact he.elim
  case h_1 ei hei=>
  obtain⟨hc,rfl,rfl⟩:=he
  rw[Tw]at hc
  obtain⟨hb,hsz⟩:=hc
  obtain rfl:sz=ei.size:=TB hsz
  obtain⟨_,_,_,h1,h2,h3,_⟩:=fZ hb
  have hrx:=h.eval hx
  generalize hux:a.eval x=ux at hrx
  cases hrx with
  |sl _ _ _ _ ad c us hlen hd hone hn hs hc2 hnil hr=>
   have hbr:=fc (P:=P) h hl hh hm hb true c hc2.1
   have hM:bg r n≤bg m c∧bg m c≤c:=by cases m<;>simp only[bg]at h2 h3 ⊢ <;>omega
   have hseg:=DM hn l r (by omega)
   have hle:dl l*ei.size+nY n l r*ei.size≤n*ei.size:=by
    rw[←UN];exact Ur _ (by rw[gr];omega)
   refine .pure h (jJ hT ho hti hei hux hbr) ?_
   rw[hseg,show bg r n-dl l=nY n l r from(gr n l r).symm]
   refine .sl nn _ _ _ _ _ ((us.drop (dl l*ei.size)).take (nY n l r*ei.size)) (by simp only[TR,Ul,hlen]) (fun j d u hj hk=>?_) (fun u hu=>hone u (Wp (U1 hu))) ?_ hs ⟨?_,?_⟩ ?_ ?_
   ·rw[Un]at hj hk
    split at hj
    ·rename_i hlt
     rw[if_pos hlt,UM]at hk
     rw[UM]at hj
     exact hd _ _ _ hj hk
    ·cases hj
   ·rw[TR,Ul,hn];omega
   ·rw[gr];omega
   ·omega
   ·intro hnone
    have:ad=none:=by
     split at hnone
     ·exact hnone
     ·cases ad with|none=>rfl|some _=>cases hnone
    obtain⟨rfl,hnn⟩:=hnil this
    exact⟨by omega,hnn⟩
   ·by_cases hml:bg m c=dl l
    ·exact .inl (by rw[gr];omega)
    ·rw[if_neg hml]
     rcases hr with hr|⟨b,off,rfl,hb',ho',hcell⟩
     ·exact .inl (by rw[gr];omega)
     ·refine .inr ⟨b,off+dl l*ei.size,by simp only[WA,U8],hb',ho',fun j u hj=>?_⟩
      rw[Un]at hj
      split at hj
      ·rw[UM]at hj
       rw[UF];exact hcell _ u hj
      ·cases hj
 case h_3 e z1 z2 z3 z4 hti hx=>
  split at he
  case h_2=>exact he.elim
  case h_1 ei hei=>
  obtain⟨hb,rfl,rfl⟩:=he
  obtain⟨_,_,_,h1,h2,h3,_⟩:=fZ hb
  have hrx:=h.eval hx
  generalize hux:a.eval x=ux at hrx
  cases hrx
  have hbr:=fc (P:=P) h hl hh hm hb true 0 (TD _)
  have e0:dl l=0:=by omega
  have e1:bg m 0=0:=by omega
  have e2:bg r 0=0:=by omega
  rw[e0,e1,e2]at hbr
  refine .pure h (jJ hT ho hti hei hux hbr) ?_
  rw[if_pos rfl]
  exact .v _ rfl
 case h_4 z1 z2 z3 z4 b hti hx=>
  obtain⟨hc,rfl,rfl⟩:=he
  simp only[Tw,Xn]at hc
  obtain⟨⟨hb,rfl⟩,hmx⟩:=hc
  subst hmx
  have hrx:=h.eval hx
  generalize hux:a.eval x=ux at hrx
  cases hrx
  have hbr:=fc (P:=P) h hl hh hm hb false b.size (TD _)
  refine .pure h ?_ (.v _ rfl)
  unfold execOp
  simp only[YP]at hbr
  simp only[ho,hux,Yc,Instr.slice,TS,TT.underlying hT hti w,TE,YP,Option.isSome_none,Vh,if_false,TV,hbr]
 case h_5 len e z1 z2 z3 z4 k g off hti hx=>
  split at he
  case h_2=>exact he.elim
  case h_1 ei p hei hp=>
  obtain⟨hc,rfl,rfl⟩:=he
  obtain⟨g',blk⟩:=p
  simp only[Tw]at hc
  obtain⟨⟨⟨hb,hgg⟩,hle⟩,hmax⟩:=hc
  have e:g=g':=TB hgg
  subst e
  have hle:=TC hle
  have hmax:=TC hmax
  obtain⟨_,_,_,h1,h2,h3,_⟩:=fZ hb
  have hrx:=h.eval hx
  generalize hux:a.eval x=ux at hrx
  cases hrx with
  |ptr _ _ _ b hg hb2=>
  obtain⟨hlt,_,cur,fr,hcur,_,hcl,_,_⟩:=h.block hp hb2
  have hbr:=fc (P:=P) h hl hh hm hb false len (TD _)
  have hrun:(execOp a.eval o).run P w= .ok (.value (.slice (some (if bg m len=dl l then⟨b,off,none⟩else(⟨b,off,none⟩:Addr).add (dl l*ei.size))) (bg r len-dl l) (bg m len-dl l))) w:=by
   unfold execOp
   simp only[ho,hux,Yc,WJ,TS,TT.underlying hT hti w,TE,hbr,TT.sizeOf hT hei w,TV]
  refine .pure h hrun ?_
  rw[gr]
  by_cases hml:bg m len=dl l
  ·rw[if_pos hml]
   refine .ref k g _ _ _ _ b off _ _ hg hb2 ⟨by omega,by omega⟩ (.inr ⟨by omega,by omega⟩) (aN hcur) ?_
   have:bg m len-dl l=0:=by omega
   rw[this,Vd];omega
  ·rw[if_neg hml]
   simp only[U8]
   refine .ref k g _ _ _ _ b _ _ _ hg hb2 ⟨by omega,by omega⟩ (.inl rfl) (aN hcur) ?_
   rw[UF,←UN]
   have:dl l+(bg m len-dl l)≤len:=by omega
   exact T6 (X6 (Ur _ this) _) (by omega)
 case h_6=>exact he.elim
end
end Go.Vx

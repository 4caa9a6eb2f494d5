/- Part 1. -/
import Derived.WalkKit
import Derived.WalkSpells
import Derived.WalkLawsBesides
import Derived.Outline
import Derived.Lib.Hide
import Derived.Lib.SlBytesConst
import Derived.ProofKit
import Derived.OpenShut
import Derived.ShutString
import Derived.Below
import Derived.Deep.MidRow
import Derived.Deep.AppendLies
import Derived.Maps.AppendAt
import Derived.Laws.AppendOwnNone
import Derived.Deep.RegionHeld3
import Derived.Deep.QuietTactic
import Derived.BigQuiet
import Derived.Deep.DrawnRows
import Derived.CallsIn
import Derived.OrdersIn
import Derived.TacticsIn
import Derived.RangeFuncLeaves
import Derived.Deep.AppendSrc
import Derived.Deep.Upon
import Derived.Laws.IdiomCopy
import Derived.LoopNIn
import Derived.RangeFuncCalls
set_option linter.all false
set_option maxRecDepth 100000
set_option maxHeartbeats 4000000
open Array renaming ext' → Yl, foldl_toList → abb, getElem?_eq_getElem → XZ, getElem?_modify → ZM, getElem?_setIfInBounds_ne → XU, getElem?_setIfInBounds_self_of_lt → Zb, getElem?_toList → Yy, length_toList → Zj, range → aar, replicate → aag, toArray_toList → XP, toList_map → Yz
open BitVec renaming ofInt → Wq
open Bool renaming and_eq_true → Wh, false_eq_true → Ye, false_or → aa7, not_eq_true' → XX, or_eq_false_iff → Ze, or_eq_true → YR, true → Ga, false → Gd
open Go renaming underlying → Zm
open Go.Addr renaming add_mid → X5
open Go.Builtin renaming append_ → Zq, firstCells → Zs, len_ → aaE, nextslicecap → YB, zeroCells → YD
open Go.Deferred renaming ofValue → Zh
open Go.Instr renaming buildSlice → aax, fill → aba, indexAt → aa5, makeSlice → aaK, sliceAt → aa6, sliceBounds → Y8, sureAddr → ZI, typeAssert → abx
open Go.Op renaming bytesLess → aaD, equal → aac, equalIn → YF, intArith → YX, intBits → Zc, intCmp → ZP
open Go.Oper renaming semAt_eq → Zn
open Go.Result renaming andThen_ok → Wp
open Go.RowKit.Below renaming heap_alloc → Yt
open Go.Sem renaming run → ZX, run_bind → WF, run_ite → YK, run_pure → WK
open Go.Value renaming cells → aab, func → abd, int → Xq
open Go.World renaming cell?_of_block → aaP, putObj_heap_other → YE, putObj_heap_same → ZJ, setCells → aaO, shape? → aaj
open Int renaming eq_ofNat_of_zero_le → Xd, toNat_natCast → Ya, toNat_of_nonneg → Yk
open List renaming append_assoc → WI, drop_zero → XR, eq_nil_of_length_eq_zero → WY, foldlM_cons → abv, foldl_cons → aaf, getD_eq_getElem?_getD → Wd, getElem?_append_left → WO, getElem?_append_right → WJ, getElem?_cons_succ → XV, getElem?_cons_zero → YU, getElem?_drop → Xr, getElem?_eq_getElem → Wa, getElem?_eq_none → WL, getElem?_map → WB, getElem?_take → Xa, getElem?_toArray → aaM, getElem_mem → Xf, length_append → Wc, length_cons → WQ, length_drop → Wy, length_nil → Yi, length_take → Wi, mapM_cons → aaR, map_cons → XB, mem_cons_of_mem → WG, mem_cons_self → WH, mem_map → ZH, mem_of_getElem? → Xy, mem_of_mem_drop → YA, mem_of_mem_take → Xs, range → Xp, take_length → XF, zip_cons_cons → abc
open Nat renaming add_assoc → XW, add_le_add_left → aa1, add_mul → Xt, add_zero → X4, beq → V9, ble → Wf, ble_eq_true_of_le → We, blt → Yq, div → aaC, eq_of_beq_eq_true → Wk, eq_zero_or_pos → YP, land → aak, le_mul_of_pos_right → Zv, le_of_ble_eq_true → Wm, le_refl → Wl, le_trans → Ww, lt_of_lt_of_le → WX, lt_or_ge → WR, min → XL, mul_assoc → XS, mul_le_mul_right → W8, not_lt_zero → XN, pow_succ → XO, sub_self → Xz, zero_add → WE, zero_le → W5, zero_mul → XQ
open Ne renaming symm → ZG
open Option renaming isNone_iff_eq_none → aan, map_eq_some_iff → Xu, map_some → Zp, some → Ge, none → z9
open Decidable renaming decide → Ao
namespace Go
abbrev GB:=List Bool
end Go
namespace Go
abbrev Gw:=List Nat
end Go
namespace Go
abbrev Z4:=List UInt8
def ZF {c:Prop} {h:Decidable c} (hc:c) {α:Sort _} {t e:α}:ite c t e=t:=if_pos hc
def ZE {c:Prop} {h:Decidable c} (hc:¬c) {α:Sort _} {t e:α}:ite c t e=e:=if_neg hc
end Go
namespace Go.Bw
open Go.RowKit

def VV (w:World)(a:Option Addr)(cap n size:Nat)(cs:List Value):Prop:=
 cs.length=n*size/\n<=cap/\cap<=9223372036854775807/\(a=z9->cap=0)/\
 (n=0\/∃b off,a=Ge ⟨b,off,z9⟩/\b<w.heap.size/\∀i v,cs[i]? =Ge v->w.cell? ⟨b,off+i,z9⟩=Ge v)

def bv (x:UInt8):Value:=.int .u8 (x.toNat:Int)

def AF (w:World)(a:Option Addr)(cap:Nat)(bs:Z4):Prop:=VV w a cap bs.length 1 (bs.map bv)

def AF.nil (w:World):AF w z9 0 []:=⟨rfl,Wl _,by omega,λ _=>rfl,.inl rfl⟩

section
variable {P:Program}
end

def iL (n:Nat)(h:n<256):(UInt8.ofNat n).toNat=n:=by simp;omega

def Gives (w:World)(v:Value)(e:Ending)(w':World):Prop:=e= .returned v/\Below w.heap.size w w'

def dX (cs:Array Value):Nat->List Value->Array Value
 |_,[]=>cs
 |o,v::r=>dX (cs.setIfInBounds o v) (o+1) r
def gS:∀(vs:List Value) (o:Nat) (cs:Array Value),(dX cs o vs).size=cs.size
 |[],_,_=>rfl
 |v::r,o,cs=>by rw[dX,gS r];simp
def da (g:Nat):∀(vs:List Value) (o:Nat) (w:World),w.grownBy (w.setCells g o vs) (Ge g)/\(w.setCells g o vs).heap.size=w.heap.size
 |[],_,_=>⟨⟨rfl,rfl,rfl,Wl _,λ _ _ _=>rfl⟩,rfl⟩
 |v::r,o,w=>by
  obtain⟨h,hs⟩:=da g r (o+1) (w.setCell ⟨g,o,z9⟩ v);have hz:(w.setCell ⟨g,o,z9⟩ v).heap.size=w.heap.size:=by simp[World.setCell]
  refine⟨⟨h.os,h.tape,h.output,by rw[aaO,hs,hz];exact Wl _,λ k hk hkr=>?_⟩,by rw[aaO,hs,hz]⟩;have e:=h.block k (by omega) hkr;rw[aaO,e];exact heap_setCell_other w _ k v (λ e=>hkr (by rw[e]))
section
variable {P:Program}
end

def vg (w:World)(r:Option Nat):w.grownBy w r:=⟨rfl,rfl,rfl,Wl _,λ _ _ _=>rfl⟩
section
variable {P:Program}
end

def vh (bs:Z4):∀s:ByteArray,(bs.map λ x=>((x.toNat:Nat):Int)).foldl (λ r n=>r.push (UInt8.ofNat n.toNat)) s=⟨s.data++bs.toArray⟩:=by
 induction bs with
 |nil=>intro s;simp
 |cons x bs ih=>
  intro s;simp only[XB,aaf];rw[ih];simp[ByteArray.push]
end Go.Bw
namespace Go.Vx
inductive Tr (α:Type) where
 |e
 |n (l:Tr α) (v:Option α) (r:Tr α)
 deriving Inhabited
namespace Tr
variable {α:Type}
def get (t:Tr α):Nat->Option α:=
 match t with
 | .e=>λ _=>z9
 | .n l v r=>λ k=>bif V9 k 0 then v else bif V9 (aak k 1) 1 then l.get (aaC k 2)else r.get (aaC k 2-1)
def put (v:Option α):Nat->Nat->Tr α->Tr α
 |0,_,_=>.e
 |f+1,k,.e=>bif V9 k 0 then .n .e v .e else bif V9 (aak k 1) 1 then .n (put v f (aaC k 2) .e) z9 .e else .n .e z9 (put v f (aaC k 2-1) .e)
 |f+1,k,.n l x r=>bif V9 k 0 then .n l v r else bif V9 (aak k 1) 1 then .n (put v f (aaC k 2) l) x r else .n l x (put v f (aaC k 2-1) r)
def nz (k:Nat):V9 (aak k 1) 1=Ao (k%2=1):=by
 have:aak k 1=k%2:=Nat.and_one_is_mod k;rw[this];rcases Nat.mod_two_eq_zero_or_one k with h|h<;>rw[h]<;>rfl
def qF (a b:Nat):V9 a b=Ao (a=b):=by
 by_cases h:a=b
 ·subst h;simp
 ·cases hb:V9 a b with
  |false=>simp[h]
  |true=>exact absurd (Wk hb) h
def pD (k:Nat):(Tr.e:Tr α).get k=none:=rfl
def nA (l:Tr α)(v:Option α)(r:Tr α)(k:Nat):(Tr.n l v r).get k=if k=0 then v else if k%2=1 then l.get (k/2)else r.get (k/2-1):=by
 show(bif V9 k 0 then v else bif V9 (aak k 1) 1 then l.get (aaC k 2)else r.get (aaC k 2-1))=_;rw[nz,qF]
 by_cases h0:k=0
 ·simp[h0]
 ·by_cases h1:k%2=1<;>simp[h0,h1]<;>rfl
def MY (v:Option α)(f k:Nat):put v (f+1) k .e=if k=0 then .n .e v .e else if k%2=1 then .n (put v f (k/2) .e) z9 .e else .n .e z9 (put v f (k/2-1) .e):=by
 show(bif V9 k 0 then _ else bif V9 (aak k 1) 1 then _ else _)=_;rw[nz,qF]
 by_cases h0:k=0
 ·simp[h0]
 ·by_cases h1:k%2=1<;>simp[h0,h1]<;>rfl
def MZ (v:Option α)(f k:Nat)(l:Tr α)(x:Option α)(r:Tr α):put v (f+1) k (.n l x r)=if k=0 then .n l v r else if k%2=1 then .n (put v f (k/2) l) x r else .n l x (put v f (k/2-1) r):=by
 show(bif V9 k 0 then _ else bif V9 (aak k 1) 1 then _ else _)=_;rw[nz,qF]
 by_cases h0:k=0
 ·simp[h0]
 ·by_cases h1:k%2=1<;>simp[h0,h1]<;>rfl
def j6 (v:Option α):∀(f k:Nat) (t:Tr α) (c:Nat),k+1<2^f->(put v f k t).get c=if c=k then v else t.get c
 |0,k,t,c,h=>by simp at h
 |f+1,k,.e,c,h=>by
  have h2:2^(f+1)=2*2^f:=by rw[XO];omega
  rw[MY,pD]
  by_cases h0:k=0
  ·rw[ZF h0,nA];subst h0
   by_cases hc:c=0
   ·simp[hc]
   ·by_cases h1:c%2=1<;>simp[hc,h1,pD]
  ·rw[ZE h0]
   by_cases hk:k%2=1
   ·rw[ZF hk,nA]
    by_cases hc:c=0
    ·have:c≠k:=by omega
     simp[hc,ZG h0]
    ·by_cases h1:c%2=1
     ·rw[ZE hc,ZF h1,j6 v f (k/2) .e (c/2) (by omega),pD]
      by_cases e:c=k
      ·simp[e]
      ·rw[ZE e,ZE (by omega)]
     ·rw[ZE hc,ZE h1,pD,ZE (by omega)]
   ·rw[ZE hk,nA]
    by_cases hc:c=0
    ·simp[hc,ZG h0]
    ·by_cases h1:c%2=1
     ·rw[ZE hc,ZF h1,pD,ZE (by omega)]
     ·rw[ZE hc,ZE h1,j6 v f (k/2-1) .e (c/2-1) (by omega),pD]
      by_cases e:c=k
      ·simp[e]
      ·rw[ZE e,ZE (by omega)]
 |f+1,k,.n l x r,c,h=>by
  have h2:2^(f+1)=2*2^f:=by rw[XO];omega
  rw[MZ,nA]
  by_cases h0:k=0
  ·rw[ZF h0,nA];subst h0
   by_cases hc:c=0
   ·simp[hc]
   ·simp[hc]
  ·rw[ZE h0]
   by_cases hk:k%2=1
   ·rw[ZF hk,nA]
    by_cases hc:c=0
    ·simp[hc,ZG h0]
    ·by_cases h1:c%2=1
     ·rw[ZE hc,ZF h1,j6 v f (k/2) l (c/2) (by omega),ZE hc,ZF h1]
      by_cases e:c=k
      ·simp[e]
      ·rw[ZE e,ZE (by omega)]
     ·rw[ZE hc,ZE h1,ZE hc,ZE h1,ZE (by omega)]
   ·rw[ZE hk,nA]
    by_cases hc:c=0
    ·simp[hc,ZG h0]
    ·by_cases h1:c%2=1
     ·rw[ZE hc,ZF h1,ZE hc,ZF h1,ZE (by omega)]
     ·rw[ZE hc,ZE h1,j6 v f (k/2-1) r (c/2-1) (by omega),ZE hc,ZE h1]
      by_cases e:c=k
      ·simp[e]
      ·rw[ZE e,ZE (by omega)]
def okK (k:Nat):Bool:=Yq k 1152921504606846976
def ED {k:Nat}:okK k=Ga↔k<1152921504606846976:=by
 unfold okK;constructor
 ·intro h;have:=Wm h;omega
 ·intro h;exact We (by omega)
def set (t:Tr α)(k:Nat)(v:Option α):Tr α:=bif okK k then put v 61 k t else .e
def get_set (t:Tr α)(k:Nat)(v:Option α)(h:okK k=Ga)(c:Nat):(t.set k v).get c=if c=k then v else t.get c:=by
 unfold set;rw[h];refine j6 v 61 k t c ?_;have:=ED.1 h;have:(2:Nat)^61=2305843009213693952:=by decide
 omega
def of_set {t:Tr α}{k c:Nat}{v:Option α}{d:α}(h:(t.set k v).get c=Ge d):(c=k/\v=Ge d)\/(c≠k/\t.get c=Ge d):=by
 cases hk:okK k with
 |true=>
  rw[get_set t k v hk]at h
  by_cases e:c=k
  ·rw[ZF e]at h;exact .inl ⟨e,h⟩
  ·rw[ZE e]at h;exact .inr ⟨e,h⟩
 |false=>unfold set at h;rw[hk]at h;cases h
def ofL:List (Nat×α)->Tr α
 |[]=>.e
 |p::r=>(ofL r).set p.1 (Ge p.2)
def of_ofL {l:List (Nat×α)}{c:Nat}{d:α}(h:(ofL l).get c=Ge d):(c,d)∈l:=by
 induction l with
 |nil=>cases h
 |cons p r ih=>
  obtain⟨k,v⟩:=p;rcases of_set h with⟨rfl,hv⟩|⟨_,h⟩
  ·cases hv;exact WH
  ·exact WG _ (ih h)
end Tr
end Go.Vx
namespace Go.Vx
open Go.RowKit Go.Bw

inductive D
 |v (c:Value)
 |sl (nn:Bool) (n size:Nat) (cells:List D)
 |ref (k g off n sz:Nat)
 |ptr (k g off:Nat)
 |ep (cells:List D) (off:Nat)
 |agg (cs:List D)
 |tup (vs:List D)
 |ifc (t:TypeId) (x:D)
 |fn (f:Fn) (first cap:List D)
 |yl (k g:Nat)
 deriving Inhabited

abbrev GA:=List D
structure Blk where
 cells:GA
 elem:TypeId
 row:Bool
 deriving Inhabited
abbrev lM:=List Blk
structure LRec where
 st:LoopState
 pend:Option Code
 params:Array Tmp
 assign:Code
 body:Code
 nt:Nat
 tm:Tr D
 deriving Inhabited
inductive Ob where
 |b (x:Blk)
 |l (r:LRec)
 deriving Inhabited

structure AS where
 tm:Tr D
 hp:Tr (Nat×Ob)
 nx:Nat
 us:Gw:=[]
 deriving Inhabited

def AS.gat (s:AS)(k:Nat):Option (Nat×Ob):=s.hp.get k
def AS.at (s:AS)(k:Nat):Option (Nat×Blk):=
 match s.hp.get k with
 |some (g,.b x)=>Ge (g,x)
 |_=>z9
def AS.lat (s:AS)(k:Nat):Option (Nat×LRec):=
 match s.hp.get k with
 |some (g,.l r)=>Ge (g,r)
 |_=>z9
def AS.at_iff {s:AS}{k g:Nat}{b:Blk}:s.at k=Ge (g,b)↔s.gat k=Ge (g,.b b):=by
 unfold AS.at AS.gat;split
 ·rename_i h;rw[h];simp
 ·rename_i h
  constructor
  ·intro h';cases h'
  ·intro h';exact absurd h' (h _ _)
def AS.lat_iff {s:AS}{k g:Nat}{r:LRec}:s.lat k=Ge (g,r)↔s.gat k=Ge (g,.l r):=by
 unfold AS.lat AS.gat;split
 ·rename_i h;rw[h];simp
 ·rename_i h
  constructor
  ·intro h';cases h'
  ·intro h';exact absurd h' (h _ _)

structure Env where
 φ:Nat->Option Nat
 own:Nat->Prop
 nm:Nat->Prop

def fz:Nat:=9223372036854775807

def Env.cl (E:Env):Env:=⟨E.φ,E.own,λ _=>False⟩

inductive RD:Env->World->D->Value->Prop
 |v {E:Env} {w:World} (c:Value) (h:c.oneCell'=Ga):RD E w (.v c) c
 |sl {E:Env} {w:World} (nn:Bool) (n size:Nat) (cells:GA) (a:Option Addr) (c:Nat) (us:List Value) (hlen:us.length=cells.length)
   (hd:∀(i:Nat) d u,cells[i]? =Ge d->us[i]? =Ge u->RD E.cl w d u) (h1:∀u∈us,u.oneCell'=Ga)
   (hn:cells.length=n*size) (hs:0<size) (hc:n<=c/\c<=fz) (h0:a=z9->c=0/\nn=Gd)
   (hr:n=0\/∃b off,a=Ge ⟨b,off,z9⟩/\b<w.heap.size/\¬E.own b/\∀(i:Nat) u,us[i]? =Ge u->w.cell? ⟨b,off+i,z9⟩=Ge u):
   RD E w (.sl nn n size cells) (.slice a n c)
 |ref {E:Env} {w:World} (k g off n sz c b off':Nat) (t:TypeId) (m:Nat) (hg:E.nm g) (hb:E.φ g=Ge b) (hc:n<=c/\c<=fz) (ho:off'=off\/(n=0/\c=0)) (hs:w.shape? b=Ge (t,m)) (hm:off'+c*sz<=m):
   RD E w (.ref k g off n sz) (.slice (Ge ⟨b,off',z9⟩) n c)
 |refn {E:Env} {w:World} (k g sz:Nat) (hg:E.nm g) (hb:E.φ g=z9):RD E w (.ref k g 0 0 sz) (.slice z9 0 0)
 |ptr {E:Env} {w:World} (k g off b:Nat) (hg:E.nm g) (hb:E.φ g=Ge b):RD E w (.ptr k g off) (.pointer (Ge ⟨b,off,z9⟩))
 |ep {E:Env} {w:World} (cells:GA) (off b o:Nat) (us:List Value) (hlen:us.length=cells.length)
   (hd:∀(i:Nat) d u,cells[i]? =Ge d->us[i]? =Ge u->RD E.cl w d u) (h1:∀u∈us,u.oneCell'=Ga)
   (hb:b<w.heap.size) (ho:¬E.own b) (hr:∀(i:Nat) u,us[i]? =Ge u->w.cell? ⟨b,o+i,z9⟩=Ge u):
   RD E w (.ep cells off) (.pointer (Ge ⟨b,o+off,z9⟩))
 |agg {E:Env} {w:World} (cs:GA) (us:List Value) (hlen:us.length=cs.length) (hd:∀(i:Nat) d u,cs[i]? =Ge d->us[i]? =Ge u->RD E w d u) (h1:∀u∈us,u.oneCell'=Ga):
   RD E w (.agg cs) (.agg us.toArray)
 |tup {E:Env} {w:World} (cs:GA) (us:List Value) (hlen:us.length=cs.length) (hd:∀(i:Nat) d u,cs[i]? =Ge d->us[i]? =Ge u->RD E w d u):
   RD E w (.tup cs) (.tuple us.toArray)
 |ifc {E:Env} {w:World} (t:TypeId) (x:D) (u:Value) (h:RD E w x u):RD E w (.ifc t x) (.iface t u)
 |fn {E:Env} {w:World} (f:Fn) (fi ca:GA) (us vs:List Value) (hl1:us.length=fi.length) (hl2:vs.length=ca.length)
   (hd1:∀(i:Nat) d u,fi[i]? =Ge d->us[i]? =Ge u->RD E w d u) (hd2:∀(i:Nat) d u,ca[i]? =Ge d->vs[i]? =Ge u->RD E w d u):
   RD E w (.fn f fi ca) (.func f us.toArray vs.toArray)
 |yl {E:Env} {w:World} (k g b:Nat) (hg:E.nm g) (hb:E.φ g=Ge b):RD E w (.yl k g) (.func (.yield b) #[] #[])

structure Stp (E E':Env)(w w':World):Prop where
 nm:∀g,E.nm g->E'.nm g
 φ:∀g,E.nm g->E'.φ g=E.φ g
 size:w.heap.size<=w'.heap.size
 keep:∀b,b<w.heap.size->¬E.own b->¬E'.own b/\w'.heap[b]? =w.heap[b]?
 shape:∀b,b<w.heap.size->w'.shape? b=w.shape? b

def Stp.refl (E:Env)(w:World):Stp E E w w:=⟨λ _ h=>h,λ _ _=>rfl,Wl _,λ _ _ h=>⟨h,rfl⟩,λ _ _=>rfl⟩
def Stp.trans {E E' E'':Env}{w w' w'':World}(h:Stp E E' w w')(k:Stp E' E'' w' w''):Stp E E'' w w'':=
 ⟨λ g hg=>k.nm g (h.nm g hg),λ g hg=>(k.φ g (h.nm g hg)).trans (h.φ g hg),Ww h.size k.size,λ b hb ho=>by
  obtain⟨h1,h2⟩:=h.keep b hb ho;obtain⟨h3,h4⟩:=k.keep b (WX hb h.size) h1;exact⟨h3,h4.trans h2⟩,λ b hb=>(k.shape b (WX hb h.size)).trans (h.shape b hb)⟩

structure StpX (n:Nat)(E E':Env)(w w':World):Prop where
 nm:∀g,g<n->E.nm g->E'.nm g
 φ:∀g,g<n->E.nm g->E'.φ g=E.φ g
 size:w.heap.size<=w'.heap.size
 keep:∀b,b<w.heap.size->¬E.own b->¬E'.own b/\w'.heap[b]? =w.heap[b]?
 shape:∀b,b<w.heap.size->w'.shape? b=w.shape? b
def Stp.x {E E':Env}{w w':World}(h:Stp E E' w w')(n:Nat):StpX n E E' w w':=⟨λ g _ hg=>h.nm g hg,λ g _ hg=>h.φ g hg,h.size,h.keep,h.shape⟩
def StpX.full {n:Nat}{E E':Env}{w w':World}(h:StpX n E E' w w')(hn:∀g,E.nm g->g<n):Stp E E' w w':=⟨λ g hg=>h.nm g (hn g hg) hg,λ g hg=>h.φ g (hn g hg) hg,h.size,h.keep,h.shape⟩
def StpX.trans {n:Nat}{E E' E'':Env}{w w' w'':World}(h:StpX n E E' w w')(k:StpX n E' E'' w' w''):StpX n E E'' w w'':=
 ⟨λ g hn hg=>k.nm g hn (h.nm g hn hg),λ g hn hg=>(k.φ g hn (h.nm g hn hg)).trans (h.φ g hn hg),Ww h.size k.size,λ b hb ho=>by
  obtain⟨h1,h2⟩:=h.keep b hb ho;obtain⟨h3,h4⟩:=k.keep b (WX hb h.size) h1;exact⟨h3,h4.trans h2⟩,λ b hb=>(k.shape b (WX hb h.size)).trans (h.shape b hb)⟩

def Stp.cl {E E':Env}{w w':World}(h:Stp E E' w w'):Stp E.cl E'.cl w w':=⟨λ _ hg=>hg.elim,λ _ hg=>hg.elim,h.size,h.keep,h.shape⟩
def Stp.ofCl (E:Env)(w:World):Stp E.cl E w w:=⟨λ _ hg=>hg.elim,λ _ hg=>hg.elim,Wl _,λ _ _ h=>⟨h,rfl⟩,λ _ _=>rfl⟩

def RD.step {E E':Env}{w w':World}(hs:Stp E E' w w'){d:D}{u:Value}(h:RD E w d u):RD E' w' d u:=by
 induction h generalizing E' w' with
 |v c h=>exact .v c h
 |sl nn n size cells a c us hlen _ h1 hn hp hc h0 hr ih=>
  refine .sl nn n size cells a c us hlen (λ i d u a1 a2=>ih i d u a1 a2 hs.cl) h1 hn hp hc h0 ?_;rcases hr with h|⟨b,off,ha,hb,ho,hcell⟩
  ·exact .inl h
  ·obtain⟨ho',hk⟩:=hs.keep b hb ho
   exact .inr ⟨b,off,ha,WX hb hs.size,ho',λ i u hu=>(aaP (a:=⟨b,off+i,z9⟩) hk).trans (hcell i u hu)⟩
 |@ref E w k g off n sz c b off' t m hg hb hc ho hsh hm=>
  have hlt:b<w.heap.size:=by
   rcases WR b w.heap.size with h|h
   ·exact h
   ·rw[aaj,Array.getElem?_eq_none h]at hsh;cases hsh
  exact .ref k g off n sz c b off' t m (hs.nm _ hg) ((hs.φ g hg).trans hb) hc ho ((hs.shape b hlt).trans hsh) hm
 |refn k g sz hg hb=>exact .refn k g sz (hs.nm _ hg) ((hs.φ g hg).trans hb)
 |ptr k g off b hg hb=>exact .ptr k g off b (hs.nm _ hg) ((hs.φ g hg).trans hb)
 |ep cells off b o us hlen _ h1 hb ho hr ih=>
  obtain⟨ho',hk⟩:=hs.keep b hb ho;exact .ep cells off b o us hlen (λ i d u a1 a2=>ih i d u a1 a2 hs.cl) h1 (WX hb hs.size) ho' λ i u hu=>(aaP (a:=⟨b,o+i,z9⟩) hk).trans (hr i u hu)
 |agg cs us hlen _ h1 ih=>exact .agg cs us hlen (λ i d u a1 a2=>ih i d u a1 a2 hs) h1
 |tup cs us hlen _ ih=>exact .tup cs us hlen (λ i d u a1 a2=>ih i d u a1 a2 hs)
 |ifc t x u _ ih=>exact .ifc t x u (ih hs)
 |fn f fi ca us vs hl1 hl2 _ _ ih1 ih2=>exact .fn f fi ca us vs hl1 hl2 (λ i d u a1 a2=>ih1 i d u a1 a2 hs) (λ i d u a1 a2=>ih2 i d u a1 a2 hs)
 |yl k g b hg hb=>exact .yl k g b (hs.nm _ hg) ((hs.φ g hg).trans hb)
def RD.ofCl {E:Env}{w:World}{d:D}{u:Value}(h:RD E.cl w d u):RD E w d u:=h.step (Stp.ofCl E w)

def gx (fr:Nat×Nat)(n:Nat):Prop:=fr.1=fr.2\/n<=fr.1
def gx.zero (n:Nat):gx (0,0) n:=.inl rfl
def gx.no {fr:Nat×Nat}{n j:Nat}(h:gx fr n)(hj:j<n):(Ao (fr.1<=j)&&Ao (j<fr.2))=false:=by
 rcases h with h|h
 ·by_cases h1:fr.1<=j
  ·simp;omega
  ·simp[h1]
 ·simp;omega
def gx.more {fr:Nat×Nat}{n:Nat}(h:gx fr n):gx (if fr.1==fr.2 then(n,n+1)else(min fr.1 n,max fr.2 (n+1))) n:=by
 by_cases e:fr.1=fr.2
 ·rw[ZF (by simpa using e)];exact .inr (Wl _)
 ·rw[ZE (by simpa using e)]
  rcases h with h|h
  ·exact absurd h e
  ·refine .inr ?_
   show n<=min fr.1 n;omega

def HB (E:Env)(w:World)(g:Nat)(k:Blk):Prop:=
 E.nm g/\match E.φ g with
  |none=>k.cells=[]/\k.row=Ga
  |some b=>E.own b/\b<w.heap.size/\∃(cur:Array Value) (fr:Nat×Nat),w.heap[b]? =Ge (.cells cur k.elem fr)/\gx fr cur.size/\k.cells.length<=cur.size/\(k.row=Gd->cur.size=k.cells.length)/\
   (∀(i:Nat) d,k.cells[i]? =Ge d->∃u,cur[i]? =Ge u/\u.oneCell'=Ga/\RD E w d u)

def LB (E:Env)(w:World)(g:Nat)(r:LRec):Prop:=
 E.nm g/\∃(b:Nat) (L:Loop),E.φ g=Ge b/\E.own b/\b<w.heap.size/\w.heap[b]? =Ge (.loop L)/\L.state=r.st/\L.pending=r.pend/\L.params=r.params/\L.assign=r.assign/\L.body=r.body/\r.nt<=L.tmps.size/\
  (∀t d,r.tm.get t=Ge d->∃u,L.tmps[t]? =Ge u/\RD E w d u)

structure Fr (M:Nat->Prop)(w w':World):Prop where
 os:w'.os=w.os
 tape:w'.tape=w.tape
 output:w'.output=w.output
 size:w.heap.size<=w'.heap.size
 block:∀k,k<w.heap.size->¬M k->w'.heap[k]? =w.heap[k]?
 shape:∀k,k<w.heap.size->w'.shape? k=w.shape? k
def Fr.refl (M:Nat->Prop)(w:World):Fr M w w:=⟨rfl,rfl,rfl,Wl _,λ _ _ _=>rfl,λ _ _=>rfl⟩
def Fr.trans {M:Nat->Prop}{a b c:World}(h:Fr M a b)(k:Fr M b c):Fr M a c:=
 ⟨k.os.trans h.os,k.tape.trans h.tape,k.output.trans h.output,Ww h.size k.size,λ i hi hn=>(k.block i (WX hi h.size) hn).trans (h.block i hi hn),λ i hi=>(k.shape i (WX hi h.size)).trans (h.shape i hi)⟩
def Fr.mono {M M':Nat->Prop}{w w':World}(h:Fr M w w')(hM:∀x,M x->M' x):Fr M' w w':=⟨h.os,h.tape,h.output,h.size,λ k hk hn=>h.block k hk (λ hm=>hn (hM k hm)),h.shape⟩
def Fr.below {w w':World}(h:Fr (λ k=>w.heap.size<=k) w w'):Below w.heap.size w w':=⟨h.os,h.tape,h.output,h.size,λ k hk=>h.block k hk (by omega)⟩
def Fr.of_grown {M:Nat->Prop}{w w':World}{row:Option Nat}(hg:w.grownBy w' row)(hr:∀k,row=Ge k->M k)(hs:∀k,k<w.heap.size->w'.shape? k=w.shape? k):Fr M w w':=
 ⟨hg.os,hg.tape,hg.output,hg.size,λ k hk hn=>hg.block k hk (λ e=>hn (hr k e.symm)),hs⟩
def Fr.drew (M:Nat->Prop)(w:World):Fr M w w.drew:=⟨rfl,rfl,rfl,Wl _,λ _ _ _=>rfl,λ _ _=>rfl⟩

structure Cx where
 B:Nat
 w0:World
 nt:Nat
 O:Nat->Prop
 M:Nat->Prop
 hM:∀x,B<=x->M x
 xn:Nat
 hO:xn=0->∀x,O x->¬M x

def lY (B:Nat)(E:Env)(w:World)(ds:List Deferred):Prop:=
 ∃bs:Gw,ds=bs.map (λ b=>{target:=.collected b,args:=#[]})/\bs.Nodup/\∀b∈bs,B<=b/\E.own b/\w.heap[b]? =Ge (.deferred (Ge []))
def lY.nil (B:Nat)(E:Env)(w:World):lY B E w []:=⟨[],rfl,List.nodup_nil,λ b h=>by cases h⟩

def bu (s:AS)(φ:Nat->Option Nat)(x:Nat):Prop:=∃k g o,s.gat k=Ge (g,o)/\φ g=Ge x

structure SR (cx:Cx)(E:Env)(s:AS)(a:Act)(w:World):Prop where
 fr:∀t d,s.tm.get t=Ge d->∃u,a.tmps[t]? =Ge u/\RD E w d u
 sz:cx.nt<=a.tmps.size
 df:lY cx.B E w a.defers
 hp:∀k g b,s.at k=Ge (g,b)->HB E w g b
 lp:∀k g r,s.lat k=Ge (g,r)->LB E w g r
 inj:∀k k' g g' o o',k≠k'->s.gat k=Ge (g,o)->s.gat k'=Ge (g',o')->∀x,E.φ g=Ge x->E.φ g'≠Ge x
 lt:∀x,E.own x->x<w.heap.size
 low:∀x,bu s E.φ x->cx.M x
 base:∀x,cx.O x->E.own x
 bel:Fr cx.M cx.w0 w
 nm:∀g,E.nm g->g<s.nx\/∃i∈s.us,s.nx+8*i<=g/\g<s.nx+8*i+8
 szB:cx.B<=w.heap.size

def SR.kept {cx:Cx}{E:Env}{s:AS}{a:Act}{w:World}(h:SR cx E s a w){x:Nat}(hx:bu s E.φ x):E.own x/\x<w.heap.size/\((∃c t fr,w.heap[x]? =Ge (.cells c t fr))\/∃L,w.heap[x]? =Ge (.loop L)):=by
 obtain⟨k,g,o,hk,hx⟩:=hx
 cases o with
 |b b=>
  have:=(h.hp k g b (AS.at_iff.2 hk)).2;rw[hx]at this;obtain⟨h1,h2,cur,fr,h3,_⟩:=this;exact⟨h1,h2,.inl ⟨_,_,_,h3⟩⟩
 |l r=>
  obtain⟨_,b,L,h1,h2,h3,h4,_⟩:=h.lp k g r (AS.lat_iff.2 hk);rw[hx]at h1;cases h1;exact⟨h2,h3,.inr ⟨L,h4⟩⟩
def SR.own_of {cx:Cx}{E:Env}{s:AS}{a:Act}{w:World}(h:SR cx E s a w){x:Nat}(hx:bu s E.φ x):E.own x:=(h.kept hx).1
def SR.unmarked {cx:Cx}{E:Env}{s:AS}{a:Act}{w:World}(h:SR cx E s a w){x:Nat}(hx:w.heap[x]? =Ge (.deferred (Ge []))):¬bu s E.φ x:=by
 intro ho;obtain⟨_,_,⟨c,t,fr,h1⟩|⟨L,h1⟩⟩:=h.kept ho<;>rw[hx]at h1<;>cases h1

def bK:Value->D
 | .agg cs=>.agg (cs.toList.map .v)
 | .tuple cs=>.tup (cs.toList.map .v)
 |v=>.v v

def eF:Value->Bool
 | .agg cs=>cs.toList.all (·.oneCell')
 | .tuple cs=>cs.toList.all (·.oneCell')
 |_=>Ga

def RD.const (E:Env)(w:World)(v:Value)(h:eF v=Ga):RD E w (bK v) v:=by
 have key:∀(l:List Value),l.all (·.oneCell')=Ga->(l.length=(l.map D.v).length)/\(∀(i:Nat) d u,(l.map D.v)[i]? =Ge d->l[i]? =Ge u->RD E w d u)/\(∀u∈l,u.oneCell'=Ga):=by
  intro l hl;refine⟨by simp,λ i d u hd hu=>?_,λ u hu=>List.all_eq_true.1 hl u hu⟩;rw[WB,hu]at hd;simp at hd;subst hd;exact .v u (List.all_eq_true.1 hl u (Xy hu))
 cases v
 case agg cs=>obtain⟨h1,h2,h3⟩:=key cs.toList h;exact .agg _ _ h1 h2 h3
 case tuple cs=>obtain⟨h1,h2,h3⟩:=key cs.toList h;exact .tup _ _ h1 h2
 all_goals exact .v _ rfl

def eG (s:AS):Operand->Option D
 | .tmp t=>s.tm.get t
 | .const v=>if eF v then Ge (bK v)else z9
 | .global g=>Ge (.v (.pointer (Ge ⟨g,0,z9⟩)))
 | .func f=>Ge (.fn (.func f) [] [])

def SR.eval {cx:Cx}{E:Env}{s:AS}{a:Act}{w:World}(h:SR cx E s a w){x:Operand}{d:D}(hx:eG s x=Ge d):RD E w d (a.eval x):=by
 cases x with
 |tmp t=>
  obtain⟨u,hu,hr⟩:=h.fr t d hx;have:a.eval (.tmp t)=u:=by simp[Act.eval,hu]
  rw[this];exact hr
 |const v=>
  simp only[eG]at hx
  split at hx
  ·cases hx;exact RD.const E w v ‹_›
  ·cases hx
 |global g=>cases hx;exact .v _ rfl
 |func f=>cases hx;exact RD.fn (.func f) [] [] [] [] rfl rfl (by simp) (by simp)

def SR.put {cx:Cx}{E:Env}{s:AS}{a:Act}{w:World}(h:SR cx E s a w){t:Nat}(ht:t<cx.nt){d:D}{u:Value}(hd:RD E w d u):
  SR cx E {s with tm:=s.tm.set t (Ge d)} (a.put (Ge t) u) w:=by
 refine{h with fr:=λ t' d' hg=>?_,sz:=?_,df:=h.df}
 ·rcases Tr.of_set hg with⟨rfl,he⟩|⟨e,hg⟩
  ·cases he
   refine⟨u,?_,hd⟩;have:=h.sz;simp[Act.put,show t'<a.tmps.size by omega]
  ·obtain⟨u',hu',hr⟩:=h.fr t' d' hg
   exact⟨u',by simpa[Act.put,XU (ZG e)]using hu',hr⟩
 ·simpa[Act.put]using h.sz
def SR.unput {cx:Cx}{E:Env}{s:AS}{a:Act}{w:World}(h:SR cx E s a w){t:Nat}(u:Value):
  SR cx E {s with tm:=s.tm.set t z9} (a.put (Ge t) u) w:=by
 refine{h with fr:=λ t' d' hg=>?_,sz:=?_,df:=h.df}
 ·rcases Tr.of_set hg with⟨rfl,he⟩|⟨e,hg⟩
  ·cases he
  ·obtain⟨u',hu',hr⟩:=h.fr t' d' hg
   exact⟨u',by simpa[Act.put,XU (ZG e)]using hu',hr⟩
 ·simpa[Act.put]using h.sz

def HB.step {E E':Env}{w w':World}{g:Nat}{k:Blk}(h:HB E w g k)(hs:Stp E E' w w')(hb:∀b,E.φ g=Ge b->E'.own b/\w'.heap[b]? =w.heap[b]?):HB E' w' g k:=by
 obtain⟨h1,h2⟩:=h;refine⟨hs.nm g h1,?_⟩;rw[hs.φ g h1]
 cases hp:E.φ g with
 |none=>rw[hp]at h2;exact h2
 |some b=>
  rw[hp]at h2;obtain⟨_,hlt,cur,fr,hc,hfr,hl,hr,hcell⟩:=h2;obtain⟨ho,hk⟩:=hb b hp;refine⟨ho,WX hlt hs.size,cur,fr,hk.trans hc,hfr,hl,hr,λ i d hd=>?_⟩;obtain⟨u,hu,h1,hrd⟩:=hcell i d hd;exact⟨u,hu,h1,hrd.step hs⟩

def cz {w w':World}{b:Nat}(h:w'.heap[b]? =w.heap[b]?):w'.shape? b=w.shape? b:=by unfold aaj;rw[h]
def aO {w:World}{b:Nat}{cur:Array Value}{t:TypeId}{fr:Nat×Nat}(h:w.heap[b]? =Ge (.cells cur t fr)):w.shape? b=Ge (t,cur.size):=by unfold aaj;rw[h]

def LB.step {E E':Env}{w w':World}{g:Nat}{r:LRec}(h:LB E w g r)(hs:Stp E E' w w')(hb:∀b,E.φ g=Ge b->E'.own b/\w'.heap[b]? =w.heap[b]?):LB E' w' g r:=by
 obtain⟨h1,b,L,h2,h3,h4,h5,h6,h7,h8,h9,h10,h11,h12⟩:=h;obtain⟨ho,hk⟩:=hb b h2;refine⟨hs.nm g h1,b,L,(hs.φ g h1).trans h2,ho,WX h4 hs.size,hk.trans h5,h6,h7,h8,h9,h10,h11,λ t d hd=>?_⟩;obtain⟨u,hu,hr⟩:=h12 t d hd;exact⟨u,hu,hr.step hs⟩

def dV (E:Env)(s:AS)(φ:Nat->Option Nat)(x:Nat):Prop:=E.own x\/bu s φ x
structure Mut (s s':AS)(E E':Env)(w w':World):Prop where
 own:∀b,b<w.heap.size->E.own b->¬bu s E.φ b->E'.own b
 heap:∀b,b<w.heap.size->¬bu s E.φ b->w'.heap[b]? =w.heap[b]?
 old:∀x,x<w.heap.size->bu s' E'.φ x->bu s E.φ x
def Mut.refl (s:AS)(E:Env)(w:World):Mut s s E E w w:=⟨λ _ _ h _=>h,λ _ _ _=>rfl,λ _ _ h=>h⟩
def Mut.trans {s s' s'':AS}{E E' E'':Env}{w w' w'':World}(h:Mut s s' E E' w w')(k:Mut s' s'' E' E'' w' w'')(hz:w.heap.size<=w'.heap.size):Mut s s'' E E'' w w'':=
 ⟨λ b hz' hb hn=>k.own b (WX hz' hz) (h.own b hz' hb hn) (λ ho=>hn (h.old b hz' ho)),λ b hb hn=>(k.heap b (WX hb hz) λ ho=>hn (h.old b hb ho)).trans (h.heap b hb hn),λ x hx ho=>h.old x hx (k.old x (WX hx hz) ho)⟩

def lY.step {B:Nat}{E E':Env}{w w':World}{ds:List Deferred}(h:lY B E w ds)(hown:∀b,E.own b->w.heap[b]? =Ge (.deferred (Ge []))->E'.own b)(hk:∀b,E.own b->w.heap[b]? =Ge (.deferred (Ge []))->w'.heap[b]? =w.heap[b]?):lY B E' w' ds:=by
 obtain⟨bs,h1,h2,h3⟩:=h;refine⟨bs,h1,h2,λ b hb=>?_⟩;obtain⟨c1,c2,c3⟩:=h3 b hb;exact⟨c1,hown b c2 c3,(hk b c2 c3).trans c3⟩

def SR.turn {cx:Cx}{E:Env}{s s':AS}{a:Act}{w w':World}(h:SR cx E s a w)(φ':Nat->Option Nat)(nm':Nat->Prop)(htm:s'.tm=s.tm)
  (hs:Stp E ⟨φ',dV E s' φ',nm'⟩ w w') (hhp:∀k g b,s'.at k=Ge (g,b)->HB ⟨φ',dV E s' φ',nm'⟩ w' g b)
  (hlp:∀k g r,s'.lat k=Ge (g,r)->LB ⟨φ',dV E s' φ',nm'⟩ w' g r)
  (hinj:∀k k' g g' o o',k≠k'->s'.gat k=Ge (g,o)->s'.gat k'=Ge (g',o')->∀x,φ' g=Ge x->φ' g'≠Ge x)
  (hlow:∀x,bu s' φ' x->cx.M x) (hbel:Fr cx.M w w') (hnm:∀g,nm' g->g<s'.nx\/∃i∈s'.us,s'.nx+8*i<=g/\g<s'.nx+8*i+8)
  (hkeep:∀b,b<w.heap.size->¬bu s E.φ b->w'.heap[b]? =w.heap[b]?):
  SR cx ⟨φ',dV E s' φ',nm'⟩ s' a w':=
 {
  fr:=λ t d hd=>by rw[htm]at hd;obtain⟨u,hu,hr⟩:=h.fr t d hd;exact⟨u,hu,hr.step hs⟩
  sz:=h.sz
  df:=h.df.step (λ b hb _=>.inl hb) λ b hb hd=>hkeep b (h.lt b hb) (h.unmarked hd)
  hp:=hhp,lp:=hlp,inj:=hinj
  lt:=λ x hx=>by
   rcases hx with hx|⟨k,g,o,hk,hx⟩
   ·exact WX (h.lt x hx) hs.size
   ·cases o with
    |b b=>
     have:=(hhp k g b (AS.at_iff.2 hk)).2;have hx':(⟨φ',dV E s' φ',nm'⟩:Env).φ g=Ge x:=hx;rw[hx']at this;exact this.2.1
    |l r=>
     obtain⟨_,b,L,h1,_,h3,_⟩:=hlp k g r (AS.lat_iff.2 hk);have hx':(⟨φ',dV E s' φ',nm'⟩:Env).φ g=Ge x:=hx;rw[hx']at h1;cases h1;exact h3
  low:=λ x hx=>hlow x hx,base:=λ x hx=>.inl (h.base x hx),bel:=h.bel.trans hbel,nm:=hnm,szB:=Ww h.szB hs.size}


def cg (w:World)(o:Obj):(w.alloc o).heap[w.heap.size]? =Ge o:=heap_alloc_new w _

def AG (φ:Nat->Option Nat)(g:Nat)(x:Option Nat):Nat->Option Nat:=λ n=>if n=g then x else φ n
def bX (φ:Nat->Option Nat)(g:Nat)(x:Option Nat):AG φ g x g=x:=ZF rfl
def bm {φ:Nat->Option Nat}{g n:Nat}{x:Option Nat}(h:n≠g):AG φ g x n=φ n:=ZE h
def Env.add (E:Env)(s':AS)(g:Nat)(x:Option Nat):Env:=⟨AG E.φ g x,dV E s' (AG E.φ g x),λ n=>E.nm n\/n=g⟩

def OB (E:Env)(w:World)(g:Nat):Ob->Prop
 | .b b=>HB E w g b
 | .l r=>LB E w g r
def OB.nm {E:Env}{w:World}{g:Nat}{o:Ob}(h:OB E w g o):E.nm g:=by cases o<;>exact h.1
def SR.ob {cx:Cx}{E:Env}{s:AS}{a:Act}{w:World}(h:SR cx E s a w){k g:Nat}{o:Ob}(hk:s.gat k=Ge (g,o)):OB E w g o:=by
 cases o with
 |b b=>exact h.hp _ _ _ (AS.at_iff.2 hk)
 |l r=>exact h.lp _ _ _ (AS.lat_iff.2 hk)
def OB.step {E E':Env}{w w':World}{g:Nat}{o:Ob}(h:OB E w g o)(hs:Stp E E' w w')(hb:∀b,E.φ g=Ge b->E'.own b/\w'.heap[b]? =w.heap[b]?):OB E' w' g o:=by
 cases o with
 |b b=>exact HB.step h hs hb
 |l r=>exact LB.step h hs hb
def OB.lt {E:Env}{w:World}{g:Nat}{o:Ob}(h:OB E w g o){x:Nat}(hx:E.φ g=Ge x):x<w.heap.size:=by
 cases o with
 |b b=>have:=h.2;rw[hx]at this;exact this.2.1
 |l r=>obtain⟨_,b,L,h1,_,h3,_⟩:=h;rw[hx]at h1;cases h1;exact h3

def SR.newG {cx:Cx}{E:Env}{s:AS}{a:Act}{w:World}(h:SR cx E s a w){g ky i:Nat}(hi:i∉s.us)(hg:s.nx+8*i<=g/\g<s.nx+8*i+8)(o:Ob)(obj:Obj)
  (ho:∀E',Stp E E' w (w.alloc obj)->E'.nm g->E'.φ g=Ge w.heap.size->E'.own w.heap.size->OB E' (w.alloc obj) g o):
  let s':AS:={s with hp:=s.hp.set ky (Ge (g,o)),us:=i::s.us}
  let w':=w.alloc obj
  SR cx (E.add s' g (Ge w.heap.size)) s' a w'/\Stp E (E.add s' g (Ge w.heap.size)) w w'/\(E.add s' g (Ge w.heap.size)).nm g/\(E.add s' g (Ge w.heap.size)).φ g=Ge w.heap.size/\Mut s s' E (E.add s' g (Ge w.heap.size)) w w':=by
 intro s' w';have hfr:¬E.nm g:=λ hn=>by
  rcases h.nm g hn with h1|⟨j,hj,h1,h2⟩
  ·omega
  ·have:j=i:=by omega
   subst this;exact hi hj
 have hat:∀{k' g' o'},s'.gat k'=Ge (g',o')->(k'=ky/\g'=g/\o'=o)\/(k'≠ky/\s.gat k'=Ge (g',o')):=λ hk=>by
  rcases Tr.of_set hk with⟨e,hv⟩|⟨e,hk⟩
  ·cases hv;exact .inl ⟨e,rfl,rfl⟩
  ·exact .inr ⟨e,hk⟩
 have hne:∀{k g' o'},s.gat k=Ge (g',o')->g'≠g:=λ hk e=>by subst e;exact hfr (h.ob hk).nm
 have hlt:∀{k g' o' x},s.gat k=Ge (g',o')->E.φ g'=Ge x->x<w.heap.size:=λ hk hx=>(h.ob hk).lt hx
 have hsz:w'.heap.size=w.heap.size+1:=by simp[w']
 have hs:Stp E (E.add s' g (Ge w.heap.size)) w w':=by
  refine⟨λ x hx=>.inl hx,λ x hx=>?_,by omega,λ b hb ho=>⟨?_,Yt w _ b hb⟩,λ b hb=>cz (Yt w _ b hb)⟩
  ·exact bm (λ e=>by subst e;exact hfr hx)
  ·rintro(ho'|⟨k,g',o',hk,hx⟩)
   ·exact ho ho'
   ·rcases hat hk with⟨_,rfl,rfl⟩|⟨_,hk⟩
    ·rw[bX]at hx;cases hx;omega
    ·rw[bm (hne hk)]at hx
     exact ho (h.own_of ⟨k,g',o',hk,hx⟩)
 have hφg:(E.add s' g (Ge w.heap.size)).φ g=Ge w.heap.size:=bX _ _ _;have hold:∀{k g' o'},s'.gat k=Ge (g',o')->OB (E.add s' g (Ge w.heap.size)) w' g' o':=fun{k g' o'} hk=>by
  rcases hat hk with⟨rfl,rfl,rfl⟩|⟨_,hk0⟩
  ·exact ho _ hs (.inr rfl) hφg (.inr ⟨_,_,_,hk,hφg⟩)
  ·refine(h.ob hk0).step hs λ b hb=>⟨.inr ⟨k,g',o',hk,(bm (hne hk0)).trans hb⟩,Yt w _ b (hlt hk0 hb)⟩
 have hmut:Mut s s' E (E.add s' g (Ge w.heap.size)) w w':=⟨λ b _ hb _=>.inl hb,λ b hb _=>Yt w _ b hb,λ x hlt' ⟨k,g',o',hk,hx⟩=>by
  have hx:AG E.φ g (Ge w.heap.size) g'=Ge x:=hx;rcases hat hk with⟨_,e5,_⟩|⟨_,hk⟩
  ·subst e5;rw[bX]at hx;cases hx;omega
  ·rw[bm (hne hk)]at hx
   exact⟨k,g',o',hk,hx⟩⟩
 refine⟨h.turn _ _ rfl hs (λ k g' b hk=>hold (AS.at_iff.1 hk)) (λ k g' r hk=>hold (AS.lat_iff.1 hk)) ?_ ?_ ?_ ?_ hmut.heap,hs,.inr rfl,hφg,hmut⟩
 ·intro k k' g1 g2 o1 o2 hkk h1 h2 x hx1 hx2
  have key:∀{k g' o'},s.gat k=Ge (g',o')->AG E.φ g (Ge w.heap.size) g'=Ge x->E.φ g'=Ge x/\x<w.heap.size:=λ hk hx=>by
   rw[bm (hne hk)]at hx;exact⟨hx,hlt hk hx⟩
  rcases hat h1 with⟨e1,e3,e4⟩|⟨_,a1⟩<;>rcases hat h2 with⟨e2,e5,e6⟩|⟨_,a2⟩
  ·omega
  ·subst e3;rw[bX]at hx1;cases hx1
   have:=(key a2 hx2).2;omega
  ·subst e5;rw[bX]at hx2;cases hx2
   have:=(key a1 hx1).2;omega
  ·exact h.inj k k' g1 g2 o1 o2 hkk a1 a2 x (key a1 hx1).1 (key a2 hx2).1
 ·rintro x ⟨k,g',o',hk,hx⟩
  have hx:AG E.φ g (Ge w.heap.size) g'=Ge x:=hx;rcases hat hk with⟨_,e5,_⟩|⟨_,hk⟩
  ·subst e5;rw[bX]at hx;cases hx
   exact cx.hM _ h.szB
  ·rw[bm (hne hk)]at hx
   exact h.low x ⟨k,g',o',hk,hx⟩
 ·exact⟨rfl,rfl,rfl,by omega,λ k hk _=>Yt w _ k hk,hs.shape⟩
 ·rintro n (hn|rfl)
  ·rcases h.nm n hn with h1|⟨j,hj,h1⟩
   ·exact .inl h1
   ·exact .inr ⟨j,WG _ hj,h1⟩
  ·exact .inr ⟨i,WH,hg⟩

def SR.new {cx:Cx}{E:Env}{s:AS}{a:Act}{w:World}(h:SR cx E s a w){g ky i:Nat}(hi:i∉s.us)(hg:s.nx+8*i<=g/\g<s.nx+8*i+8)(elem:TypeId)(cs:GA)(us:List Value)(row:Bool)(fr:Nat×Nat)(hfz:gx fr us.length)
  (hlen:cs.length<=us.length) (hrow:row=Gd->us.length=cs.length) (hd:∀(j:Nat) d,cs[j]? =Ge d->∃u,us[j]? =Ge u/\u.oneCell'=Ga/\RD E w d u):
  let s':AS:={s with hp:=s.hp.set ky (Ge (g,.b ⟨cs,elem,row⟩)),us:=i::s.us}
  let w':=w.alloc (.cells us.toArray elem fr)
  SR cx (E.add s' g (Ge w.heap.size)) s' a w'/\Stp E (E.add s' g (Ge w.heap.size)) w w'/\(E.add s' g (Ge w.heap.size)).nm g/\(E.add s' g (Ge w.heap.size)).φ g=Ge w.heap.size/\Mut s s' E (E.add s' g (Ge w.heap.size)) w w':=by
 refine h.newG hi hg (.b ⟨cs,elem,row⟩) (.cells us.toArray elem fr) λ E' hs hn hp ho=>?_
 refine⟨hn,?_⟩;rw[hp];refine⟨ho,by simp,us.toArray,fr,cg w _,by simpa using hfz,by simpa using hlen,λ hr=>by simpa using hrow hr,λ j d hj=>?_⟩;obtain⟨u,hu,h1,hr⟩:=hd j d hj;exact⟨u,by simpa using hu,h1,hr.step hs⟩

def ac (cells:GA)(off:Nat)(ds:GA):GA:=cells.take off++ds++cells.drop (off+ds.length)

def dH {cells:GA}{off:Nat}{ds:GA}(h:off+ds.length<=cells.length):(ac cells off ds).length=cells.length:=by
 simp[ac];omega
def ck {cells:GA}{off:Nat}{ds:GA}(h:off+ds.length<=cells.length)(i:Nat):
  (ac cells off ds)[i]? =if off<=i/\i<off+ds.length then ds[i-off]? else cells[i]?:=by
 unfold ac
 by_cases h1:i<off
 ·rw[ZE (by omega),WI,WO (by simp;omega),Xa,ZF h1]
 ·by_cases h2:i<off+ds.length
  ·rw[ZF ⟨by omega,h2⟩,WI,WJ (by simp;omega),WO (by simp;omega)]
   congr 1;simp;omega
  ·rw[ZE (by omega),WI,WJ (by simp;omega),WJ (by simp;omega),Xr]
   congr 1;simp;omega

def SR.storeG {cx:Cx}{E:Env}{s:AS}{a:Act}{w w':World}(h:SR cx E s a w){k g i b:Nat}{o o':Ob}(hk:s.gat k=Ge (g,o))(hb:E.φ g=Ge b)(us:Gw)(hus:s.us ⊆ us)
  (hg:w.grownBy w' (Ge b)) (hz:w'.heap.size=w.heap.size) (hsh:w'.shape? b=w.shape? b)
  (ho:∀E':Env,Stp E E' w w'->(∀x,E.nm x->E'.nm x)->E'.φ=E.φ->E'.own b->OB E' w' g o'):
  let s':AS:={s with hp:=s.hp.set k (Ge (g,o')),us:=us}
  SR cx ⟨E.φ,dV E s' E.φ,E.nm⟩ s' a w'/\Stp E ⟨E.φ,dV E s' E.φ,E.nm⟩ w w'/\Mut s s' E ⟨E.φ,dV E s' E.φ,E.nm⟩ w w':=by
 intro s';have hat:∀{k' g' o''},s'.gat k'=Ge (g',o'')->(k'=k/\g'=g/\o''=o')\/(k'≠k/\s.gat k'=Ge (g',o'')):=λ hk=>by
  rcases Tr.of_set hk with⟨e,hv⟩|⟨e,hk⟩
  ·cases hv;exact .inl ⟨e,rfl,rfl⟩
  ·exact .inr ⟨e,hk⟩
 have hown:E.own b:=h.own_of ⟨k,g,o,hk,hb⟩;have hs:Stp E ⟨E.φ,dV E s' E.φ,E.nm⟩ w w':=by
  refine⟨λ x hx=>hx,λ x hx=>rfl,by omega,λ x hx hno=>⟨?_,hg.block x hx (λ e=>by cases e;exact hno hown)⟩,λ x hx=>?_⟩
  rotate_left
  ·by_cases e:x=b
   ·subst e;exact hsh
   ·exact cz (hg.block x hx (λ e2=>by cases e2;exact e rfl))
  rintro(ho'|⟨k',g',o'',hk',hx'⟩)
  ·exact hno ho'
  ·rcases hat hk' with⟨_,rfl,rfl⟩|⟨_,hk'⟩
   ·exact hno (h.own_of ⟨k,_,o,hk,hx'⟩)
   ·exact hno (h.own_of ⟨k',g',o'',hk',hx'⟩)
 have hmut:Mut s s' E ⟨E.φ,dV E s' E.φ,E.nm⟩ w w':=⟨λ b _ hb _=>.inl hb,λ x hx hno=>hg.block x hx (λ e=>by cases e;exact hno ⟨k,g,o,hk,hb⟩),λ x hlt' ⟨k',g',o'',hk',hx⟩=>by
  rcases hat hk' with⟨_,rfl,rfl⟩|⟨_,hk'⟩
  ·exact⟨k,_,o,hk,hx⟩
  ·exact⟨k',g',o'',hk',hx⟩⟩
 have hold:∀{k' g' o''},s'.gat k'=Ge (g',o'')->OB ⟨E.φ,dV E s' E.φ,E.nm⟩ w' g' o'':=fun{k' g' o''} hk'=>by
  rcases hat hk' with⟨rfl,rfl,rfl⟩|⟨e,hk0⟩
  ·exact ho _ hs (λ x hx=>hx) rfl (.inl hown)
  ·refine(h.ob hk0).step hs λ x hx=>⟨.inr ⟨k',g',o'',hk',hx⟩,?_⟩
   exact hg.block x ((h.ob hk0).lt hx) (λ e2=>by cases e2;exact h.inj k k' g g' o o'' (ZG e) hk hk0 _ hb hx)
 refine⟨h.turn _ _ rfl hs (λ k g' b hk=>hold (AS.at_iff.1 hk)) (λ k g' r hk=>hold (AS.lat_iff.1 hk)) ?_ ?_ ?_ ?_ hmut.heap,hs,hmut⟩
 ·intro k1 k2 g1 g2 o1 o2 hkk h1 h2 x hx1 hx2
  have key:∀{k0 g0 o0},s'.gat k0=Ge (g0,o0)->∃o3,s.gat k0=Ge (g0,o3):=fun{k0 g0 o0} hh=>by
   rcases hat hh with⟨rfl,rfl,rfl⟩|⟨_,hh⟩
   ·exact⟨o,hk⟩
   ·exact⟨_,hh⟩
  obtain⟨o3,h3⟩:=key h1;obtain⟨o4,h4⟩:=key h2;exact h.inj k1 k2 g1 g2 o3 o4 hkk h3 h4 x hx1 hx2
 ·rintro x ⟨k',g',o'',hk',hx⟩
  rcases hat hk' with⟨rfl,rfl,rfl⟩|⟨_,hk'⟩
  ·exact h.low x ⟨_,_,o,hk,hx⟩
  ·exact h.low x ⟨k',g',o'',hk',hx⟩
 ·exact Fr.of_grown hg (λ x e=>by cases e;exact h.low b ⟨k,g,o,hk,hb⟩) hs.shape
 ·intro n hn
  rcases h.nm n hn with h1|⟨j,hj,h1⟩
  ·exact .inl h1
  ·exact .inr ⟨j,hus hj,h1⟩

def SR.store {cx:Cx}{E:Env}{s:AS}{a:Act}{w w':World}(h:SR cx E s a w){k g i b:Nat}{blk:Blk}(hk:s.at k=Ge (g,blk))(hb:E.φ g=Ge b)(cells':GA)(hl:cells'.length=blk.cells.length)
  (hg:w.grownBy w' (Ge b)) (hz:w'.heap.size=w.heap.size) (cur cur':Array Value) (fr:Nat×Nat) (hcur:w.heap[b]? =Ge (.cells cur blk.elem fr)) (hcur':w'.heap[b]? =Ge (.cells cur' blk.elem fr)) (hsz:cur'.size=cur.size)
  (hd:∀(j:Nat) d,cells'[j]? =Ge d->∃u,cur'[j]? =Ge u/\u.oneCell'=Ga/\RD E w d u):
  let s':AS:={s with hp:=s.hp.set k (Ge (g,.b ⟨cells',blk.elem,blk.row⟩)),us:=i::s.us}
  SR cx ⟨E.φ,dV E s' E.φ,E.nm⟩ s' a w'/\Stp E ⟨E.φ,dV E s' E.φ,E.nm⟩ w w'/\Mut s s' E ⟨E.φ,dV E s' E.φ,E.nm⟩ w w':=by
 have hbk:=h.hp k g blk hk;have hbm:=hbk.2;rw[hb]at hbm;obtain⟨hown,hlt,cur0,fr0,hcur0,hfz,hle,hrow,_⟩:=hbm;rw[hcur]at hcur0;cases hcur0;refine h.storeG (i:=i) (o':= .b ⟨cells',blk.elem,blk.row⟩) (AS.at_iff.1 hk) hb (i::s.us) (λ x hx=>WG _ hx) hg hz (by rw[aO hcur,aO hcur',hsz]) λ E' hs hn hp ho=>?_
 refine⟨hn _ hbk.1,?_⟩;rw[hp,hb];refine⟨ho,by omega,cur',fr,hcur',by rw[hsz];exact hfz,by simp only;omega,λ hr=>by simp only;rw[hsz,hrow hr,hl],λ j d hj=>?_⟩;obtain⟨u,hu,h1,hr⟩:=hd j d hj;exact⟨u,hu,h1,hr.step hs⟩


structure TI where
 desc:TypeDesc
 zero:Value
 size:Nat
 bytes:Nat
 plain:Bool
abbrev TT:=Tr TI
def TT.ok (P:Program)(T:TT):Prop:=∀t i,T.get t=Ge i->P.underlying t=Ge i.desc/\i.zero.cells.size=i.size/\(∃j,P.info? t=Ge j/\j.zero=Ge i.zero/\j.size=i.size/\j.bytes=i.bytes)/\(i.plain=Ga->P.stoodInHeld t=Gd/\P.eqGuardType P.depth t=Gd/\∀fs,i.desc= .struct fs->fs.toList.all (λ f=>f.name != "_")=Ga)

abbrev Up:=List (Nat×Option (Nat×Ob))
def fU:Up->Tr (Nat×Ob)->Tr (Nat×Ob)
 |[],h=>h
 |p::r,h=>(fU r h).set p.1 p.2

def dB (b:UInt8):D:=.v (.int .u8 (b.toNat:Int))
inductive Ev
 |ok (v:Option D) (up:Up)
 |cond (b:Bool) (k:Ev)
 |opt (o:Option D) (k:D->Ev)
 |bytes (cells:GA) (k:Z4->Ev)
 |list (cells:GA) (k:GA->Ev)
 |stuck

def Ev.run:Ev->Option D->Up->Prop
 | .ok v u,v',u'=>v'=v/\u'=u
 | .cond b k,v',u'=>b=Ga/\k.run v' u'
 | .opt o k,v',u'=>∃d,o=Ge d/\(k d).run v' u'
 | .bytes cs k,v',u'=>∃bs,cs=bs.map dB/\(k bs).run v' u'
 | .list cs k,v',u'=>(k cs).run v' u'
 | .stuck,_,_=>False

def cj (P:Program)(cx:Cx)(E:Env)(s:AS)(a:Act)(w:World)(i:Nat)(o:Oper)(v:Option D)(up:Up):Prop:=
 ∃E' w',Stp E E' w w'/\SR cx E' {s with hp:=fU up s.hp,us:=i::s.us} a w'/\Mut s {s with hp:=fU up s.hp,us:=i::s.us} E E' w w'/\
  match v with
  |some d=>∃u,(execOp a.eval o).run P w= .ok (.value u) w'/\RD E' w' d u
  |none=>(execOp a.eval o).run P w= .ok .skip w'

def SR.us {cx:Cx}{E:Env}{s:AS}{a:Act}{w:World}(h:SR cx E s a w)(i:Nat):SR cx E {s with us:=i::s.us} a w:=
 {h with nm:=λ g hg=>(h.nm g hg).imp id fun⟨j,hj,h1⟩=>⟨j,WG _ hj,h1⟩}

section
variable {P:Program} {cx:Cx} {E:Env} {s:AS} {a:Act} {w:World} {i:Nat} {o:Oper} {T:TT}

def cj.pure (h:SR cx E s a w){d:D}{u:Value}(hr:(execOp a.eval o).run P w= .ok (.value u) w)(hd:RD E w d u):cj P cx E s a w i o (Ge d) []:=
 ⟨E,w,Stp.refl E w,h.us i,⟨λ _ _ h _=>h,λ _ _ _=>rfl,λ _ _ h=>h⟩,u,hr,hd⟩

def Vw (E:Env)(w:World)(b o:Nat)(cells:GA):Prop:=∀(j:Nat) d,cells[j]? =Ge d->∃u,w.cell? ⟨b,o+j,z9⟩=Ge u/\u.oneCell'=Ga/\RD E w d u

def kZ (s:AS):D->Option (Bool×GA×Nat)
 | .ptr k g off=>match s.at k with
  |some p=>Ge (V9 g p.1,p.2.cells,off)
  |none=>z9
 | .ep cells off=>Ge (Ga,cells,off)
 |_=>z9

def SR.block (h:SR cx E s a w){k g:Nat}{blk:Blk}(hk:s.at k=Ge (g,blk)){b:Nat}(hb:E.φ g=Ge b):
  b<w.heap.size/\E.own b/\∃(cur:Array Value) (fr:Nat×Nat),w.heap[b]? =Ge (.cells cur blk.elem fr)/\gx fr cur.size/\blk.cells.length<=cur.size/\(blk.row=Gd->cur.size=blk.cells.length)/\
   (∀(j:Nat) d,blk.cells[j]? =Ge d->∃u,cur[j]? =Ge u/\u.oneCell'=Ga/\RD E w d u):=by
 have:=(h.hp k g blk hk).2;rw[hb]at this;exact⟨this.2.1,this.1,this.2.2⟩

def nB (h:SR cx E s a w){d:D}{u:Value}(hd:RD E w d u){c:Bool}{cells:GA}{off:Nat}(hv:kZ s d=Ge (c,cells,off))(hc:c=Ga):
  ∃b o,u= .pointer (Ge ⟨b,o+off,z9⟩)/\Vw E w b o cells:=by
 cases d<;>simp only[kZ]at hv<;>try cases hv
 case ptr k g off'=>
  cases hk:s.at k with
  |none=>rw[hk]at hv;cases hv
  |some p=>
   rw[hk]at hv;obtain⟨g',blk⟩:=p
   cases hv
   have e:g=g':=Wk hc;subst e
   cases hd with
   |ptr _ _ _ b hg hb=>
    obtain⟨hlt,_,cur,fr,hcur,_,hl,_,hcell⟩:=h.block hk hb;refine⟨b,0,by rw[WE],λ j d hj=>?_⟩;obtain⟨u,hu,h1,hr⟩:=hcell j d hj;exact⟨u,by rw[WE,cell_of_row w b j cur blk.elem fr hcur];exact hu,h1,hr⟩
 case ep=>
  cases hd with
  |ep _ _ b o us hlen hd h1 hb ho hr=>
   refine⟨b,o,rfl,λ j d hj=>?_⟩;have hlt:j<us.length:=by
    rw[hlen];exact(List.getElem?_eq_some_iff.1 hj).1
   exact⟨us[j],hr j _ (Wa hlt),h1 _ (Xf hlt),(hd j d _ hj (Wa hlt)).ofCl⟩

def Vw.seg {b o:Nat}{cells:GA}(h:Vw E w b o cells){off m:Nat}(hm:off+m<=cells.length):
  ∃us:List Value,us.length=m/\w.rangeAt b (o+off) us/\(∀u∈us,u.oneCell'=Ga)/\∀(j:Nat) d u,((cells.drop off).take m)[j]? =Ge d->us[j]? =Ge u->RD E w d u:=by
 have key:∀j,j<m->∃u,w.cell? ⟨b,o+off+j,z9⟩=Ge u/\u.oneCell'=Ga/\RD E w (cells.getD (off+j) default) u:=λ j hj=>by
  have hlt:off+j<cells.length:=by omega
  obtain⟨u,hu,h1,hr⟩:=h (off+j) cells[off+j] (Wa hlt);exact⟨u,by rw[XW];exact hu,h1,by rw[Wd,Wa hlt];exact hr⟩
 have hget:∀j,j<m->((Xp m).map λ j=>(w.cell? ⟨b,o+off+j,z9⟩).getD undef)[j]? =Ge ((w.cell? ⟨b,o+off+j,z9⟩).getD undef):=λ j hj=>by
  rw[WB,List.getElem?_range hj];rfl
 refine⟨(Xp m).map λ j=>(w.cell? ⟨b,o+off+j,z9⟩).getD undef,by simp,λ j v hv=>?_,λ u hu=>?_,λ j d u hd hu=>?_⟩
 ·have hj:j<m:=by have:=(List.getElem?_eq_some_iff.1 hv).1;simpa using this
  rw[hget j hj]at hv;obtain⟨u,hu,_⟩:=key j hj;rw[hu]at hv;cases hv;exact hu
 ·simp only[ZH,List.mem_range]at hu
  obtain⟨j,hj,rfl⟩:=hu;obtain⟨u,hu,h1,_⟩:=key j hj;rw[hu];exact h1
 ·have hj:j<m:=by
   have:=(List.getElem?_eq_some_iff.1 hu).1;simpa using this
  rw[hget j hj]at hu;obtain⟨u',hu',_,hr⟩:=key j hj;rw[hu']at hu;cases hu;rw[Xa,ZF hj,Xr]at hd;rw[Wd,hd]at hr;exact hr

def TT.info (hT:T.ok P){t:TypeId}{ti:TI}(ht:T.get t=Ge ti):P.underlying t=Ge ti.desc/\(P.info? t).map (·.size)=Ge ti.size:=by
 obtain⟨h1,_,⟨j,h2,h3,h4,h5⟩,_⟩:=hT t ti ht;exact⟨h1,by rw[h2];simp[h4]⟩
def TT.sizeOf (hT:T.ok P){t:TypeId}{ti:TI}(ht:T.get t=Ge ti)(w:World):(sizeOf t).run P w= .ok ti.size w:=by
 obtain⟨h1,_,⟨j,h2,h3,h4,h5⟩,_⟩:=hT t ti ht;simp[Go.sizeOf,typeInfo,h2,h4]
def TT.zeroValue (hT:T.ok P){t:TypeId}{ti:TI}(ht:T.get t=Ge ti)(w:World):(zeroValue t).run P w= .ok ti.zero w:=by
 obtain⟨h1,_,⟨j,h2,h3,h4,h5⟩,_⟩:=hT t ti ht;simp[Go.zeroValue,typeInfo,h2,h3]
def TT.underlying (hT:T.ok P){t:TypeId}{ti:TI}(ht:T.get t=Ge ti)(w:World):(Zm t).run P w= .ok ti.desc w:=run_underlying (hT t ti ht).1 w
def gy (hT:T.ok P){t:TypeId}{ti:TI}(ht:T.get t=Ge ti)(w:World):(isAgg t).run P w= .ok ti.desc.isRow w:=by
 unfold isAgg;rw[WF,TT.underlying hT ht w]
 cases ti.desc<;>rfl

def mK (ti:TI)(cells:GA)(off:Nat):Ev:=
 bif ti.desc.isRow then .cond (Wf (off+ti.size) cells.length) (.list ((cells.drop off).take ti.size) λ cs=>.ok (Ge (.agg cs)) [])
 else .opt cells[off]? λ d=>.ok (Ge d) []
def gT (T:TT)(s:AS)(t:TypeId)(x:Operand):Ev:=
 match T.get t,eG s x with
 |some ti,Ge d=>match kZ s d with
  |some p=>.cond p.1 (mK ti p.2.1 p.2.2)
  |none=>.stuck
 |_,_=>.stuck

def nC (hT:T.ok P)(h:SR cx E s a w){t:TypeId}{x:Operand}(ho:o.op= .load t x){v:Option D}{up:Up}(he:(gT T s t x).run v up):cj P cx E s a w i o v up:=by
 unfold gT at he
 split at he
 case h_2=>exact he.elim
 case h_1 ti d hti hx=>
 split at he
 case h_2=>exact he.elim
 case h_1 p hp=>
 obtain⟨c,cells,off⟩:=p;obtain⟨hc,he⟩:=he;obtain⟨b,ob,hu,hv⟩:=nB h (h.eval hx) hp hc;have hrun:(execOp a.eval o).run P w=((loadVar t ⟨b,ob+off,z9⟩).run P w).andThen λ u w'=> .ok (.value u) w':=by
  unfold execOp;simp only[ho,hu,Instr.loadAt,ZI,WF,WK,Wp]
 unfold mK at he
 cases hrow:ti.desc.isRow with
 |true=>
  simp only[hrow,cond_true]at he;obtain⟨hle,rfl,rfl⟩:=he;obtain⟨us,hl,hrg,h1,hd⟩:=hv.seg (Wm hle);refine .pure h (u:=.agg us.toArray) ?_ (.agg _ _ (by have:=Wm hle;simp[hl];omega) hd h1);rw[hrun,run_loadVar_mid w b _ t us ti.desc hrg (TT.info hT hti).1 hrow (by rw[(TT.info hT hti).2,hl])];rfl
 |false=>
  simp only[hrow,cond_false]at he;obtain⟨d',hd',rfl,rfl⟩:=he;obtain⟨u,hu,h1,hr⟩:=hv off d' hd';refine .pure h (u:=u) ?_ hr;rw[hrun];have:(loadVar t ⟨b,ob+off,z9⟩).run P w= .ok u w:=by
   simp only[loadVar,WF,gy hT hti w,Wp,hrow,Ye,if_false];simp[Go.load,ZX,hu]
  rw[this];rfl

def D.cells:D->GA
 | .agg cs=>cs
 |d=>[d]
def D.isTup:D->Bool
 | .tup _=>Ga
 |_=>Gd

def RD.cellsOf {d:D}{u:Value}(h:RD E w d u)(ht:d.isTup=Gd):
  u.cells.toList.length=d.cells.length/\(∀v∈u.cells.toList,v.oneCell'=Ga)/\∀(j:Nat) e,d.cells[j]? =Ge e->∃v,u.cells.toList[j]? =Ge v/\v.oneCell'=Ga/\RD E w e v:=by
 have one:∀{d:D} {u:Value},RD E w d u->u.oneCell'=Ga->d.cells=[d]->u.cells= #[u]->
   u.cells.toList.length=d.cells.length/\(∀v∈u.cells.toList,v.oneCell'=Ga)/\∀(j:Nat) e,d.cells[j]? =Ge e->∃v,u.cells.toList[j]? =Ge v/\v.oneCell'=Ga/\RD E w e v:=by
  intro d u h h1 hd hu;rw[hd,hu];refine⟨rfl,λ v hv=>by simp at hv;subst hv;exact h1,λ j e he=>?_⟩
  cases j with
  |zero=>simp at he;subst he;exact⟨u,rfl,h1,h⟩
  |succ j=>simp at he
 have h0:=h
 cases h with
 |v c hc=>exact one h0 hc rfl (by cases u<;>first|rfl|cases hc)
 |agg cs us hlen hd h1=>
  refine⟨by simp[aab,D.cells,hlen],by simpa[aab]using h1,λ j e he=>?_⟩;have hlt:j<us.length:=by rw[hlen];exact(List.getElem?_eq_some_iff.1 he).1
  exact⟨us[j],by simp[aab,hlt],h1 _ (Xf hlt),hd j e _ he (Wa hlt)⟩
 |tup=>cases ht
 |_=>exact one h0 rfl rfl rfl

def wT (s:AS)(nm ky:Nat)(t:TypeId)(x:Operand):Ev:=
 match eG s x with
 |some d=>.cond (!d.isTup) (.ok (Ge (.ptr ky nm 0)) [(ky,Ge (nm,.b ⟨d.cells,t,Gd⟩))])
 |none=>.stuck

def cj.block (h:SR cx E s a w){g ky:Nat}(hi:i∉s.us)(hg:s.nx+8*i<=g/\g<s.nx+8*i+8)(elem:TypeId)(cs:GA)(us:List Value)(row:Bool)(fr:Nat×Nat)(hfz:gx fr us.length)
  (hlen:cs.length<=us.length) (hrow:row=Gd->us.length=cs.length) (hd:∀(j:Nat) d,cs[j]? =Ge d->∃u,us[j]? =Ge u/\u.oneCell'=Ga/\RD E w d u) (d:D) (u:Value)
  (hr:(execOp a.eval o).run P w= .ok (.value u) (w.alloc (.cells us.toArray elem fr))) (hu:∀E',E'.nm g->E'.φ g=Ge w.heap.size->RD E' (w.alloc (.cells us.toArray elem fr)) d u):
  cj P cx E s a w i o (Ge d) [(ky,Ge (g,.b ⟨cs,elem,row⟩))]:=by
 obtain⟨h1,h2,h3,h4,h5⟩:=h.new (ky:=ky) hi hg elem cs us row fr hfz hlen hrow hd;exact⟨_,_,h2,h1,h5,u,hr,hu _ h3 h4⟩

def zr (h:SR cx E s a w)(hi:i∉s.us){nm ky:Nat}(hg:s.nx+8*i<=nm/\nm<s.nx+8*i+8){t:TypeId}{x:Operand}(ho:o.op= .box t x){v:Option D}{up:Up}(he:(wT s nm ky t x).run v up):
  cj P cx E s a w i o v up:=by
 unfold wT at he
 split at he
 case h_2=>exact he.elim
 case h_1 d hx=>
 obtain⟨hc,rfl,rfl⟩:=he;have hr:=h.eval hx;obtain⟨hl,h1,hd⟩:=hr.cellsOf (by simpa using hc);refine cj.block h hi hg t d.cells (a.eval x).cells.toList Gd (0,0) (gx.zero _) (by omega) (λ _=>hl) hd _ (.pointer (Ge ⟨w.heap.size,0,z9⟩)) ?_ (λ E' hn hp=>.ptr _ _ _ _ hn hp);unfold execOp;simp only[ho,Instr.box,newVar,newRow,newObj,WF,WK,Wp,ZX,XP];rfl

def mL (T:TT)(nm ky:Nat)(t:TypeId):Ev:=
 match T.get t with
 |some ti=>.cond (eF ti.zero&& !(bK ti.zero).isTup) (.ok (Ge (.ptr ky nm 0)) [(ky,Ge (nm,.b ⟨(bK ti.zero).cells,t,Gd⟩))])
 |none=>.stuck
def sU (hT:T.ok P)(h:SR cx E s a w)(hi:i∉s.us){nm ky:Nat}(hg:s.nx+8*i<=nm/\nm<s.nx+8*i+8){t:TypeId}(ho:o.op= .alloc t){v:Option D}{up:Up}(he:(mL T nm ky t).run v up):
  cj P cx E s a w i o v up:=by
 unfold mL at he
 split at he
 case h_2=>exact he.elim
 case h_1 ti hti=>
 obtain⟨hc,rfl,rfl⟩:=he;rw[Wh]at hc;have hr:=RD.const E w ti.zero hc.1;obtain⟨hl,h1,hd⟩:=hr.cellsOf (by simpa using hc.2);refine cj.block h hi hg t _ ti.zero.cells.toList Gd (0,0) (gx.zero _) (by omega) (λ _=>hl) hd _ (.pointer (Ge ⟨w.heap.size,0,z9⟩)) ?_ (λ E' hn hp=>.ptr _ _ _ _ hn hp);unfold execOp;simp only[ho,Instr.alloc,newVar,newRow,newObj,WF,WK,Wp,ZX,TT.zeroValue hT hti w,XP];rfl

def mM (T:TT)(s:AS)(t:TypeId)(x y:Operand):Ev:=
 match T.get t,eG s x,eG s y with
 |some ti,Ge (.ptr k g off),Ge d=>match s.at k with
  |some p=>.cond (V9 g p.1&& !d.isTup&&V9 d.cells.length ti.size&&Wf (off+ti.size) p.2.cells.length)
    (.list (ac p.2.cells off d.cells) λ cs=>.ok z9 [(k,Ge (g,.b ⟨cs,p.2.elem,p.2.row⟩))])
  |none=>.stuck
 |_,_,_=>.stuck

def ml (w:World)(b o:Nat)(cur:Array Value)(t:TypeId)(fr:Nat×Nat)(v:Value)(hb:w.heap[b]? =Ge (.cells cur t fr)):(w.setCell ⟨b,o,z9⟩ v).heap[b]? =Ge (.cells (cur.setIfInBounds o v) t fr):=by
 have hlt:=(Array.getElem?_eq_some_iff.1 hb).1;simp only[World.setCell,ZM,if_true,hb,Zp];rfl
def lZ (b:Nat)(t:TypeId)(fr:Nat×Nat):∀(vs:List Value) (o:Nat) (w:World) (cur:Array Value),w.heap[b]? =Ge (.cells cur t fr)->(w.setCells b o vs).heap[b]? =Ge (.cells (dX cur o vs) t fr)
 |[],_,_,_,h=>h
 |v::r,o,w,cur,h=>lZ b t fr r (o+1) _ _ (ml w b o cur t fr v h)
def jf (w:World)(b j:Nat)(cur:Array Value)(t:TypeId)(fr:Nat×Nat)(hb:w.heap[b]? =Ge (.cells cur t fr))(hf:gx fr cur.size)(hj:j<cur.size):w.frozen? ⟨b,j,z9⟩=false:=by
 have:=hf.no hj;obtain⟨lo,hi⟩:=fr;simp only[World.frozen?,hb];exact this
def fj (w:World)(b o:Nat)(cur:Array Value)(t:TypeId)(fr:Nat×Nat)(vs:List Value)(hb:w.heap[b]? =Ge (.cells cur t fr))(hl:o+vs.length<=cur.size):
  ∃cur',(w.setCells b o vs).heap[b]? =Ge (.cells cur' t fr)/\cur'.size=cur.size/\∀j:Nat,cur'[j]? =if o<=j/\j<o+vs.length then vs[j-o]? else cur[j]?:=by
 refine⟨dX cur o vs,lZ b t fr vs o w cur hb,gS vs o cur,?_⟩;clear hb
 induction vs generalizing o cur with
 |nil=>intro j;rw[ZE (by simp only[Yi];omega)];rfl
 |cons v r ih=>
  intro j;simp only[dX,WQ]at hl ⊢;rw[ih (o+1) _ (by simp;omega) j]
  by_cases h1:j=o
  ·subst h1
   rw[ZE (by omega),ZF ⟨by omega,by omega⟩];simp only[Xz,YU];rw[Zb (by omega)]
  ·by_cases h2:o+1<=j/\j<o+1+r.length
   ·rw[ZF h2,ZF ⟨by omega,by omega⟩]
    have:j-o=(j-(o+1))+1:=by omega
    rw[this,XV]
   ·rw[ZE h2,ZE (by omega),XU (λ e=>h1 e.symm)]

def sV (hT:T.ok P)(h:SR cx E s a w){t:TypeId}{x y:Operand}(ho:o.op= .store t x y){v:Option D}{up:Up}(he:(mM T s t x y).run v up):cj P cx E s a w i o v up:=by
 unfold mM at he
 split at he
 case h_2=>exact he.elim
 case h_1 ti k g off d hti hx hy=>
 split at he
 case h_2=>exact he.elim
 case h_1 p hp=>
 obtain⟨g',blk⟩:=p;obtain⟨hc,rfl,rfl⟩:=he;simp only[Wh,XX]at hc;obtain⟨⟨⟨hgg,htup⟩,hlen⟩,hle⟩:=hc;have e:g=g':=Wk hgg;subst e;have hlen:=Wk hlen;have hle:=Wm hle;have hrx:=h.eval hx;have hry:=h.eval hy;obtain⟨hcl,hone,hcd⟩:=hry.cellsOf htup;generalize hux:a.eval x=ux at hrx;generalize huy:a.eval y=uy at hry hcl hone hcd
 cases hrx with
 |ptr _ _ _ b hg hb=>
 obtain⟨hlt,hown,cur,fr,hcur,hfz,hcl2,hrow,hcell⟩:=h.block hp hb;have hszv:uy.cells.size=ti.size:=by rw[<-hlen,<-hcl];simp
 obtain⟨cur',hcur',hsz',hget'⟩:=fj w b off cur blk.elem fr uy.cells.toList hcur (by simp;omega);obtain⟨hgr,hz⟩:=da b uy.cells.toList off w;have hst:=h.store (i:=i) hp hb (ac blk.cells off d.cells) (dH (by omega)) hgr hz cur cur' fr hcur hcur' hsz' (λ j e hj=>by
  rw[ck (by omega)]at hj
  split at hj
  ·rename_i hr
   obtain⟨u,hu,h1,hru⟩:=hcd _ _ hj;exact⟨u,by rw[hget',ZF ⟨hr.1,by simpa[hcl]using hr.2⟩];exact hu,h1,hru⟩
  ·rename_i hr
   obtain⟨u,hu,h1,hru⟩:=hcell _ _ hj;exact⟨u,by rw[hget',ZE (λ hh=>hr ⟨hh.1,by simpa[hcl]using hh.2⟩)];exact hu,h1,hru⟩)
 refine⟨_,_,hst.2.1,hst.1,hst.2.2,?_⟩;have hrun:=run_storeCells_cells (P:=P) b off uy.cells.toList 0 w (λ j hj=>by
   simp only[X4];rw[cell_of_row w b _ cur blk.elem fr hcur,XZ (by simp at hj;omega)];rfl) (λ j hj=>by
   simp only[X4];exact jf w b _ cur blk.elem fr hcur hfz (by simp at hj;omega)) hone
 simp only[X4]at hrun;show(execOp a.eval o).run P w= .ok .skip (w.setCells b off uy.cells.toList);unfold execOp;simp only[ho,hux,huy,Instr.storeAt,ZI,storeVar,WF,WK,Wp,TT.sizeOf hT hti w,hszv,ne_eq,not_true_eq_false,if_false,YK,hrun]

end
section
variable {P:Program} {cx:Cx} {E:Env} {s:AS} {a:Act} {w:World} {i:Nat} {o:Oper} {T:TT}

def gV (s:AS)(x:Operand):Ev:=
 match eG s x with
 |some d=>.ok (Ge d) []
 |none=>.stuck
def nE (h:SR cx E s a w){x:Operand}(ho:o.op= .move x\/o.op= .assign x){v:Option D}{up:Up}(he:(gV s x).run v up):cj P cx E s a w i o v up:=by
 unfold gV at he
 split at he
 case h_2=>exact he.elim
 case h_1 d hx=>
 obtain⟨rfl,rfl⟩:=he;refine .pure h ?_ (h.eval hx);unfold execOp;rcases ho with ho|ho<;>simp only[ho,WK]

def qG (s:AS)(x:Operand):Ev:=
 match eG s x with
 |some (.ptr k g off)=>.ok (Ge (.ptr k g off)) []
 |some (.ep cells off)=>.ok (Ge (.ep cells off)) []
 |_=>.stuck
def vi (h:SR cx E s a w){x:Operand}(ho:o.op= .nilCheck x){v:Option D}{up:Up}(he:(qG s x).run v up):cj P cx E s a w i o v up:=by
 unfold qG at he
 split at he
 case h_3=>exact he.elim
 all_goals
  rename_i hx
  obtain⟨rfl,rfl⟩:=he;have hr:=h.eval hx;refine .pure h ?_ (h.eval hx);generalize huc:a.eval x=uc at hr
  cases hr
  unfold execOp;simp only[ho,huc,WK]

def qH (s:AS)(c x y:Operand):Ev:=
 match eG s c with
 |some (.v (.bool Ga))=>gV s x
 |some (.v (.bool Gd))=>gV s y
 |_=>.stuck
def vj (h:SR cx E s a w){c x y:Operand}(ho:o.op= .pick c x y){v:Option D}{up:Up}(he:(qH s c x y).run v up):cj P cx E s a w i o v up:=by
 have key:∀(b:Bool) (z:Operand),eG s c=Ge (.v (.bool b))->(if b then x else y)=z->(gV s z).run v up->cj P cx E s a w i o v up:=by
  intro b z hc hz he;unfold gV at he
  split at he
  case h_2=>exact he.elim
  case h_1 d hx=>
  obtain⟨rfl,rfl⟩:=he;have hr:=h.eval hc;generalize huc:a.eval c=uc at hr
  cases hr
  refine .pure h ?_ (h.eval hx);unfold execOp;simp only[ho,huc,asBool,WF,WK,Wp];rw[<-hz];cases b<;>rfl
 unfold qH at he
 split at he
 case h_3=>exact he.elim
 case h_1 hc=>exact key Ga x hc rfl he
 case h_2 hc=>exact key Gd y hc rfl he

def jg (s:AS)(x:Operand)(n:Nat):Ev:=
 match eG s x with
 |some (.tup ds)=>.opt ds[n]? λ d=>.ok (Ge d) []
 |_=>.stuck
def po (h:SR cx E s a w){x:Operand}{n:Nat}(ho:o.op= .extract x n){v:Option D}{up:Up}(he:(jg s x n).run v up):cj P cx E s a w i o v up:=by
 unfold jg at he
 split at he
 case h_2=>exact he.elim
 case h_1 ds hx=>
 obtain⟨d,hd,rfl,rfl⟩:=he;have hr:=h.eval hx;generalize huc:a.eval x=uc at hr
 cases hr with
 |tup _ us hlen hds=>
 have hlt:n<us.length:=by rw[hlen];exact(List.getElem?_eq_some_iff.1 hd).1
 refine .pure h (u:=us[n]) ?_ (hds n d _ hd (Wa hlt));unfold execOp;simp only[ho,huc,Instr.extract,aaM,Wa hlt,WF,WK,Wp]

def mN:TypeDesc->Bool
 | .interface _=>Ga
 |_=>Gd
def mO (T:TT)(s:AS)(t:TypeId)(x:Operand):Ev:=
 match T.get t,eG s x with
 |some ti,Ge d=>.cond (!mN ti.desc) (.ok (Ge (.ifc t d)) [])
 |_,_=>.stuck
def sX (hT:T.ok P)(h:SR cx E s a w){t:TypeId}{x:Operand}(ho:o.op= .makeInterface t x){v:Option D}{up:Up}(he:(mO T s t x).run v up):cj P cx E s a w i o v up:=by
 unfold mO at he
 split at he
 case h_2=>exact he.elim
 case h_1 ti d hti hx=>
 obtain⟨hc,rfl,rfl⟩:=he;refine .pure h (u:=.iface t (a.eval x)) ?_ (.ifc _ _ _ (h.eval hx));unfold execOp;simp only[ho,Instr.makeInterface,WF,TT.underlying hT hti w,Wp]
 cases hd:ti.desc<;>simp[hd,mN]at hc ⊢

def vk:D->Nat->Option D
 | .ptr k g off,n=>Ge (.ptr k g (off+n))
 | .ep cells off,n=>Ge (.ep cells (off+n))
 |_,_=>z9
def l6 {d d':D}{n:Nat}{u:Value}(h:RD E w d u)(hd:vk d n=Ge d'):∃b off,u= .pointer (Ge ⟨b,off,z9⟩)/\RD E w d' (.pointer (Ge ⟨b,off+n,z9⟩)):=by
 cases h with
 |ptr k g off b hg hb=>cases hd;exact⟨b,off,rfl,.ptr _ _ _ _ hg hb⟩
 |ep cells off b o us hlen hd' h1 hb ho hr=>cases hd;exact⟨b,o+off,rfl,by rw[XW];exact .ep cells (off+n) b o us hlen hd' h1 hb ho hr⟩
 |_=>cases hd

def fV (T:TT)(s:AS)(t:TypeId)(x:Operand)(f:Nat):Ev:=
 match T.get t with
 |some ⟨.struct fs,_,_,_,_⟩=>match fs.toList[f]?,eG s x with
  |some fd,Ge d=>match T.get fd.type with
   |some fi=>.cond (!V9 fi.size 0) (.opt (vk d fd.offset) λ d'=> .ok (Ge d') [])
   |none=>.stuck
  |_,_=>.stuck
 |_=>.stuck
def mp (hT:T.ok P)(h:SR cx E s a w){t:TypeId}{x:Operand}{f:Nat}(ho:o.op= .fieldAddr t x f){v:Option D}{up:Up}(he:(fV T s t x f).run v up):cj P cx E s a w i o v up:=by
 unfold fV at he
 split at he
 case h_2=>exact he.elim
 case h_1 fs z1 z2 z3 z4 hti=>
 split at he
 case h_2=>exact he.elim
 case h_1 fd d hf hx=>
 split at he
 case h_2=>exact he.elim
 case h_1 fi hfi=>
 obtain⟨hz,d',hd',rfl,rfl⟩:=he;obtain⟨b,off,hu,hr⟩:=l6 (h.eval hx) hd';refine .pure h ?_ hr;have hf':fs[f]? =Ge fd:=by simpa using hf
 have hz':fi.size≠0:=λ e=>by rw[e]at hz;cases hz
 unfold execOp;simp only[ho,hu,Instr.fieldAt,WF,TT.underlying hT hti w,Wp,hf',ZI,WK,fieldPlace,TT.sizeOf hT hfi w,hz',if_false,X5,YK]

def EE (ti:TI)(cs:GA)(off:Nat):Ev:=
 bif ti.desc.isRow then .cond (Wf (off+ti.size) cs.length) (.list ((cs.drop off).take ti.size) λ cs=>.ok (Ge (.agg cs)) [])else .opt cs[off]? λ d=>.ok (Ge d) []
def pE (hT:T.ok P)(h:SR cx E s a w){t:TypeId}{ti:TI}(hti:T.get t=Ge ti){cs:GA}{us:List Value}(hr:RD E w (.agg cs) (.agg us.toArray)){off:Nat}
  (hrun:(execOp a.eval o).run P w=((part t us.toArray off).run P w).andThen λ u w'=> .ok (.value u) w') {v:Option D} {up:Up} (he:(EE ti cs off).run v up):cj P cx E s a w i o v up:=by
 generalize hu:(Value.agg us.toArray)=u at hr
 cases hr with
 |agg _ us' hlen hd h1=>
 have hus:us=us':=by have:=Value.agg.inj hu;simpa using this
 subst hus;unfold EE at he
 cases hrow:ti.desc.isRow with
 |true=>
  simp only[hrow,cond_true]at he;obtain⟨hle,rfl,rfl⟩:=he;have hle:=Wm hle;refine .pure h (u:=.agg ((us.drop off).take ti.size).toArray) ?_ (.agg _ _ (by simp;omega) (λ j d u hj hk=>?_) (λ u hu=>h1 u (YA (Xs hu))))
  ·rw[hrun]
   simp only[part,WF,gy hT hti w,Wp,hrow,if_true,TT.sizeOf hT hti w,WK];simp[List.extract_eq_take_drop]
  ·rw[Xa]at hj hk
   split at hj
   ·rename_i hlt
    rw[ZF hlt,Xr]at hk;rw[Xr]at hj;exact hd _ _ _ hj hk
   ·cases hj
 |false=>
  simp only[hrow,cond_false]at he;obtain⟨d',hd',rfl,rfl⟩:=he;have hlt:off<us.length:=by rw[hlen];exact(List.getElem?_eq_some_iff.1 hd').1
  refine .pure h (u:=us[off]) ?_ (hd _ _ _ hd' (Wa hlt));rw[hrun];simp only[part,WF,gy hT hti w,Wp,hrow,Ye,if_false,aaM,Wa hlt,WK]

def mP (T:TT)(s:AS)(t:TypeId)(x:Operand)(f:Nat):Ev:=
 match T.get t with
 |some ⟨.struct fs,_,_,_,_⟩=>match fs.toList[f]?,eG s x with
  |some fd,Ge (.agg cs)=>match T.get fd.type with
   |some fi=>EE fi cs fd.offset
   |none=>.stuck
  |_,_=>.stuck
 |_=>.stuck
def sY (hT:T.ok P)(h:SR cx E s a w){t:TypeId}{x:Operand}{f:Nat}(ho:o.op= .field t x f){v:Option D}{up:Up}(he:(mP T s t x f).run v up):cj P cx E s a w i o v up:=by
 unfold mP at he
 split at he
 case h_2=>exact he.elim
 case h_1 fs z1 z2 z3 z4 hti=>
 split at he
 case h_2=>exact he.elim
 case h_1 fd cs hf hx=>
 split at he
 case h_2=>exact he.elim
 case h_1 fi hfi=>
 have hr:=h.eval hx;have hr0:=hr;generalize hux:a.eval x=ux at hr hr0
 cases hr with
 |agg _ us hlen hd h1=>
 refine pE hT h hfi hr0 ?_ he;have hf':fs[f]? =Ge fd:=by simpa using hf
 unfold execOp;simp only[ho,hux,Instr.field,WF,TT.underlying hT hti w,Wp,hf',asAgg,WK]

def fW (T:TT)(s:AS)(t:TypeId)(x ix:Operand):Ev:=
 match T.get t,eG s ix,eG s x with
 |some ti,Ge (.v (.int _ z)),Ge d=>match ti.desc,d with
  | .slice e,.ref k g off n _=>match T.get e with
   |some ei=>.cond (Ao (0<=z)&&Ao (z<(n:Int))) (.ok (Ge (.ptr k g (off+z.toNat*ei.size))) [])
   |none=>.stuck
  | .slice e,.sl _ n size cells=>match T.get e with
   |some ei=>.cond (Ao (0<=z)&&Ao (z<(n:Int))&&V9 size ei.size) (.ok (Ge (.ep cells (z.toNat*size))) [])
   |none=>.stuck
  | .array len e,d=>match T.get e with
   |some ei=>.cond (Ao (0<=z)&&Ao (z<(len:Int))) (.opt (vk d (z.toNat*ei.size)) λ d'=> .ok (Ge d') [])
   |none=>.stuck
  |_,_=>.stuck
 |_,_,_=>.stuck

def mQ {p q:Prop}[Decidable p][Decidable q](h:(decide p&&decide q)=Ga):p/\q:=by simpa using h

def mq (hT:T.ok P)(h:SR cx E s a w){t:TypeId}{x ix:Operand}(ho:o.op= .indexAddr t x ix){v:Option D}{up:Up}(he:(fW T s t x ix).run v up):cj P cx E s a w i o v up:=by
 unfold fW at he
 split at he
 case h_2=>exact he.elim
 case h_1 ti kz z d hti hix hx=>
 have hrx:=h.eval hx;have hri:=h.eval hix;generalize hux:a.eval x=ux at hrx;generalize hui:a.eval ix=ui at hri
 cases hri with
 |v _ _=>
 have hund:=TT.underlying hT hti w
 split at he
 case h_1 e k g off n sz hd0=>
  split at he
  case h_2=>exact he.elim
  case h_1 ei hei=>
  obtain⟨hc,rfl,rfl⟩:=he;obtain⟨h0,h1⟩:=mQ hc
  cases hrx with
  |ref _ _ _ _ _ c b off' tt m hg hb hc2 hoff hsh hm=>
   obtain rfl:off'=off:=by omega
   refine .pure h ?_ (.ptr k g _ b hg hb);unfold execOp;rw[hd0]at hund;simp only[ho,hux,hui,aa5,asIntOf,WF,WK,Wp,hund,YK,h0,h1,and_self,if_true,TT.sizeOf hT hei w,X5]
  |refn _ _ _ hg hb=>omega
 case h_2 e nn n size cells hd0=>
  split at he
  case h_2=>exact he.elim
  case h_1 ei hei=>
  obtain⟨hc,rfl,rfl⟩:=he;rw[Wh]at hc;obtain⟨h0,h1⟩:=mQ hc.1;have hsz:size=ei.size:=Wk hc.2
  cases hrx with
  |sl _ _ _ _ ad c us hlen hd hone hn hs hc2 hnil hr=>
   rcases hr with hr|⟨b,off,ha,hb,hown,hcell⟩
   ·omega
   ·subst ha
    refine .pure h ?_ (.ep cells _ b off us hlen hd hone hb hown hcell);unfold execOp;rw[hd0]at hund;simp only[ho,hux,hui,aa5,asIntOf,WF,WK,Wp,hund,YK,h0,h1,and_self,if_true,TT.sizeOf hT hei w,X5,hsz]
 case h_3 len e d hd0=>
  split at he
  case h_2=>exact he.elim
  case h_1 ei hei=>
  obtain⟨hc,d',hd',rfl,rfl⟩:=he;obtain⟨h0,h1⟩:=mQ hc;obtain⟨b,off,hu,hr⟩:=l6 hrx hd';subst hu;refine .pure h ?_ hr;unfold execOp;rw[hd0]at hund;simp only[ho,hux,hui,aa5,asIntOf,ZI,WF,WK,Wp,hund,YK,h0,h1,and_self,if_true,TT.sizeOf hT hei w,X5]
 case h_4=>exact he.elim

def mR (T:TT)(s:AS)(t:TypeId)(x ix:Operand):Ev:=
 match T.get t,eG s ix,eG s x with
 |some ti,Ge (.v (.int _ z)),Ge d=>match ti.desc,d with
  | .array len e,.agg cs=>match T.get e with
   |some ei=>.cond (Ao (0<=z)&&Ao (z<(len:Int))) (EE ei cs (z.toNat*ei.size))
   |none=>.stuck
  | .string,.v (.string b)=>.cond (Ao (0<=z)) (.opt ((b.data.toList[z.toNat]?).map λ c=>D.v (.int .u8 c.toNat)) λ d=>.ok (Ge d) [])
  |_,_=>.stuck
 |_,_,_=>.stuck
def sZ (hT:T.ok P)(h:SR cx E s a w){t:TypeId}{x ix:Operand}(ho:o.op= .index t x ix){v:Option D}{up:Up}(he:(mR T s t x ix).run v up):cj P cx E s a w i o v up:=by
 unfold mR at he
 split at he
 case h_2=>exact he.elim
 case h_1 ti kz z d hti hix hx=>
 have hrx:=h.eval hx;have hri:=h.eval hix;generalize hux:a.eval x=ux at hrx;generalize hui:a.eval ix=ui at hri
 cases hri with
 |v _ _=>
 have hund:=TT.underlying hT hti w
 split at he
 case h_1 len e cs hd0=>
  split at he
  case h_2=>exact he.elim
  case h_1 ei hei=>
  obtain⟨hc,he⟩:=he;obtain⟨h0,h1⟩:=mQ hc;have hrx0:=hrx
  cases hrx with
  |agg _ us hlen hd hone=>
  refine pE hT h hei hrx0 ?_ he;unfold execOp;rw[hd0]at hund;simp only[ho,hux,hui,Instr.index,asIntOf,WF,WK,Wp,hund,YK,h0,h1,and_self,if_true,TT.sizeOf hT hei w]
 case h_2 b hd0=>
  obtain⟨hc,d',hd',rfl,rfl⟩:=he;have h0:=of_decide_eq_true hc;rw[Xu]at hd';obtain⟨c,hcb,rfl⟩:=hd'
  cases hrx with
  |v _ _=>
  refine .pure h ?_ (.v (.int .u8 c.toNat) rfl);unfold execOp;rw[hd0]at hund;have hb:b[z.toNat]? =Ge c:=by
   have:b.data[z.toNat]? =Ge c:=by simpa using hcb
   obtain⟨hlt,he⟩:=Array.getElem?_eq_some_iff.1 this;rw[getElem?_pos b z.toNat (by exact hlt)];exact congrArg Ge he
  simp only[ho,hux,hui,Instr.index,asIntOf,WF,WK,Wp,hund,h0,if_true,hb]
 case h_3=>exact he.elim
end
section
variable {P:Program} {cx:Cx} {E:Env} {s:AS} {a:Act} {w:World} {i:Nat} {o:Oper} {T:TT}

def au (k:IntKind)(x:Int):Option D:=match Ao (k.wrap x=x)with
 |true=>Ge (.v (.int k x))
 |false=>Ge (.v (.int k (k.wrap x)))
def aD (k:IntKind)(x:Int):au k x=Ge (.v (.int k (k.wrap x))):=by
 unfold au
 cases h:Ao (k.wrap x=x)with
 |true=>rw[of_decide_eq_true h]
 |false=>rfl
def Jz (k:IntKind)(x:Int):Ev:=.opt (au k x) λ d=>.ok (Ge d) []
def jh {k:IntKind}{x:Int}{v:Option D}{up:Up}(h:(Jz k x).run v up):v=Ge (.v (.int k (k.wrap x)))/\up=[]:=by
 obtain⟨d,hd,rfl,rfl⟩:=h;rw[aD]at hd;cases hd;exact⟨rfl,rfl⟩
def aX (k:IntKind)(v:Int):Option D:=match Ao (v=0)with
 |true=>Ge (.v (.int k v))
 |false=>Ge (.v (.int k v))
def bS (k:IntKind)(v:Int):aX k v=Ge (.v (.int k v)):=by
 unfold aX
 cases Ao (v=0)<;>rfl
def Ew (k:IntKind)(x:Int):Ev:=.opt (aX k x) λ d=>.ok (Ge d) []
def fk {k:IntKind}{x:Int}{v:Option D}{up:Up}(h:(Ew k x).run v up):v=Ge (.v (.int k x))/\up=[]:=by
 obtain⟨d,hd,rfl,rfl⟩:=h;rw[bS]at hd;cases hd;exact⟨rfl,rfl⟩
def AH (op:BinOp)(k k':IntKind)(x y:Int):Ev:=
 match op with
 | .shl=>.cond (Ao (0<=y)) (Jz k (2^(min y.toNat k.bits)*x))
 | .shr=>.cond (Ao (0<=y)) (Ew k (x.fdiv (2^(min y.toNat k.bits))))
 | .add=>.cond (Ao (k=k')) (Jz k (x+y))
 | .sub=>.cond (Ao (k=k')) (Jz k (x-y))
 | .mul=>.cond (Ao (k=k')) (Jz k (x*y))
 | .quo=>.cond (Ao (k=k')&& !Ao (y=0)) (Ew k (k.wrap (x.tdiv y)))
 | .rem=>.cond (Ao (k=k')&& !Ao (y=0)) (Ew k (x.tmod y))
 | .and=>.cond (Ao (k=k')) (Ew k (k.wrap ((Wq k.bits x&&&Wq k.bits y).toNat:Int)))
 | .or=>.cond (Ao (k=k')) (Ew k (k.wrap ((Wq k.bits x|||Wq k.bits y).toNat:Int)))
 | .xor=>.cond (Ao (k=k')) (Ew k (k.wrap ((Wq k.bits x^^^Wq k.bits y).toNat:Int)))
 | .andNot=>.cond (Ao (k=k')) (Ew k (k.wrap ((Wq k.bits x&&& ~~~ Wq k.bits y).toNat:Int)))
 | .eql=>.cond (Ao (k=k')) (.ok (Ge (.v (.bool (x==y)))) [])
 | .neq=>.cond (Ao (k=k')) (.ok (Ge (.v (.bool (x !=y)))) [])
 | .lss=>.cond (Ao (k=k')) (.ok (Ge (.v (.bool (Ao (x<y))))) [])
 | .leq=>.cond (Ao (k=k')) (.ok (Ge (.v (.bool (Ao (x<=y))))) [])
 | .gtr=>.cond (Ao (k=k')) (.ok (Ge (.v (.bool (Ao (y<x))))) [])
 | .geq=>.cond (Ao (k=k')) (.ok (Ge (.v (.bool (Ao (y<=x))))) [])

def AI (op:BinOp)(x y:ByteArray):Ev:=
 match op with
 | .add=>.cond (Wf (x.size+y.size) fz) (.ok (Ge (.v (.string (x++y)))) [])
 | .eql=>.ok (Ge (.v (.bool (x.toList==y.toList)))) []
 | .neq=>.ok (Ge (.v (.bool (!(x.toList==y.toList))))) []
 | .lss=>.ok (Ge (.v (.bool (aaD x.toList y.toList)))) []
 | .leq=>.ok (Ge (.v (.bool (aaD x.toList y.toList||x.toList==y.toList)))) []
 | .gtr=>.ok (Ge (.v (.bool (!(aaD x.toList y.toList||x.toList==y.toList))))) []
 | .geq=>.ok (Ge (.v (.bool (!aaD x.toList y.toList)))) []
 |_=>.stuck

def mS:TypeDesc->Bool
 | .bool=>Ga
 |_=>Gd
def cQ:TypeDesc->Bool
 | .slice _=>Ga
 |_=>Gd
def aP:D->Option Bool
 | .v (.slice z9 0 0)=>Ge Ga
 | .sl Ga _ _ _=>Ge Gd
 | .ref _ _ _ (_+1) _=>Ge Gd
 |_=>z9
def RP:TypeDesc->D->D->Option Bool
 | .int _,.v (.int k m),.v (.int k' n)=>match Ao (k=k')with
  |true=>Ge (m==n)
  |false=>z9
 | .bool,.v (.bool m),.v (.bool n)=>Ge (m==n)
 | .string,.v (.string m),.v (.string n)=>Ge (m.toList==n.toList)
 |_,_,_=>z9
def AJ (T:TT)(cs ds:GA):List Field->Option Bool
 |[]=>Ge Ga
 |f::r=>match T.get f.type,cs[f.offset]?,ds[f.offset]?,AJ T cs ds r with
  |some fi,Ge x,Ge y,Ge c=>match RP fi.desc x y with
   |some b=>Ge (b&&c)
   |none=>z9
  |_,_,_,_=>z9
def EF (d:TypeDesc):GA->GA->Option Bool
 |[],[]=>Ge Ga
 |x::r,y::q=>match RP d x y,EF d r q with
  |some b,Ge c=>Ge (b&&c)
  |_,_=>z9
 |_,_=>z9
def AK (T:TT)(n:Nat)(el:TypeId)(cs ds:GA):Option Bool:=
 match T.get el with
 |some ei=>match V9 ei.size 1&&V9 cs.length n with
  |true=>EF ei.desc cs ds
  |false=>z9
 |none=>z9
def wU (T:TT)(s:AS)(op:BinOp)(t:TypeId)(x y:Operand):Ev:=
 match eG s x,eG s y with
 |some (.v (.int k m)),Ge (.v (.int k' n))=>AH op k k' m n
 |some (.v (.string m)),Ge (.v (.string n))=>AI op m n
 |some (.v (.bool m)),Ge (.v (.bool n))=>match T.get t,op with
  |some ti,.eql=>.cond (mS ti.desc) (.ok (Ge (.v (.bool (m==n)))) [])
  |some ti,.neq=>.cond (mS ti.desc) (.ok (Ge (.v (.bool (!(m==n))))) [])
  |_,_=>.stuck
 |some d,Ge (.v (.slice z9 0 0))=>match T.get t,op,aP d with
  |some ti,.eql,Ge b=>.cond (cQ ti.desc) (.ok (Ge (.v (.bool b))) [])
  |some ti,.neq,Ge b=>.cond (cQ ti.desc) (.ok (Ge (.v (.bool (!b)))) [])
  |_,_,_=>.stuck
 |some (.agg cs),Ge (.agg ds)=>match T.get t,op with
  |some ⟨.struct fs,_,_,_,pl⟩,.eql=>match AJ T cs ds fs.toList with
   |some b=>.cond pl (.ok (Ge (.v (.bool b))) [])
   |none=>.stuck
  |some ⟨.struct fs,_,_,_,pl⟩,.neq=>match AJ T cs ds fs.toList with
   |some b=>.cond pl (.ok (Ge (.v (.bool (!b)))) [])
   |none=>.stuck
  |some ⟨.array n el,_,_,_,pl⟩,.eql=>match AK T n el cs ds with
   |some b=>.cond pl (.ok (Ge (.v (.bool b))) [])
   |none=>.stuck
  |some ⟨.array n el,_,_,_,pl⟩,.neq=>match AK T n el cs ds with
   |some b=>.cond pl (.ok (Ge (.v (.bool (!b)))) [])
   |none=>.stuck
  |_,_=>.stuck
 |_,_=>.stuck

inductive EqAll (P:Program) (w:World) (d:Nat) (xs ys:Array Value):List Field->Bool->Prop
 |nil:EqAll P w d xs ys [] Ga
 |cons {f:Field} {r:List Field} {x y:Value} {b c:Bool} (hn:f.name≠ "_") (h1:(part f.type xs f.offset).run P w= .ok x w) (h2:(part f.type ys f.offset).run P w= .ok y w) (h3:(YF d f.type x y).run P w= .ok b w) (h4:EqAll P w d xs ys r c):EqAll P w d xs ys (f::r) (b&&c)
def nF (d:Nat){t:TypeId}{fs:Array Field}(hu:(Zm t).run P w= .ok (.struct fs) w)(hst:P.stoodInHeld t=Gd){xs ys:Array Value}{b:Bool}(h:EqAll P w d xs ys fs.toList b):(YF (d+1) t (.agg xs) (.agg ys)).run P w= .ok b w:=by
 rw[YF];simp only[WF,hu,Wp];have hp:(program:Sem Program).run P w= .ok P w:=rfl;simp only[hp,Wp,hst,Ye,if_false,WF];rw[<-Array.forIn_toList];generalize fs.toList=l at h
 induction h with
 |nil=>simp
 |cons hn h1 h2 h3 h4 ih=>
  rename_i f r x y b1 c1
  rw[List.forIn_cons];simp only[WF,h1,h2,h3,Wp,hn,ne_eq,not_false_eq_true,if_true]
  cases b1 with
  |false=>simp
  |true=>simpa using ih
def j7 (hT:T.ok P){t:TypeId}{ti:TI}(ht:T.get t=Ge ti)(hr:ti.desc.isRow=Gd){cs:Array Value}{off:Nat}{v:Value}(hv:cs[off]? =Ge v):(part t cs off).run P w= .ok v w:=by
 unfold part;rw[WF,gy hT ht w,Wp,hr];simp only[Ye,if_false,hv,WK]
def wV (hT:T.ok P){t:TypeId}{ti:TI}(ht:T.get t=Ge ti){E:Env}{x y:D}{u v:Value}(hx:RD E w x u)(hy:RD E w y v){b:Bool}(h:RP ti.desc x y=Ge b)(n:Nat):(YF (n+1) t u v).run P w= .ok b w/\ti.desc.isRow=false:=by
 have hu:=TT.underlying hT ht w;unfold RP at h
 split at h
 case h_1 kk k m k' m' hd=>
  split at h
  case h_2=>cases h
  case h_1 hk=>
  cases h
  cases hx;cases hy
  have hk:=of_decide_eq_true hk;rw[hd]at hu;refine⟨?_,by rw[hd]⟩;rw[YF];simp only[WF,hu,Wp,hk,if_true,WK]
 case h_2 m m' hd=>
  cases h;cases hx;cases hy
  rw[hd]at hu;refine⟨?_,by rw[hd]⟩;rw[YF];simp only[WF,hu,Wp,WK]
 case h_3 m m' hd=>
  cases h;cases hx;cases hy
  rw[hd]at hu;refine⟨?_,by rw[hd]⟩;rw[YF];simp only[WF,hu,Wp,WK];rw[beq_toListBytes]
 case h_4=>cases h
def s5 (hT:T.ok P){E:Env}{cs ds:GA}{us vs:List Value}(hu:∀(i:Nat) d,cs[i]? =Ge d->∃u,us[i]? =Ge u/\RD E w d u)(hv:∀(i:Nat) d,ds[i]? =Ge d->∃u,vs[i]? =Ge u/\RD E w d u)(n:Nat):∀(l:List Field) (b:Bool),(∀f∈l,f.name≠ "_")->AJ T cs ds l=Ge b->EqAll P w (n+1) us.toArray vs.toArray l b
 |[],b,_,h=>by cases h;exact .nil
 |f::r,b,hn,h=>by
  unfold AJ at h
  split at h
  case h_2=>cases h
  case h_1 fi x y c h1 h2 h3 h4=>
  split at h
  case h_2=>cases h
  case h_1 b1 hb=>
  cases h
  obtain⟨u,a1,a2⟩:=hu _ _ h2;obtain⟨v,b1',b2⟩:=hv _ _ h3;obtain⟨e1,e2⟩:=wV hT h1 a2 b2 hb n;exact .cons (hn f WH) (j7 hT h1 e2 (by simpa using a1)) (j7 hT h1 e2 (by simpa using b1')) e1 (s5 hT hu hv n r c (λ g hg=>hn g (WG _ hg)) h4)
def s6 (hT:T.ok P){el:TypeId}{ei:TI}(he:T.get el=Ge ei){E:Env}(us vs:List Value)(n:Nat):∀(cs ds:GA) (i:Nat) (b:Bool),
  (∀(j:Nat) d,cs[j]? =Ge d->∃u,us[i+j]? =Ge u/\RD E w d u)->(∀(j:Nat) d,ds[j]? =Ge d->∃u,vs[i+j]? =Ge u/\RD E w d u)->EF ei.desc cs ds=Ge b->
  ZX P (forIn (List.range' i cs.length) ((z9:Option Bool),()) λ j __s=>do
      let __do_lift <-part el us.toArray (j*1)
      let __do_lift_1 <-part el vs.toArray (j*1)
      let __do_lift <-YF (n+1) el __do_lift __do_lift_1
      if(!__do_lift)=Ga then pure (ForInStep.done (Ge Gd,()))else pure (ForInStep.yield (z9,()))) w= .ok ((bif b then z9 else Ge Gd),()) w
 |[],[],i,b,_,_,h=>by cases h;simp
 |[],_::_,i,b,_,_,h=>by cases h
 |_::_,[],i,b,_,_,h=>by cases h
 |x::r,y::q,i,b,hu,hv,h=>by
  unfold EF at h
  split at h
  case h_2=>cases h
  case h_1 b1 c1 h1 h2=>
  cases h
  obtain⟨u,a1,a2⟩:=hu 0 x rfl;obtain⟨v,b1',b2⟩:=hv 0 y rfl;obtain⟨e1,e2⟩:=wV hT he a2 b2 h1 n;have ih:=s6 hT he us vs n r q (i+1) c1 (λ j d hd=>by have:=hu (j+1) d (by simpa using hd);rw[show i+1+j=i+(j+1)from by omega];exact this) (λ j d hd=>by have:=hv (j+1) d (by simpa using hd);rw[show i+1+j=i+(j+1)from by omega];exact this) h2;rw[WQ,List.range'_succ,List.forIn_cons];have p1:=j7 (P:=P) (w:=w) hT he e2 (cs:=us.toArray) (off:=i*1) (v:=u) (by simpa using a1);have p2:=j7 (P:=P) (w:=w) hT he e2 (cs:=vs.toArray) (off:=i*1) (v:=v) (by simpa using b1');simp only[WF,p1,p2,e1,Wp]
  cases b1 with
  |false=>simp
  |true=>simpa using ih
def l7 (op:BinOp)(t:TypeId)(x y:Operand)(us vs:Array Value)(hg:P.eqGuardType P.depth t=Gd):(eqGuard op t x y (.agg us) (.agg vs)).run P w= .ok () w:=run_eqGuard_agg w op t x y us vs hg
def jA (t:TypeId)(us vs:Array Value):binOp .eql t (.agg us) (.agg vs)=(do pure (.bool (<-aac t (.agg us) (.agg vs)))):=rfl
def jB (t:TypeId)(us vs:Array Value):binOp .neq t (.agg us) (.agg vs)=(do pure (.bool (!(<-aac t (.agg us) (.agg vs))))):=rfl
def s7 (op:BinOp)(t:TypeId)(x y:Operand)(k k':IntKind)(m n:Int):(eqGuard op t x y (.int k m) (.int k' n)).run P w= .ok () w:=by cases op<;>rfl
def s8 (op:BinOp)(t:TypeId)(x y:Operand)(m n:ByteArray):(eqGuard op t x y (.string m) (.string n)).run P w= .ok () w:=by cases op<;>rfl
def j8 (op:BinOp)(t:TypeId)(x y:Operand)(m n:Bool):(eqGuard op t x y (.bool m) (.bool n)).run P w= .ok () w:=by cases op<;>rfl
def jC (op:BinOp)(t:TypeId)(x y:Operand)(ad:Option Addr)(n c:Nat)(u:Value):(eqGuard op t x y (.slice ad n c) u).run P w= .ok () w:=by cases op<;>cases u<;>rfl

def qI (n:Nat){t:TypeId}{x y:Bool}(hu:(Zm t).run P w= .ok .bool w):(YF (n+1) t (.bool x) (.bool y)).run P w= .ok (x==y) w:=by
 rw[YF];simp only[WF,hu,Wp,WK]
def nG {t:TypeId}{x y:Bool}(hu:(Zm t).run P w= .ok .bool w):(aac t (.bool x) (.bool y)).run P w= .ok (x==y) w:=qI 9999 hu
def s9 (m:Nat){t e:TypeId}{ad:Option Addr}{n c:Nat}(hu:(Zm t).run P w= .ok (.slice e) w):(YF (m+1) t (.slice ad n c) (.slice z9 0 0)).run P w= .ok ad.isNone w:=by
 rw[YF];simp only[WF,hu,Wp];cases ad<;>rfl
def pF {t e:TypeId}{ad:Option Addr}{n c:Nat}(hu:(Zm t).run P w= .ok (.slice e) w):(aac t (.slice ad n c) (.slice z9 0 0)).run P w= .ok ad.isNone w:=s9 9999 hu
def pG (t:TypeId){x y:Value}(h1:(∃b c,x= .bool b/\y= .bool c)\/∃ad n c,x= .slice ad n c/\y= .slice z9 0 0):binOp .eql t x y=(do pure (.bool (<-aac t x y))):=by
 rcases h1 with⟨b,c,rfl,rfl⟩|⟨ad,n,c,rfl,rfl⟩<;>rfl
def pH (t:TypeId){x y:Value}(h1:(∃b c,x= .bool b/\y= .bool c)\/∃ad n c,x= .slice ad n c/\y= .slice z9 0 0):binOp .neq t x y=(do pure (.bool (!(<-aac t x y)))):=by
 rcases h1 with⟨b,c,rfl,rfl⟩|⟨ad,n,c,rfl,rfl⟩<;>rfl

def EG (op:BinOp)(t:TypeId)(k k':IntKind)(m n:Int){v:Option D}{up:Up}(he:(AH op k k' m n).run v up):∃c:Value,v=Ge (.v c)/\up=[]/\c.oneCell'=Ga/\(binOp op t (.int k m) (.int k' n)).run P w= .ok c w:=by
 cases op<;>simp only[AH,Ev.run,Wh,decide_eq_true_eq,XX,decide_eq_false_iff_not]at he
 case add=>obtain⟨rfl,he⟩:=he;obtain⟨rfl,rfl⟩:=jh he;exact⟨_,rfl,rfl,rfl,by simp[binOp,YX,Zc,ZP]⟩
 case sub=>obtain⟨rfl,he⟩:=he;obtain⟨rfl,rfl⟩:=jh he;exact⟨_,rfl,rfl,rfl,by simp[binOp,YX,Zc,ZP]⟩
 case mul=>obtain⟨rfl,he⟩:=he;obtain⟨rfl,rfl⟩:=jh he;exact⟨_,rfl,rfl,rfl,by simp[binOp,YX,Zc,ZP]⟩
 case shl=>obtain⟨h0,he⟩:=he;obtain⟨rfl,rfl⟩:=jh he;exact⟨_,rfl,rfl,rfl,by rw[Int.mul_comm (2^_)];simp only[binOp,Op.shift,ZE (show¬n<0 by omega),WK]⟩
 case shr=>obtain⟨h0,he⟩:=he;obtain⟨rfl,rfl⟩:=fk he;exact⟨_,rfl,rfl,rfl,by simp only[binOp,Op.shift,ZE (show¬n<0 by omega),WK]⟩
 case quo=>obtain⟨⟨rfl,h0⟩,he⟩:=he;obtain⟨rfl,rfl⟩:=fk he;exact⟨_,rfl,rfl,rfl,by simp[binOp,Op.intDiv,h0]⟩
 case rem=>obtain⟨⟨rfl,h0⟩,he⟩:=he;obtain⟨rfl,rfl⟩:=fk he;exact⟨_,rfl,rfl,rfl,by simp[binOp,Op.intDiv,h0]⟩
 case and=>obtain⟨rfl,he⟩:=he;obtain⟨rfl,rfl⟩:=fk he;exact⟨_,rfl,rfl,rfl,by simp[binOp,YX,Zc,ZP]⟩
 case or=>obtain⟨rfl,he⟩:=he;obtain⟨rfl,rfl⟩:=fk he;exact⟨_,rfl,rfl,rfl,by simp[binOp,YX,Zc,ZP]⟩
 case xor=>obtain⟨rfl,he⟩:=he;obtain⟨rfl,rfl⟩:=fk he;exact⟨_,rfl,rfl,rfl,by simp[binOp,YX,Zc,ZP]⟩
 case andNot=>obtain⟨rfl,he⟩:=he;obtain⟨rfl,rfl⟩:=fk he;exact⟨_,rfl,rfl,rfl,by simp[binOp,YX,Zc,ZP]⟩
 all_goals (obtain⟨rfl,rfl,rfl⟩:=he;exact⟨_,rfl,rfl,rfl,by simp[binOp,YX,Zc,ZP]⟩)

def EH (op:BinOp)(t:TypeId)(m n:ByteArray){v:Option D}{up:Up}(he:(AI op m n).run v up):∃c:Value,v=Ge (.v c)/\up=[]/\c.oneCell'=Ga/\(binOp op t (.string m) (.string n)).run P w= .ok c w:=by
 cases op<;>simp only[AI,Ev.run]at he
 case add=>
  obtain⟨h0,rfl,rfl⟩:=he;have h0:=Wm h0;refine⟨_,rfl,rfl,rfl,?_⟩;have:¬((m.size+n.size:Nat):Int)>IntKind.i64.max:=by
   have:IntKind.i64.max=9223372036854775807:=by decide
   rw[this];unfold fz at h0;omega
  simp only[binOp,Op.stringOp,ZE this,WK]
 all_goals first|exact he.elim|(obtain⟨rfl,rfl⟩:=he;exact⟨_,rfl,rfl,rfl,by simp[binOp,Op.stringOp]⟩)

def ta (hT:T.ok P)(h:SR cx E s a w){op:BinOp}{t yt:TypeId}{x y:Operand}(ho:o.op= .binOp op t x y yt){v:Option D}{up:Up}(he:(wU T s op t x y).run v up):cj P cx E s a w i o v up:=by
 unfold wU at he
 split at he
 case h_1 k m k' n hx hy=>
  have hrx:=h.eval hx;have hry:=h.eval hy;generalize hux:a.eval x=ux at hrx;generalize huy:a.eval y=uy at hry
  cases hrx;cases hry
  obtain⟨c,rfl,rfl,h1,hr⟩:=EG (P:=P) (w:=w) op t k k' m n he;refine .pure h ?_ (.v c h1);unfold execOp;simp only[ho,hux,huy,WF,s7,Wp,hr,WK]
 case h_2 m n hx hy=>
  have hrx:=h.eval hx;have hry:=h.eval hy;generalize hux:a.eval x=ux at hrx;generalize huy:a.eval y=uy at hry
  cases hrx;cases hry
  obtain⟨c,rfl,rfl,h1,hr⟩:=EH (P:=P) (w:=w) op t m n he;refine .pure h ?_ (.v c h1);unfold execOp;simp only[ho,hux,huy,WF,s8,Wp,hr,WK]
 case h_3 m n hx hy=>
  have hrx:=h.eval hx;have hry:=h.eval hy;generalize hux:a.eval x=ux at hrx;generalize huy:a.eval y=uy at hry
  cases hrx;cases hry
  split at he
  case h_3=>exact he.elim
  all_goals
   rename_i ti hti
   obtain⟨hc,rfl,rfl⟩:=he;have hund:=TT.underlying hT hti w;have hd:ti.desc= .bool:=by cases hq:ti.desc<;>simp[hq,mS]at hc ⊢
   rw[hd]at hund;refine .pure h ?_ (.v _ rfl);unfold execOp
   first
    |(rw[ho];simp only[hux,huy,WF,j8,Wp,pG t (.inl ⟨_,_,rfl,rfl⟩),nG hund,WK];done)
    |(rw[ho];simp only[hux,huy,WF,j8,Wp,pH t (.inl ⟨_,_,rfl,rfl⟩),nG hund,WK];done)
 case h_4 d hx hy=>
  have hrx:=h.eval hx;have hry:=h.eval hy;generalize hux:a.eval x=ux at hrx;generalize huy:a.eval y=uy at hry
  cases hry
  have key:∀b,aP d=Ge b->∃(ad:Option Addr) (n c:Nat),ux= .slice ad n c/\ad.isNone=b:=by
   intro b hb
   cases hrx with
   |v c hc=>
    unfold aP at hb
    split at hb
    case h_1 e=>cases hb;cases e;exact⟨z9,0,0,rfl,rfl⟩
    all_goals first|(rename_i e;cases e)|cases hb
   |sl nn n size cells ad c us hlen hd hone hn hs hc2 hnil hr=>
    cases nn with
    |true=>cases hb;exact⟨ad,n,c,rfl,by cases ad with|none=>exact absurd (hnil rfl).2 (by decide)|some _=>rfl⟩
    |false=>cases hb
   |ref k g off n sz c b off' tt m hg hb2 hc=>
    cases n with
    |zero=>cases hb
    |succ n=>cases hb;exact⟨_,_,_,rfl,rfl⟩
   |refn=>cases hb
   |_=>cases hb
  split at he
  case h_3=>exact he.elim
  all_goals
   rename_i ti b hti hb
   obtain⟨hc,rfl,rfl⟩:=he;obtain⟨ad,n,c,rfl,hn⟩:=key b hb;have hund:=TT.underlying hT hti w;obtain⟨e,hd⟩:∃e,ti.desc= .slice e:=by cases hq:ti.desc<;>simp[hq,cQ]at hc ⊢
   rw[hd]at hund;refine .pure h ?_ (.v _ rfl);unfold execOp;subst hn
   first
    |(rw[ho];simp only[hux,huy,WF,jC,Wp,pG t (.inr ⟨_,_,_,rfl,rfl⟩),pF hund,WK];done)
    |(rw[ho];simp only[hux,huy,WF,jC,Wp,pH t (.inr ⟨_,_,_,rfl,rfl⟩),pF hund,WK];done)
 case h_5 cs ds hx hy=>
  have hrx:=h.eval hx;have hry:=h.eval hy;generalize hux:a.eval x=ux at hrx;generalize huy:a.eval y=uy at hry
  cases hrx with
  |agg _ us hlen1 hd1 hone1=>
  cases hry with
  |agg _ vs hlen2 hd2 hone2=>
  have hcell:∀{l:GA} {us:List Value},us.length=l.length->(∀(i:Nat) d u,l[i]? =Ge d->us[i]? =Ge u->RD E w d u)->∀(i:Nat) d,l[i]? =Ge d->∃u,us[i]? =Ge u/\RD E w d u:=fun{l us} hl hd i d hi=>by
   have hlt:i<us.length:=by rw[hl];exact(List.getElem?_eq_some_iff.1 hi).1
   exact⟨us[i],Wa hlt,hd i d _ hi (Wa hlt)⟩
  split at he
  case h_5=>exact he.elim
  case h_3|h_4=>
   rename_i n el z1 z2 z3 pl hti
   split at he
   case h_2=>exact he.elim
   rename_i b hb
   obtain⟨hc,rfl,rfl⟩:=he;subst hc;obtain⟨p1,p2,p3⟩:=(hT t _ hti).2.2.2 rfl;have hund:=TT.underlying hT hti w;have heq:(aac t (.agg us.toArray) (.agg vs.toArray)).run P w= .ok b w:=by
    unfold AK at hb
    split at hb
    case h_2=>cases hb
    rename_i ei hei
    split at hb
    case h_2=>cases hb
    rename_i hsz
    rw[Wh]at hsz;have s1:=Wk hsz.1;have s2:=Wk hsz.2;have hl:=s6 (P:=P) (w:=w) hT hei (E:=E) us vs 9998 _ _ 0 b (λ j d hd=>by rw[WE];exact hcell hlen1 hd1 j d hd) (λ j d hd=>by rw[WE];exact hcell hlen2 hd2 j d hd) hb;unfold aac Op.maxDepth;rw[show(10000:Nat)=9998+1+1 from rfl,YF];simp only[WF,hund,Wp,TT.sizeOf hT hei w,s1];rw[s2]at hl;simp only[Std.Legacy.Range.forIn_eq_forIn_range',Std.Legacy.Range.size];rw[show(n-0+1-1)/1=n from by rw[Nat.div_one];omega,hl]
    cases b<;>rfl
   refine .pure h ?_ (.v _ rfl);unfold execOp;rw[ho];simp only[hux,huy,WF,l7 _ _ _ _ _ _ p2,Wp,jA,jB,heq,WK]
  all_goals
   rename_i fs z1 z2 z3 pl hti
   split at he
   case h_2=>exact he.elim
   rename_i b hb
   obtain⟨hc,rfl,rfl⟩:=he;subst hc;obtain⟨p1,p2,p3⟩:=(hT t _ hti).2.2.2 rfl;have hund:=TT.underlying hT hti w;have heq:(aac t (.agg us.toArray) (.agg vs.toArray)).run P w= .ok b w:=nF 9999 hund p1 (s5 hT (hcell hlen1 hd1) (hcell hlen2 hd2) 9998 fs.toList b (λ f hf=>by
    have:=List.all_eq_true.1 (p3 fs rfl) f hf;simpa using this) hb)
   refine .pure h ?_ (.v _ rfl);unfold execOp;rw[ho];simp only[hux,huy,WF,l7 _ _ _ _ _ _ p2,Wp,jA,jB,heq,WK]
 case h_6=>exact he.elim

def EI (s:AS)(op:UnOp)(x:Operand):Ev:=
 match op,eG s x with
 | .not,Ge (.v (.bool b))=>.ok (Ge (.v (.bool (!b)))) []
 | .neg,Ge (.v (.int k n))=>Jz k (0-n)
 | .xor,Ge (.v (.int k n))=>Ew k (k.wrap ((Wq k.bits (if k.signed then -1 else k.max)^^^Wq k.bits n).toNat:Int))
 |_,_=>.stuck
def vl (h:SR cx E s a w){op:UnOp}{t:TypeId}{x:Operand}(ho:o.op= .unOp op t x){v:Option D}{up:Up}(he:(EI s op x).run v up):cj P cx E s a w i o v up:=by
 unfold EI at he
 split at he
 case h_4=>exact he.elim
 all_goals
  rename_i hx
  have hrx:=h.eval hx;generalize hux:a.eval x=ux at hrx
  cases hrx
  first|obtain⟨rfl,rfl⟩:=fk he|obtain⟨rfl,rfl⟩:=jh he|obtain⟨rfl,rfl⟩:=he
  refine .pure h ?_ (.v _ rfl);unfold execOp;simp only[ho,hux,WF,Op.unary,YX,Zc,WK,Wp]

def mT (T:TT)(s:AS)(src dst:TypeId)(x:Operand):Ev:=
 match T.get src,T.get dst,eG s x with
 |some _,Ge ⟨.int k,_,_,_,_⟩,Ge (.v (.int _ n))=>Jz k n
 |some _,Ge ⟨.string,_,_,_,_⟩,Ge (.v (.string b))=>.ok (Ge (.v (.string b))) []
 |_,_,_=>.stuck
def tb (hT:T.ok P)(h:SR cx E s a w){src dst:TypeId}{x:Operand}(ho:o.op= .convert src dst x){v:Option D}{up:Up}(he:(mT T s src dst x).run v up):cj P cx E s a w i o v up:=by
 unfold mT at he
 split at he
 case h_3=>exact he.elim
 all_goals
  rename_i h1 h2 hx
  have hrx:=h.eval hx;generalize hux:a.eval x=ux at hrx
  cases hrx
  first|obtain⟨rfl,rfl⟩:=fk he|obtain⟨rfl,rfl⟩:=jh he|obtain⟨rfl,rfl⟩:=he
  have u1:=TT.underlying hT h1 w;have u2:=TT.underlying hT h2 w;refine .pure h ?_ (.v _ rfl);unfold execOp;simp only[ho,hux,WF,convert,u1,u2,Wp];rfl

def JA:D->Option Nat
 | .sl _ n _ _=>Ge n
 | .ref _ _ _ n _=>Ge n
 | .v (.slice _ n _)=>Ge n
 |_=>z9
def wW (T:TT)(s:AS)(ts:Array TypeId)(xs:Array Operand):Ev:=
 match ts.toList,xs.toList with
 |t::_,x::_=>match T.get t,eG s x with
  |some ⟨.slice _,_,_,_,_⟩,Ge d=>match JA d with
   |some n=>.ok (Ge (.v (.int .i64 (n:Int)))) []
   |none=>.stuck
  |some ⟨.string,_,_,_,_⟩,Ge (.v (.string b))=>.ok (Ge (.v (.int .i64 (b.size:Int)))) []
  |some ⟨.array n _,_,_,_,_⟩,Ge _=>.ok (Ge (.v (.int .i64 (n:Int)))) []
  |_,_=>.stuck
 |_,_=>.stuck
def vm {d:D}{u:Value}{n:Nat}(h:RD E w d u)(hn:JA d=Ge n):∃ad c,u= .slice ad n c:=by
 cases h with
 |v c hc=>
  unfold JA at hn
  split at hn
  case h_3 e=>cases hn;cases e;exact⟨_,_,rfl⟩
  all_goals first|(rename_i e;cases e)|cases hn
 |sl=>cases hn;exact⟨_,_,rfl⟩
 |ref=>cases hn;exact⟨_,_,rfl⟩
 |refn=>cases hn;exact⟨_,_,rfl⟩
 |_=>cases hn

def zt (hT:T.ok P)(h:SR cx E s a w){c:Call}(ho:o.op= .call c)(hc:c.callee= .builtin .len){v:Option D}{up:Up}(he:(wW T s c.argTypes c.args).run v up):cj P cx E s a w i o v up:=by
 unfold wW at he
 split at he
 case h_2=>exact he.elim
 case h_1 t tr x xr hts hxs=>
 have e1:c.argTypes[0]? =Ge t:=by rw[<-Yy,hts];rfl
 have e2:(c.args.map a.eval)[0]? =Ge (a.eval x):=by
  rw[Array.getElem?_map,<-Yy,hxs];rfl
 have run0:∀{u:Value},(aaE c.argTypes o.type (c.args.map a.eval)).run P w= .ok u w->(execOp a.eval o).run P w= .ok (.value u) w:=λ hu=>by
  unfold execOp;simp only[ho,resolve,hc,WF,WK,Wp,invoke,builtin,hu]
 split at he
 case h_1 hti hx=>
  split at he
  case h_2=>exact he.elim
  case h_1 n hn=>
  obtain⟨rfl,rfl⟩:=he;obtain⟨ad,cp,hu⟩:=vm (h.eval hx) hn;refine .pure h (run0 ?_) (.v _ rfl);simp only[aaE,e1,e2,hu,WF,TT.underlying hT hti w,Wp,goInt,WK]
 case h_2 hti hx=>
  have hrx:=h.eval hx;generalize hux:a.eval x=ux at hrx e2
  cases hrx
  obtain⟨rfl,rfl⟩:=he;refine .pure h (run0 ?_) (.v _ rfl);simp only[aaE,e1,e2,WF,TT.underlying hT hti w,Wp,goInt,WK]
 case h_3 hti hx=>
  obtain⟨rfl,rfl⟩:=he;refine .pure h (run0 ?_) (.v _ rfl);simp only[aaE,e1,e2,WF,TT.underlying hT hti w,Wp,goInt,WK]
 case h_4=>exact he.elim

def mr (k:IntKind)(mx:Bool)(m n:Int):Option D:=match(bif mx then Ao (n>m)else Ao (n<m))with
 |true=>Ge (.v (.int k n))
 |false=>Ge (.v (.int k m))
def qJ (k:IntKind)(mx:Bool)(m n:Int):mr k mx m n=Ge (.v (.int k (bif mx then(if n>m then n else m)else(if n<m then n else m)))):=by
 unfold mr
 cases mx with
 |true=>simp only[cond_true];by_cases h:n>m<;>simp[h]
 |false=>simp only[cond_false];by_cases h:n<m<;>simp[h]
def tc (s:AS)(mx:Bool)(xs:Array Operand):Ev:=
 match xs.toList with
 |[x,y]=>match eG s x,eG s y with
  |some (.v (.int k m)),Ge (.v (.int _ n))=>.opt (mr k mx m n) λ d=>.ok (Ge d) []
  |_,_=>.stuck
 |_=>.stuck
def pI (h:SR cx E s a w){c:Call}(ho:o.op= .call c){mx:Bool}(hc:c.callee= .builtin (bif mx then .max else .min)){v:Option D}{up:Up}(he:(tc s mx c.args).run v up):cj P cx E s a w i o v up:=by
 unfold tc at he
 split at he
 case h_2=>exact he.elim
 case h_1 x y hxs=>
 split at he
 case h_2=>exact he.elim
 case h_1 k m k' n hx hy=>
 have hrx:=h.eval hx;have hry:=h.eval hy;generalize hux:a.eval x=ux at hrx;generalize huy:a.eval y=uy at hry
 cases hrx;cases hry
 obtain⟨d,hd,rfl,rfl⟩:=he;rw[qJ]at hd;cases hd;have e2:(c.args.map a.eval).toList=[.int k m,.int k' n]:=by rw[Yz,hxs];simp[hux,huy]
 refine .pure h ?_ (.v _ rfl)
 cases mx
 ·simp only[cond_false]at hc
  unfold execOp;simp only[ho,resolve,hc,WF,WK,Wp,invoke,builtin,Builtin.min_,e2,abv,List.foldlM_nil,Builtin.min2,cond_false]
 ·simp only[cond_true]at hc
  unfold execOp;simp only[ho,resolve,hc,WF,WK,Wp,invoke,builtin,Builtin.max_,e2,abv,List.foldlM_nil,Builtin.max2,cond_true]
end
section
variable {P:Program} {cx:Cx} {E:Env} {s:AS} {a:Act} {w:World} {i:Nat} {o:Oper} {T:TT}

def AL (s:AS):Option Operand->Option (Option Int)
 |none=>Ge z9
 |some x=>match eG s x with
  |some (.v (.int _ z))=>Ge (Ge z)
  |_=>z9

def ji (h:SR cx E s a w){x:Option Operand}{r:Option Int}(hx:AL s x=Ge r):(r=z9/\x.map a.eval=z9)\/∃k z,r=Ge z/\x.map a.eval=Ge (.int k z):=by
 cases x with
 |none=>cases hx;exact .inl ⟨rfl,rfl⟩
 |some x=>
  simp only[AL]at hx
  split at hx
  case h_2=>cases hx
  case h_1 k z hz=>
  cases hx
  have hr:=h.eval hz;generalize hu:a.eval x=u at hr
  cases hr
  exact .inr ⟨k,z,rfl,by simp[hu]⟩

def zu (b:Bool)(len cap:Nat)(lo hi mx:Option Value)(l h m:Nat)
  (hl:(lo=z9/\l=0)\/∃k,lo=Ge (.int k (l:Int))) (hh:(hi=z9/\mx=z9/\h=len)\/∃k,hi=Ge (.int k (h:Int)))
  (hm:(mx=z9/\m=cap)\/∃k,mx=Ge (.int k (m:Int))) (h1:l<=h) (h2:h<=m) (h3:m<=cap):(Y8 b len cap lo hi mx).run P w= .ok (l,h,m) w:=by
 have sb:∀(k:IntKind) (x y:Nat) (code:BoundsCode),x<=y->(Instr.sliceBound (.int k (x:Int)) y code).run P w= .ok x w:=λ k x y code hxy=>by
  rw[run_sliceBound w k x y code (by omega) (by omega)];simp
 rcases hl with⟨rfl,rfl⟩|⟨kl,rfl⟩<;>rcases hh with⟨rfl,rfl,rfl⟩|⟨kh,rfl⟩<;>rcases hm with⟨hm,rfl⟩|⟨km,hm⟩<;>
  first
   |(cases hm;done)
   |(cases hm;simp[Y8,sb _ _ _ _ h1,sb _ _ _ _ h2,sb _ _ _ _ h3];done)
   |(subst hm;simp[Y8,sb _ _ _ _ h1,sb _ _ _ _ h2,sb _ _ _ _ h3];done)

def cY (r:Option Int):Nat:=match r with|none=>0|some z=>z.toNat
def bk (r:Option Int)(n:Nat):Nat:=match r with|none=>n|some z=>z.toNat
def aV (l h m:Option Int)(n:Nat):Bool:=
 (match l with|none=>Ga|some z=>Ao (0<=z))&&(match h with|none=>Ga|some z=>Ao (0<=z))&&(match m with|none=>Ga|some z=>Ao (0<=z))&&
 Wf (cY l) (bk h n)&&Wf (bk h n) (bk m n)&&Wf (bk m n) n&&(m.isNone||h.isSome)
def JB (cells:GA)(l h:Option Int)(es:Nat):GA:=
 match l,h with
 |none,z9=>cells
 |none,Ge h=>cells.take (h.toNat*es)
 |some l,z9=>cells.drop (l.toNat*es)
 |some l,Ge h=>(cells.drop (l.toNat*es)).take ((h.toNat-l.toNat)*es)
def nH (n:Nat)(l h:Option Int):Nat:=
 match l,h with
 |none,z9=>n
 |none,Ge h=>h.toNat
 |some l,z9=>n-l.toNat
 |some l,Ge h=>h.toNat-l.toNat
def fX (n:Nat)(l h:Option Int):nH n l h=bk h n-cY l:=by cases l<;>cases h<;>simp[nH,bk,cY]
def EJ {cells:GA}{n es:Nat}(hn:cells.length=n*es)(l h:Option Int)(h1:bk h n<=n):JB cells l h es=(cells.drop (cY l*es)).take (nH n l h*es):=by
 cases l<;>cases h<;>simp[JB,nH,cY,hn.symm]
 rename_i z
 rw[List.take_of_length_le];rw[Wy,hn,Nat.sub_mul];omega

def fA {l h m:Option Int}{n:Nat}(hb:aV l h m n=Ga):(∀z,l=Ge z->0<=z)/\(∀z,h=Ge z->0<=z)/\(∀z,m=Ge z->0<=z)/\cY l<=bk h n/\bk h n<=bk m n/\bk m n<=n/\(m=z9\/h.isSome=Ga):=by
 simp only[aV,Wh,YR,aan]at hb;obtain⟨⟨⟨⟨⟨⟨h1,h2⟩,h3⟩,h4⟩,h5⟩,h6⟩,h7⟩:=hb;refine⟨λ z e=>by subst e;simpa using h1,λ z e=>by subst e;simpa using h2,λ z e=>by subst e;simpa using h3,Wm h4,Wm h5,Wm h6,h7⟩

def er (h:SR cx E s a w){lo hi mx:Option Operand}{l r m:Option Int}(hl:AL s lo=Ge l)(hh:AL s hi=Ge r)(hm:AL s mx=Ge m){n:Nat}(hb:aV l r m n=Ga)(b:Bool)(cap:Nat)(hc:n<=cap):
  (Y8 b n cap (lo.map a.eval) (hi.map a.eval) (mx.map a.eval)).run P w= .ok (cY l,bk r n,bk m cap) w:=by
 obtain⟨z1,z2,z3,h1,h2,h3,h4⟩:=fA hb;refine zu b n cap _ _ _ _ _ _ ?_ ?_ ?_ h1 ?_ ?_
 ·rcases ji h hl with⟨rfl,e⟩|⟨k,z,rfl,e⟩
  ·exact .inl ⟨e,rfl⟩
  ·exact .inr ⟨k,by rw[e];simp[cY,Yk (z1 z rfl)]⟩
 ·rcases ji h hh with⟨rfl,e⟩|⟨k,z,rfl,e⟩
  ·refine .inl ⟨e,?_,rfl⟩
   rcases h4 with rfl|h4
   ·rcases ji h hm with⟨_,e⟩|⟨k,z,e,_⟩
    ·exact e
    ·cases e
   ·cases h4
  ·exact .inr ⟨k,by rw[e];simp[bk,Yk (z2 z rfl)]⟩
 ·rcases ji h hm with⟨rfl,e⟩|⟨k,z,rfl,e⟩
  ·exact .inl ⟨e,rfl⟩
  ·exact .inr ⟨k,by rw[e];simp[bk,Yk (z3 z rfl)]⟩
 ·cases m with
  |none=>simp only[bk]at h2 ⊢;omega
  |some z=>exact h2
 ·cases m with
  |none=>exact Wl _
  |some z=>simp only[bk]at h3 ⊢;omega

def mU (T:TT)(s:AS)(t:TypeId)(x:Operand)(lo hi mx:Option Operand):Ev:=
 match AL s lo,AL s hi,AL s mx with
 |some l,Ge h,Ge m=>match T.get t,eG s x with
  |some ⟨.slice e,_,_,_,_⟩,Ge (.ref k g off n sz)=>match T.get e with
   |some ei=>.cond (aV l h m n&&V9 sz ei.size) (.ok (Ge (.ref k g (off+cY l*sz) (nH n l h) sz)) [])
   |none=>.stuck
  |some ⟨.slice e,_,_,_,_⟩,Ge (.sl nn n sz cells)=>match T.get e with
   |some ei=>.cond (aV l h m n&&V9 sz ei.size) (.ok (Ge (.sl nn (nH n l h) sz (JB cells l h sz))) [])
   |none=>.stuck
  |some ⟨.slice e,_,_,_,_⟩,Ge (.v (.slice z9 0 0))=>match T.get e with
   |some _=>.cond (aV l h m 0) (.ok (Ge (.v (.slice z9 0 0))) [])
   |none=>.stuck
  |some ⟨.string,_,_,_,_⟩,Ge (.v (.string b))=>.cond (aV l h z9 b.size&&m.isNone&&mx.isNone) (.ok (Ge (.v (.string (b.extract (cY l) (bk h b.size))))) [])
  |some ⟨.array len e,_,_,_,_⟩,Ge (.ptr k g off)=>match T.get e,s.at k with
   |some ei,Ge p=>.cond (aV l h m len&&V9 g p.1&&Wf (off+len*ei.size) p.2.cells.length&&Wf len fz) (.ok (Ge (.ref k g (off+cY l*ei.size) (nH len l h) ei.size)) [])
   |_,_=>.stuck
  |_,_=>.stuck
 |_,_,_=>.stuck

def jj {t e:TypeId}{x:Operand}{lo hi mx:Option Operand}{z:Value}{sz by_:Nat}{pl_:Bool}(hT:T.ok P)(ho:o.op= .slice t x lo hi mx)(hti:T.get t=Ge ⟨.slice e,z,sz,by_,pl_⟩){ei:TI}(hei:T.get e=Ge ei){ad:Option Addr}{n c:Nat}(hx:a.eval x= .slice ad n c)
  {l h m:Nat} (hb:(Y8 Ga n c (lo.map a.eval) (hi.map a.eval) (mx.map a.eval)).run P w= .ok (l,h,m) w):
  (execOp a.eval o).run P w= .ok (.value (.slice (if m=l then ad else ad.map (·.add (l*ei.size))) (h-l) (m-l))) w:=by
 unfold execOp;simp only[ho,hx,aa6,Instr.slice,WF,TT.underlying hT hti w,Wp,hb,TT.sizeOf hT hei w,WK]

def tf (hT:T.ok P)(h:SR cx E s a w){t:TypeId}{x:Operand}{lo hi mx:Option Operand}(ho:o.op= .slice t x lo hi mx){v:Option D}{up:Up}(he:(mU T s t x lo hi mx).run v up):cj P cx E s a w i o v up:=by
 unfold mU at he
 split at he
 case h_2=>exact he.elim
 case h_1 l r m hl hh hm=>
 split at he
 case h_1 e z1 z2 z3 z4 k g off n sz hti hx=>
  split at he
  case h_2=>exact he.elim
  case h_1 ei hei=>
  obtain⟨hc,rfl,rfl⟩:=he;rw[Wh]at hc;obtain⟨hb,hsz⟩:=hc;obtain rfl:sz=ei.size:=Wk hsz;obtain⟨_,_,_,h1,h2,h3,_⟩:=fA hb;have hrx:=h.eval hx;generalize hux:a.eval x=ux at hrx
  cases hrx with
  |ref _ _ _ _ _ c b off' tt mm hg hb2 hc2 hoff hsh hmm=>
   have hbr:=er (P:=P) h hl hh hm hb Ga c hc2.1;have hM:bk r n<=bk m c/\bk m c<=c:=by cases m<;>simp only[bk]at h2 h3 ⊢ <;>omega
   refine .pure h (jj hT ho hti hei hux hbr) ?_;rw[fX]
   by_cases hml:bk m c=cY l
   ·rw[ZF hml]
    refine .ref k g _ _ _ _ b off' tt mm hg hb2 ⟨by omega,by omega⟩ (.inr ⟨by omega,by omega⟩) hsh ?_;have:bk m c-cY l=0:=by omega
    rw[this,XQ];exact Ww (by omega) hmm
   ·rw[ZE hml]
    simp only[Zp,X5];refine .ref k g _ _ _ _ b _ tt mm hg hb2 ⟨by omega,by omega⟩ ?_ hsh ?_
    ·rcases hoff with rfl|⟨rfl,rfl⟩
     ·exact .inl rfl
     ·exact .inr ⟨by omega,by omega⟩
    ·rw[XW,<-Xt]
     have:cY l+(bk m c-cY l)<=c:=by omega
     exact Ww (aa1 (W8 _ this) _) hmm
  |refn _ _ _ hg hb2=>
   have hbr:=er (P:=P) h hl hh hm hb Ga 0 (Wl _);have e0:cY l=0:=by omega
   have e1:bk m 0=0:=by cases m<;>simp only[bk]at h3 ⊢ <;>omega
   have e2:bk r 0=0:=by omega
   rw[e0,e1,e2]at hbr;refine .pure h (jj hT ho hti hei hux hbr) ?_;rw[fX,e0,e2,ZF rfl,XQ];exact .refn k g _ hg hb2
 case h_2 e z1 z2 z3 z4 nn n sz cells hti hx=>
  split at he
  case h_2=>exact he.elim
  case h_1 ei hei=>
  obtain⟨hc,rfl,rfl⟩:=he;rw[Wh]at hc;obtain⟨hb,hsz⟩:=hc;obtain rfl:sz=ei.size:=Wk hsz;obtain⟨_,_,_,h1,h2,h3,_⟩:=fA hb;have hrx:=h.eval hx;generalize hux:a.eval x=ux at hrx
  cases hrx with
  |sl _ _ _ _ ad c us hlen hd hone hn hs hc2 hnil hr=>
   have hbr:=er (P:=P) h hl hh hm hb Ga c hc2.1;have hM:bk r n<=bk m c/\bk m c<=c:=by cases m<;>simp only[bk]at h2 h3 ⊢ <;>omega
   have hseg:=EJ hn l r (by omega);have hle:cY l*ei.size+nH n l r*ei.size<=n*ei.size:=by
    rw[<-Xt];exact W8 _ (by rw[fX];omega)
   refine .pure h (jj hT ho hti hei hux hbr) ?_;rw[hseg,show bk r n-cY l=nH n l r from(fX n l r).symm];refine .sl nn _ _ _ _ _ ((us.drop (cY l*ei.size)).take (nH n l r*ei.size)) (by simp only[Wi,Wy,hlen]) (λ j d u hj hk=>?_) (λ u hu=>hone u (YA (Xs hu))) ?_ hs ⟨?_,?_⟩ ?_ ?_
   ·rw[Xa]at hj hk
    split at hj
    ·rename_i hlt
     rw[ZF hlt,Xr]at hk;rw[Xr]at hj;exact hd _ _ _ hj hk
    ·cases hj
   ·rw[Wi,Wy,hn];omega
   ·rw[fX];omega
   ·omega
   ·intro hnone
    have:ad=none:=by
     split at hnone
     ·exact hnone
     ·cases ad with|none=>rfl|some _=>cases hnone
    obtain⟨rfl,hnn⟩:=hnil this;exact⟨by omega,hnn⟩
   ·by_cases hml:bk m c=cY l
    ·exact .inl (by rw[fX];omega)
    ·rw[ZE hml]
     rcases hr with hr|⟨b,off,rfl,hb',ho',hcell⟩
     ·exact .inl (by rw[fX];omega)
     ·refine .inr ⟨b,off+cY l*ei.size,by simp only[Zp,X5],hb',ho',λ j u hj=>?_⟩
      rw[Xa]at hj
      split at hj
      ·rw[Xr]at hj
       rw[XW];exact hcell _ u hj
      ·cases hj
 case h_3 e z1 z2 z3 z4 hti hx=>
  split at he
  case h_2=>exact he.elim
  case h_1 ei hei=>
  obtain⟨hb,rfl,rfl⟩:=he;obtain⟨_,_,_,h1,h2,h3,_⟩:=fA hb;have hrx:=h.eval hx;generalize hux:a.eval x=ux at hrx
  cases hrx
  have hbr:=er (P:=P) h hl hh hm hb Ga 0 (Wl _);have e0:cY l=0:=by omega
  have e1:bk m 0=0:=by omega
  have e2:bk r 0=0:=by omega
  rw[e0,e1,e2]at hbr;refine .pure h (jj hT ho hti hei hux hbr) ?_;rw[ZF rfl];exact .v _ rfl
 case h_4 z1 z2 z3 z4 b hti hx=>
  obtain⟨hc,rfl,rfl⟩:=he;simp only[Wh,aan]at hc;obtain⟨⟨hb,rfl⟩,hmx⟩:=hc;subst hmx;have hrx:=h.eval hx;generalize hux:a.eval x=ux at hrx
  cases hrx
  have hbr:=er (P:=P) h hl hh hm hb Gd b.size (Wl _);refine .pure h ?_ (.v _ rfl);unfold execOp;simp only[Option.map_none]at hbr;simp only[ho,hux,aa6,Instr.slice,WF,TT.underlying hT hti w,Wp,Option.map_none,Option.isSome_none,Ye,if_false,WK,hbr]
 case h_5 len e z1 z2 z3 z4 k g off hti hx=>
  split at he
  case h_2=>exact he.elim
  case h_1 ei p hei hp=>
  obtain⟨hc,rfl,rfl⟩:=he;obtain⟨g',blk⟩:=p;simp only[Wh]at hc;obtain⟨⟨⟨hb,hgg⟩,hle⟩,hmax⟩:=hc;have e:g=g':=Wk hgg;subst e;have hle:=Wm hle;have hmax:=Wm hmax;obtain⟨_,_,_,h1,h2,h3,_⟩:=fA hb;have hrx:=h.eval hx;generalize hux:a.eval x=ux at hrx
  cases hrx with
  |ptr _ _ _ b hg hb2=>
  obtain⟨hlt,_,cur,fr,hcur,_,hcl,_,_⟩:=h.block hp hb2;have hbr:=er (P:=P) h hl hh hm hb Gd len (Wl _);have hrun:(execOp a.eval o).run P w= .ok (.value (.slice (Ge (if bk m len=cY l then⟨b,off,z9⟩else(⟨b,off,z9⟩:Addr).add (cY l*ei.size))) (bk r len-cY l) (bk m len-cY l))) w:=by
   unfold execOp;simp only[ho,hux,aa6,ZI,WF,TT.underlying hT hti w,Wp,hbr,TT.sizeOf hT hei w,WK]
  refine .pure h hrun ?_;rw[fX]
  by_cases hml:bk m len=cY l
  ·rw[ZF hml]
   refine .ref k g _ _ _ _ b off _ _ hg hb2 ⟨by omega,by omega⟩ (.inr ⟨by omega,by omega⟩) (aO hcur) ?_;have:bk m len-cY l=0:=by omega
   rw[this,XQ];omega
  ·rw[ZE hml]
   simp only[X5];refine .ref k g _ _ _ _ b _ _ _ hg hb2 ⟨by omega,by omega⟩ (.inl rfl) (aO hcur) ?_;rw[XW,<-Xt];have:cY l+(bk m len-cY l)<=len:=by omega
   exact Ww (aa1 (W8 _ this) _) (by omega)
 case h_6=>exact he.elim
end
section
variable {P:Program} {cx:Cx} {E:Env} {s:AS} {a:Act} {w:World} {i:Nat} {o:Oper} {T:TT}

def Stp.drew (E:Env)(w:World):Stp E E w w.drew:=⟨λ _ h=>h,λ _ _=>rfl,Wl _,λ _ _ h=>⟨h,rfl⟩,λ _ _=>rfl⟩
def OB.drew {g:Nat}{k:Ob}(h:OB E w g k)(hown:∀b,E.φ g=Ge b->E.own b):OB E w.drew g k:=h.step (Stp.drew E w) λ b hb=>⟨hown b hb,rfl⟩
def SR.drew (h:SR cx E s a w):SR cx E s a w.drew:=
 {h with
  fr:=λ t d hd=>by obtain⟨u,hu,hr⟩:=h.fr t d hd;exact⟨u,hu,hr.step (Stp.drew E w)⟩
  hp:=λ k g b hk=>OB.drew (k:=.b b) (h.hp k g b hk) λ x hx=>h.own_of ⟨k,g,_,AS.at_iff.1 hk,hx⟩
  lp:=λ k g b hk=>OB.drew (k:=.l b) (h.lp k g b hk) λ x hx=>h.own_of ⟨k,g,_,AS.lat_iff.1 hk,hx⟩
  df:=h.df
  bel:=h.bel.trans (Fr.drew _ w)
  szB:=h.szB}

def SR.kill (h:SR cx E s a w)(k:Nat):SR cx ⟨E.φ,dV E {s with hp:=s.hp.set k z9} E.φ,E.nm⟩ {s with hp:=s.hp.set k z9} a w/\Stp E ⟨E.φ,dV E {s with hp:=s.hp.set k z9} E.φ,E.nm⟩ w w:=by
 have sub:∀{k' g' o'},AS.gat {s with hp:=s.hp.set k z9} k'=Ge (g',o')->s.gat k'=Ge (g',o'):=fun{k' g' o'} hk=>by
  rcases Tr.of_set hk with⟨_,hv⟩|⟨_,hk⟩
  ·cases hv
  ·exact hk
 have hs:Stp E ⟨E.φ,dV E {s with hp:=s.hp.set k z9} E.φ,E.nm⟩ w w:=⟨λ _ h=>h,λ _ _=>rfl,Wl _,λ b _ ho=>⟨λ hh=>hh.elim ho fun⟨k',g',b',hk,hx⟩=>ho (h.own_of ⟨k',g',b',sub hk,hx⟩),rfl⟩,λ _ _=>rfl⟩
 have hold:∀{k' g' o'},AS.gat {s with hp:=s.hp.set k z9} k'=Ge (g',o')->OB ⟨E.φ,dV E {s with hp:=s.hp.set k z9} E.φ,E.nm⟩ w g' o':=fun{k' g' o'} hk=>(h.ob (sub hk)).step hs λ x hx=>⟨.inr ⟨k',g',o',hk,hx⟩,rfl⟩
 refine⟨h.turn _ _ rfl hs (λ k' g' b' hk=>hold (AS.at_iff.1 hk)) (λ k' g' b' hk=>hold (AS.lat_iff.1 hk)) (λ k1 k2 g1 g2 b1 b2 hkk h1 h2 x hx1=>h.inj k1 k2 g1 g2 b1 b2 hkk (sub h1) (sub h2) x hx1)
  (λ x ⟨k',g',b',hk,hx⟩=>h.low x ⟨k',g',b',sub hk,hx⟩) (Fr.refl _ _) h.nm (λ _ _ _=>rfl),hs⟩

def SR.rename {w':World}(h:SR cx E s a w){g ky k i:Nat}(hi:i∉s.us)(hg:s.nx+8*i<=g/\g<s.nx+8*i+8)(bo:Option Nat)(hbo:∀b,bo=Ge b->∃g0 blk0,s.at k=Ge (g0,blk0)/\E.φ g0=Ge b)
  (nb:Blk) (hgr:w.grownBy w' bo) (hz:w'.heap.size=w.heap.size) (hshape:∀b,b<w.heap.size->w'.shape? b=w.shape? b)
  (hnb:match bo with|none=>nb.cells=[]/\nb.row=Ga|some b=>∃(cur:Array Value) (fr:Nat×Nat),w'.heap[b]? =Ge (.cells cur nb.elem fr)/\gx fr cur.size/\nb.cells.length<=cur.size/\(nb.row=Gd->cur.size=nb.cells.length)/\
   (∀(j:Nat) d,nb.cells[j]? =Ge d->∃u,cur[j]? =Ge u/\u.oneCell'=Ga/\RD E w d u)):
  let s':AS:={s with hp:=(s.hp.set k z9).set ky (Ge (g,.b nb)),us:=i::s.us}
  SR cx (E.add s' g bo) s' a w'/\Stp E (E.add s' g bo) w w'/\(E.add s' g bo).nm g/\(E.add s' g bo).φ g=bo/\Mut s s' E (E.add s' g bo) w w':=by
 intro s';have hfr:¬E.nm g:=λ hn=>by
  rcases h.nm g hn with h1|⟨j,hj,h1,h2⟩
  ·omega
  ·have:j=i:=by omega
   subst this;exact hi hj
 have hne:∀{k g' o},s.gat k=Ge (g',o)->g'≠g:=λ hk e=>by subst e;exact hfr (h.ob hk).nm
 have hlt:∀{k g' o x},s.gat k=Ge (g',o)->E.φ g'=Ge x->x<w.heap.size:=λ hk hx=>(h.ob hk).lt hx
 have hsub:∀{k' g' o'},s'.gat k'=Ge (g',o')->(k'=ky/\g'=g/\o'= .b nb)\/(k'≠k/\k'≠ky/\s.gat k'=Ge (g',o')):=fun{k' g' o'} hk=>by
  rcases Tr.of_set hk with⟨e,hv⟩|⟨e1,hk⟩
  ·cases hv;exact .inl ⟨e,rfl,rfl⟩
  ·rcases Tr.of_set hk with⟨_,hv⟩|⟨e2,hk⟩
   ·cases hv
   ·exact .inr ⟨e2,e1,hk⟩
 have hbo':∀b,bo=Ge b->bu s E.φ b:=λ b hb=>by
  obtain⟨g0,blk0,h1,h2⟩:=hbo b hb;exact⟨k,g0,.b blk0,AS.at_iff.1 h1,h2⟩
 have hbown:∀b,bo=Ge b->E.own b:=λ b hb=>h.own_of (hbo' b hb)
 have hs:Stp E (E.add s' g bo) w w':=by
  refine⟨λ x hx=>.inl hx,λ x hx=>bm (λ e=>by subst e;exact hfr hx),by omega,λ b hb ho=>⟨?_,hgr.block b hb (λ e=>ho (hbown b e.symm))⟩,hshape⟩;rintro(ho'|⟨k',g',blk,hk,hx⟩)
  ·exact ho ho'
  rcases hsub hk with⟨_,e,_⟩|⟨h1,h2,h3⟩
  ·subst e;rw[bX]at hx;exact ho (hbown b hx)
  ·rw[bm (hne h3)]at hx
   exact ho (h.own_of ⟨k',g',blk,h3,hx⟩)
 have hφg:(E.add s' g bo).φ g=bo:=bX _ _ _;have hmut:Mut s s' E (E.add s' g bo) w w':=⟨λ b _ hb _=>.inl hb,λ b hb ho=>hgr.block b hb (λ e=>ho (hbo' b e.symm)),λ x hlt' ⟨k',g',blk,hk,hx⟩=>by
  have hx:AG E.φ g bo g'=Ge x:=hx;rcases hsub hk with⟨_,e,_⟩|⟨h1,h2,h3⟩
  ·subst e;rw[bX]at hx;exact hbo' x hx
  ·rw[bm (hne h3)]at hx;exact⟨k',g',blk,h3,hx⟩⟩
 have hold:∀{k' g' o'},s'.gat k'=Ge (g',o')->OB (E.add s' g bo) w' g' o':=fun{k' g' o'} hk=>by
  rcases hsub hk with⟨rfl,rfl,rfl⟩|⟨h1,h2,h3⟩
  ·refine⟨.inr rfl,?_⟩
   show match(E.add s' g' bo).φ g' with|none=>_|some b=>_
   rw[hφg]
   cases bo with
   |none=>exact hnb
   |some b=>
    obtain⟨cur,fr,c1,c2,c3,c4,c5⟩:=hnb;obtain⟨g0,blk0,hk0,hb0⟩:=hbo b rfl;refine⟨.inr ⟨k',g',_,hk,hφg⟩,by rw[hz];exact hlt (AS.at_iff.1 hk0) hb0,cur,fr,c1,c2,c3,c4,λ j d hj=>?_⟩;obtain⟨u,hu,h1,hr⟩:=c5 j d hj;exact⟨u,hu,h1,hr.step hs⟩
  ·refine(h.ob h3).step hs λ b hb=>⟨.inr ⟨k',g',o',hk,(bm (hne h3)).trans hb⟩,hgr.block b (hlt h3 hb) (λ e=>?_)⟩
   obtain⟨g0,blk0,hk0,hb0⟩:=hbo b e.symm;exact h.inj k' k g' g0 o' (.b blk0) h1 h3 (AS.at_iff.1 hk0) b hb hb0
 refine⟨h.turn _ _ rfl hs (λ k g' b hk=>hold (AS.at_iff.1 hk)) (λ k g' r hk=>hold (AS.lat_iff.1 hk)) ?_ ?_ ?_ ?_ hmut.heap,hs,.inr rfl,hφg,hmut⟩
 ·intro k1 k2 g1 g2 b1 b2 hkk h1 h2 x hx1 hx2
  have other:∀{k' g' o'},k'≠k->s.gat k'=Ge (g',o')->AG E.φ g bo g'=Ge x->bo≠Ge x:=λ hk' h3 hx e=>by
   rw[bm (hne h3)]at hx;obtain⟨g0,blk0,hk0,hb0⟩:=hbo x e;exact h.inj _ k _ g0 _ (.b blk0) hk' h3 (AS.at_iff.1 hk0) x hx hb0
  rcases hsub h1 with⟨e1,f1,f2⟩|⟨a1,a2,a3⟩<;>rcases hsub h2 with⟨e2,e3,e4⟩|⟨c1,c2,c3⟩
  ·exact hkk (e1.trans e2.symm)
  ·subst f1
   rw[bX]at hx1;exact other c1 c3 hx2 hx1
  ·subst e3
   rw[bX]at hx2;exact other a1 a3 hx1 hx2
  ·rw[bm (hne a3)]at hx1
   rw[bm (hne c3)]at hx2;exact h.inj k1 k2 g1 g2 b1 b2 hkk a3 c3 x hx1 hx2
 ·rintro x ⟨k',g',blk,hk,hx⟩
  have hx:AG E.φ g bo g'=Ge x:=hx;rcases hsub hk with⟨_,e,_⟩|⟨h1,h2,h3⟩
  ·subst e;rw[bX]at hx;exact h.low x (hbo' x hx)
  ·rw[bm (hne h3)]at hx
   exact h.low x ⟨k',g',blk,h3,hx⟩
 ·exact Fr.of_grown hgr (λ x e=>h.low x (hbo' x e)) hs.shape
 ·rintro n (hn|rfl)
  ·rcases h.nm n hn with h1|⟨j,hj,h1⟩
   ·exact .inl h1
   ·exact .inr ⟨j,WG _ hj,h1⟩
  ·exact .inr ⟨i,WH,hg⟩

def gW:TypeDesc->Bool
 | .string=>Ga
 |_=>Gd
def gX (s:AS)(es:Nat)(dd:TypeDesc):D->Option (Bool×Nat×GA)
 | .sl _ n sz cells=>Ge (cQ dd&&V9 sz es,n,cells)
 | .ref k g off n sz=>match s.at k with
  |some p=>Ge (cQ dd&&V9 g p.1&&V9 sz es&&Wf (off+n*sz) p.2.cells.length,n,bif V9 off 0&&V9 (n*sz) p.2.cells.length then p.2.cells else(p.2.cells.drop off).take (n*sz))
  |none=>z9
 | .v (.slice z9 0 0)=>Ge (cQ dd,0,[])
 | .v (.string b)=>Ge (gW dd&&V9 es 1,b.size,b.data.toList.map dB)
 |_=>z9

def k5 (hT:T.ok P)(h:SR cx E s a w){d:D}{u:Value}(hr:RD E w d u){es:Nat}{c:Bool}{n:Nat}{cells:GA}{tx:TypeId}{ti:TI}(hs:gX s es ti.desc d=Ge (c,n,cells))(hc:c=Ga)(htx:T.get tx=Ge ti):
  ∃news:List Value,Src P es tx u n news w/\news.length=cells.length/\∀(j:Nat) e v,cells[j]? =Ge e->news[j]? =Ge v->RD E w e v:=by
 have hu:=(hT tx ti htx).1;have hsl:cQ ti.desc=Ga->∃e',P.underlying tx=Ge (.slice e'):=λ hk=>by
  cases hd:ti.desc<;>simp[hd,cQ]at hk
  rw[hd]at hu;exact⟨_,hu⟩
 cases hr with
 |v cst h1=>
  unfold gX at hs
  split at hs
  case h_3 e=>cases e;cases hs;obtain⟨e',he⟩:=hsl hc;exact⟨[],Src.ofNil w he 0,rfl,by simp⟩
  case h_4 b e=>
   cases e;cases hs
   rw[Wh]at hc;obtain rfl:es=1:=Wk hc.2;refine⟨byteCells b,Src.ofString w (by rw[hu];have:=hc.1;cases hd:ti.desc<;>simp[hd,gW]at this;rfl) b,by simp[byteCells],λ j e v he hv=>?_⟩;simp only[WB,Xu,byteCells]at he hv;obtain⟨x,hx,rfl⟩:=he;obtain⟨y,hy,rfl⟩:=hv;rw[hx]at hy;cases hy;exact .v _ rfl
  all_goals first|(rename_i e;cases e;done)|cases hs
 |sl nn n' sz cs ad c' us hlen hd hone hn hs' hc2 hnil hr=>
  cases hs
  rw[Wh]at hc;obtain rfl:sz=es:=Wk hc.2;obtain⟨e',he⟩:=hsl hc.1
  cases ad with
  |none=>
   obtain⟨rfl,_⟩:=hnil rfl;obtain rfl:n=0:=by omega
   have:cells=[]:=WY (by rw[hn];omega);subst this;exact⟨[],Src.ofNil w he 0,rfl,by simp⟩
  |some ad=>
   refine⟨us,Src.ofSlice w he ad n c' us (by rw[hlen,hn]) (λ j v hv=>?_) hone,hlen,λ j e v a1 a2=>(hd j e v a1 a2).ofCl⟩;rcases hr with hr|⟨b,off,ha,_,_,hcell⟩
   ·subst hr
    have:us=[]:=WY (by rw[hlen,hn];omega);subst this;cases hv
   ·cases ha;rw[X5];exact hcell j v hv
 |ref k g off n' sz c' b off' t m hg hb hc2 hoff hsh hm=>
  simp only[gX]at hs
  cases hk:s.at k with
  |none=>rw[hk]at hs;cases hs
  |some p=>
  obtain⟨g',blk⟩:=p;rw[hk]at hs;have hs:=Option.some.inj hs;injection hs with bB gu
  injection gu with gu sR
  subst bB gu sR;simp only[Wh]at hc;obtain⟨⟨⟨hst,hgg⟩,hsz⟩,hle⟩:=hc;have e:g=g':=Wk hgg;subst e;obtain rfl:sz=es:=Wk hsz;have hle:=Wm hle;obtain⟨e',he⟩:=hsl hst;obtain⟨hlt,_,cur,fr,hcur,_,hcl,_,hcell⟩:=h.block hk hb;have hv:Vw E w b 0 blk.cells:=λ j d hj=>by
   obtain⟨v,hv1,hv2,hv3⟩:=hcell j d hj;exact⟨v,by rw[WE,cell_of_row w b j cur blk.elem fr hcur];exact hv1,hv2,hv3⟩
  obtain⟨us,hl,hrg,h1,hd⟩:=hv.seg hle;rw[WE]at hrg;have hcells:(bif V9 off 0&&V9 (n'*sz) blk.cells.length then blk.cells else(blk.cells.drop off).take (n'*sz))=(blk.cells.drop off).take (n'*sz):=by
   cases hq:(V9 off 0&&V9 (n'*sz) blk.cells.length)with
   |false=>rfl
   |true=>
    rw[Wh]at hq;have e1:=Wk hq.1;have e2:=Wk hq.2;subst e1;rw[cond_true,XR,e2,XF]
  rw[hcells];refine⟨us,Src.ofSlice w he _ n' c' us hl (λ j v hj=>?_) h1,by rw[hl,Wi,Wy];omega,hd⟩;rw[X5];rcases hoff with rfl|⟨rfl,rfl⟩
  ·exact hrg j v hj
  ·rw[XQ]at hl
   have:=(List.getElem?_eq_some_iff.1 hj).1;omega
 |refn k g sz hg hb=>
  simp only[gX]at hs
  cases hk:s.at k with
  |none=>rw[hk]at hs;cases hs
  |some p=>
  obtain⟨g',blk⟩:=p;rw[hk]at hs;have hs:=Option.some.inj hs;injection hs with bB gu
  injection gu with gu sR
  subst bB gu sR;simp only[Wh]at hc;obtain⟨⟨⟨hst,hgg⟩,hsz⟩,hle⟩:=hc;have e:g=g':=Wk hgg;subst e;obtain⟨e',he⟩:=hsl hst;have:=(h.hp k g blk hk).2;rw[hb]at this;have hnil:(bif V9 0 0&&V9 (0*sz) blk.cells.length then blk.cells else(blk.cells.drop 0).take (0*sz))=[]:=by
   rw[this.1];simp
  rw[hnil];exact⟨[],Src.ofNil w he 0,rfl,by simp⟩
 |_=>cases hs

def vn (s:AS)(e:TypeId)(es:Nat):D->Option (Bool×Option Nat×Nat×GA)
 | .ref k g off n sz=>match s.at k with
  |some p=>Ge (V9 g p.1&&V9 sz es&&V9 off 0&&V9 (n*es) p.2.cells.length&&V9 p.2.elem e,Ge k,n,p.2.cells)
  |none=>z9
 | .v (.slice z9 0 0)=>Ge (Ga,z9,0,[])
 |_=>z9

def RQ (k?:Option Nat)(m n:Nat):Nat:=match k? with|none=>n|some _=>m+n
def U7 (k?:Option Nat)(olds news:GA):GA:=match k? with|none=>news|some _=>olds++news
def j9 (T:TT)(s:AS)(nm ky:Nat)(ts:Array TypeId)(xs:Array Operand):Ev:=
 match ts.toList,xs.toList with
 |[t,tx],[x,y]=>match T.get t,T.get tx,eG s x,eG s y with
  |some ⟨.slice e,_,_,_,_⟩,Ge ti,Ge dx,Ge dy=>match T.get e with
   |some ei=>match vn s e ei.size dx,gX s ei.size ti.desc dy with
    |some (c1,k?,m,olds),Ge (c2,n,news)=>
     .cond (c1&&c2&&Ao (0<ei.size)&&Ao (0<ei.bytes)&&Wf ((m+n)*ei.bytes) 140737488355328)
      (.ok (Ge (.ref ky nm 0 (RQ k? m n) ei.size)) ((ky,Ge (nm,.b ⟨U7 k? olds news,e,Ga⟩))::(match k? with|some k=>[(k,z9)]|none=>[(ky,z9)])))
    |_,_=>.stuck
   |none=>.stuck
  |_,_,_,_=>.stuck
 |_,_=>.stuck

def wX {olds news:GA}{us vs:List Value}(h1:us.length=olds.length)(h2:vs.length=news.length){E:Env}{w:World}(a1:∀(j:Nat) e v,olds[j]? =Ge e->us[j]? =Ge v->RD E w e v)(a2:∀(j:Nat) e v,news[j]? =Ge e->vs[j]? =Ge v->RD E w e v)
  (o1:∀u∈us,u.oneCell'=Ga) (o2:∀u∈vs,u.oneCell'=Ga) (rest:List Value):∀(j:Nat) d,(olds++news)[j]? =Ge d->∃u,(us++vs++rest)[j]? =Ge u/\u.oneCell'=Ga/\RD E w d u:=by
 intro j d hj
 by_cases hlt:j<olds.length
 ·rw[WO hlt]at hj
  have hu:j<us.length:=by omega
  exact⟨us[j],by rw[WI,WO hu];simp[hu],o1 _ (Xf hu),a1 j d _ hj (by simp[hu])⟩
 ·rw[WJ (by omega)]at hj
  have hlt2:=(List.getElem?_eq_some_iff.1 hj).1;have hu:j-us.length<vs.length:=by omega
  refine⟨vs[j-us.length],?_,o2 _ (Xf hu),a2 _ d _ hj (by rw[<-h1];simp[hu])⟩;rw[WI,WJ (by omega),WO hu];simp[hu]

def qK (hT:T.ok P)(h:SR cx E s a w)(hi:i∉s.us){nm ky:Nat}(hg:s.nx+8*i<=nm/\nm<s.nx+8*i+8){c:Call}(ho:o.op= .call c)(hc:c.callee= .builtin .append){v:Option D}{up:Up}(he:(j9 T s nm ky c.argTypes c.args).run v up):
  cj P cx E s a w i o v up:=by
 unfold j9 at he
 split at he
 case h_2=>exact he.elim
 case h_1 t tx x y hts hxs=>
 split at he
 case h_2=>exact he.elim
 case h_1 e z1 z2 z3 z4 ti dx dy hti htx hx hy=>
 split at he
 case h_2=>exact he.elim
 case h_1 ei hei=>
 split at he
 case h_2=>exact he.elim
 case h_1 c1 k? m olds c2 n news hdst hsrc=>
 obtain⟨hcond,rfl,rfl⟩:=he;simp only[Wh,decide_eq_true_eq]at hcond;obtain⟨⟨⟨⟨hc1,hc2⟩,hsz0⟩,hby0⟩,hfit⟩:=hcond;have hfit:=Wm hfit;have e1:c.argTypes= #[t,tx]:=by apply Yl;simpa using hts
 have e2:c.args.map a.eval= #[a.eval x,a.eval y]:=by apply Yl;rw[Yz,hxs];rfl
 have run0:∀{u:Value} {w':World},(Zq #[t,tx] o.type #[a.eval x,a.eval y]).run P w= .ok u w'->(execOp a.eval o).run P w= .ok (.value u) w':=λ hu=>by
  unfold execOp;simp only[ho,resolve,hc,WF,WK,Wp,invoke,builtin,e1,e2,hu]
 have hrx:=h.eval hx;have hry:=h.eval hy;generalize hux:a.eval x=ux at hrx run0;generalize huy:a.eval y=uy at hry run0;obtain⟨hu1,hzl,⟨j0,hj1,hj2,hj3,hj4⟩,_⟩:=hT e ei hei;have hu0:=(hT t _ hti).1;obtain⟨vs,hS,hvl,hvd⟩:=k5 hT h hry hsrc hc2 htx;have hS':Src P j0.size tx uy n vs w:=by rw[hj3];exact hS
 have hmax:m+n<=fz:=by
  have:m+n<=(m+n)*ei.bytes:=Zv _ hby0;unfold fz;omega
 have hgrow:∀cap,cap<m+n->YB (m+n) cap*j0.bytes<=281474976710656:=λ cap hcap=>by
  rw[hj4];have h1:=nextslicecap_le (need:=m+n) (old:=cap) hcap;have h2:YB (m+n) cap*ei.bytes<=2*(m+n)*ei.bytes:=W8 _ h1;rw[XS]at h2;omega
 have hcap:=grownCap_ge w (m+n);have hcapm:=λ cap=>grownCap_le_maxLen w (m+n) cap e (by unfold maxLen;unfold fz at hmax;omega)
 -- a new row,whatever stood there
 have grows:∀(base:Option Addr) (cap:Nat) (k:Nat) (us:List Value),ux= .slice base m cap->cap<m+n->us.length=olds.length->us.length=m*ei.size->(∀(j:Nat) e v,olds[j]? =Ge e->us[j]? =Ge v->RD E w e v)->(∀u∈us,u.oneCell'=Ga)->
   (Zs j0.size m (.slice base m cap)).run P w.drew= .ok us.toArray w.drew->
   cj P cx E s a w i o (Ge (.ref ky nm 0 (m+n) ei.size)) [(ky,Ge (nm,.b ⟨olds++news,e,Ga⟩)),(k,z9)]:=by
  intro base cap k us hbase hlt hul hum hud huo hfc;subst hbase;have hr:=run_append_grow_src (P:=P) w t tx o.type e j0 ei.zero (by rw[hu0]) hj1 hj2 base m cap us hfc uy n vs hS' hlt (by unfold fz at hmax;omega) (hgrow cap hlt);obtain⟨k1,k2⟩:=h.kill k;have k1':=k1.drew;obtain⟨q1,q2,q3,q4,q5⟩:=k1'.new (ky:=ky) hi hg e (olds++news) (us++vs++(YD ei.zero.cells (grownCap w (m+n) cap e-(m+n))).toList) Ga (0,0) (gx.zero _) (by simp[hul,hvl]) (λ hh=>by cases hh)
   (λ j d hj=>by
    obtain⟨u,a1,a2,a3⟩:=wX (E:=E) (w:=w) hul hvl hud hvd huo hS.one _ j d hj;exact⟨u,a1,a2,(a3.step k2).step (Stp.drew _ w)⟩)
  refine⟨_,_,(k2.trans (Stp.drew _ w)).trans q2,q1,⟨λ b hz hb hn=>q5.own b hz (.inl hb) fun⟨k',g',blk',hk',hx'⟩=>hn (by
   rcases Tr.of_set hk' with⟨_,hv⟩|⟨_,hk'⟩
   ·cases hv
   ·exact⟨k',g',blk',hk',hx'⟩),λ b hb _=>Yt w.drew _ b hb,λ x hx hw=>?_⟩,.slice (Ge ⟨w.heap.size,0,z9⟩) (m+n) (grownCap w (m+n) cap e),?_,?_⟩
  ·obtain⟨k',g',blk',hk',hx'⟩:=q5.old x hx hw
   rcases Tr.of_set hk' with⟨_,hv⟩|⟨_,hk'⟩
   ·cases hv
   ·exact⟨k',g',blk',hk',hx'⟩
  ·rw[run0 hr]
   congr 2
   simp
  ·have hc2:=hcap cap e
   have hc3:=hcapm cap;refine .ref ky nm 0 (m+n) ei.size _ w.heap.size 0 e _ q3 q4 ⟨hc2,by unfold maxLen at hc3;unfold fz;omega⟩ (.inl rfl) (aO (cg w.drew _)) ?_;simp[YD,hum,hS.newsLen,hzl];rw[<-Xt,<-Xt];exact W8 _ (by omega)
 -- nothing stood there
 have nils:∀k,ux= .slice z9 0 0->m=0->olds=[]->cj P cx E s a w i o (Ge (.ref ky nm 0 (m+n) ei.size)) [(ky,Ge (nm,.b ⟨olds++news,e,Ga⟩)),(k,z9)]:=by
  intro k hux0 hm0 ho0;subst hm0 ho0;rcases YP n with hn0|hn0
  ·subst hn0
   have hvs:vs=[]:=WY (by rw[hS.newsLen];omega);have hnews:news=[]:=WY (by rw[<-hvl,hvs];rfl);subst hnews hvs hux0;have hr:=run_append_nothing (P:=P) w t tx o.type e j0 (by rw[hu0]) hj1 z9 0 0 (Wl _) uy hS';obtain⟨q1,q2,q3,q4,q5⟩:=h.rename (ky:=ky) (k:=k) hi hg z9 (λ b hb=>by cases hb) ⟨[],e,Ga⟩ (vg _ _) rfl (λ _ _=>rfl) ⟨rfl,rfl⟩;exact⟨_,_,q2,q1,q5,_,run0 hr,.refn ky nm ei.size q3 q4⟩
  ·exact grows z9 0 k [] hux0 (by omega) rfl (by simp) (by simp) (by simp) (run_firstCells_none w.drew _ _ _ _)
 cases hrx with
 |v cst h1=>
  unfold vn at hdst
  split at hdst
  case h_2 e1=>
   cases e1;cases hdst
   have hh:=nils ky rfl rfl rfl;rw[WE]at hh;exact hh
  all_goals first|(rename_i e1;cases e1;done)|cases hdst
 |ref k g off n' sz c' b off' tt mm hg' hb hc3 hoff hsh hmm=>
  simp only[vn]at hdst
  cases hk:s.at k with
  |none=>rw[hk]at hdst;cases hdst
  |some p=>
  obtain⟨g',blk⟩:=p;rw[hk]at hdst;have hs:=Option.some.inj hdst;injection hs with bB gu
  injection gu with gu sR
  injection sR with sR Hb
  subst bB gu sR Hb;simp only[Wh]at hc1;obtain⟨⟨⟨⟨hgg,hsz⟩,hof⟩,hlen⟩,hel⟩:=hc1;obtain rfl:g=g':=Wk hgg;obtain rfl:sz=ei.size:=Wk hsz;obtain rfl:off=0:=Wk hof;have hlen:=Wk hlen;have hel:blk.elem=e:=Wk hel;obtain⟨hlt,hown,cur,fr,hcur,hfz,hcl,_,hcell⟩:=h.block hk hb;have hshm:mm=cur.size:=by rw[aO hcur]at hsh;cases hsh;rfl
  by_cases hroom:n'+n<=c'
  ·-- there is room
   have hcells:∀j,j<vs.length->(off'+n'*j0.size+j)<cur.size:=λ j hj=>by
    rw[hS'.newsLen]at hj;have h1:n'*j0.size+n*j0.size<=c'*ei.size:=by rw[hj3,<-Xt];exact W8 _ hroom
    omega
   have hr:=run_append_room_src (P:=P) w t tx o.type e j0 (by rw[hu0]) hj1 b off' n' c' uy n vs hS' hroom
    (λ j hj=>by rw[cell_of_row w b _ cur blk.elem fr hcur,XZ (hcells j hj)];rfl) (λ j hj=>jf w b _ cur blk.elem fr hcur hfz (hcells j hj))
   have hoff0:off'=0\/(n'=0/\n=0):=by
    rcases hoff with h1|⟨h1,h2⟩
    ·exact .inl h1
    ·exact .inr ⟨h1,by omega⟩
   have hvlen:vs.length=n*ei.size:=by rw[hS.newsLen]
   have hfitc:off'+n'*j0.size+vs.length<=cur.size:=by
    rw[hvlen,hj3];have h1:n'*ei.size+n*ei.size<=c'*ei.size:=by rw[<-Xt];exact W8 _ hroom
    omega
   obtain⟨cur',hcur',hsz',hget'⟩:=fj w b (off'+n'*j0.size) cur blk.elem fr vs hcur hfitc;obtain⟨hgr,hz⟩:=da b vs (off'+n'*j0.size) w;obtain⟨q1,q2,q3,q4,q5⟩:=h.rename (ky:=ky) (k:=k) hi hg (Ge b) (λ b' hb'=>by cases hb';exact⟨g,blk,hk,hb⟩) ⟨blk.cells++news,e,Ga⟩ hgr hz
    (λ x hx=>by
     by_cases e1:x=b
     ·subst e1;rw[aO hcur,aO hcur',hsz']
     ·exact cz (hgr.block x hx (λ e2=>by cases e2;exact e1 rfl)))
    ⟨cur',fr,by rw[<-hel];exact hcur',by rw[hsz'];exact hfz,by
     rw[Wc,<-hvl,<-hlen,hvlen,hsz',<-hshm,<-Xt];exact Ww (W8 _ hroom) (by omega),(λ hh=>by cases hh),λ j d hj=>by
     rcases WR j blk.cells.length with hjl|hjl
     ·rw[WO hjl]at hj
      obtain⟨u,h1,h2,h3⟩:=hcell j d hj;refine⟨u,?_,h2,h3⟩;rw[hget',ZE (λ hh=>?_)]
      ·exact h1
      ·rcases hoff0 with h0|⟨h0,h0'⟩
       ·rw[hj3]at hh;omega
       ·rw[hvlen,h0',XQ]at hh;omega
     ·rw[WJ hjl]at hj
      have hjn:=(List.getElem?_eq_some_iff.1 hj).1;have hjv:j-blk.cells.length<vs.length:=by omega
      have h0:off'=0:=by
       rcases hoff0 with h0|⟨h0,h0'⟩
       ·exact h0
       ·rw[hvlen,h0',XQ]at hjv;omega
      refine⟨vs[j-blk.cells.length],?_,hS.one _ (Xf hjv),hvd _ d _ hj (by simp[hjv])⟩;rw[hget',ZF (by rw[hj3];omega)];have:j-(off'+n'*j0.size)=j-blk.cells.length:=by rw[hj3];omega
      rw[this];simp[hjv]⟩
   refine⟨_,_,q2,q1,q5,_,run0 hr,.ref ky nm 0 (n'+n) ei.size c' b off' blk.elem cur.size q3 q4 ⟨hroom,hc3.2⟩ ?_ ?_ (by omega)⟩
   ·rcases hoff with h1|⟨h1,h2⟩
    ·exact .inl h1
    ·exact .inr ⟨by omega,h2⟩
   ·rw[aO hcur',hsz']
  ·-- there is z9
   have hv:Vw E w b 0 blk.cells:=λ j d hj=>by
    obtain⟨v,hv1,hv2,hv3⟩:=hcell j d hj;exact⟨v,by rw[WE,cell_of_row w b j cur blk.elem fr hcur];exact hv1,hv2,hv3⟩
   obtain⟨us,hl,hrg,h1,hd⟩:=hv.seg (off:=0) (m:=blk.cells.length) (by omega);refine grows (Ge ⟨b,off',z9⟩) c' k us rfl (by omega) hl (by rw[hl,hlen]) (λ j d v hj hv'=>hd j d v (by rw[XR,XF];exact hj) hv') h1 ?_;refine run_firstCells_some w.drew _ _ _ _ _ us (by rw[hl,hj3,hlen]) (λ j v hj=>?_);rw[X5];rcases hoff with rfl|⟨h0,h0'⟩
   ·exact hrg j v hj
   ·have:=(List.getElem?_eq_some_iff.1 hj).1
    rw[hl,<-hlen,h0,XQ]at this;omega
 |refn k g sz hg' hb=>
  simp only[vn]at hdst
  cases hk:s.at k with
  |none=>rw[hk]at hdst;cases hdst
  |some p=>
  obtain⟨g',blk⟩:=p;rw[hk]at hdst;have hs:=Option.some.inj hdst;injection hs with bB gu
  injection gu with gu sR
  injection sR with sR Hb
  subst bB gu sR Hb;simp only[Wh]at hc1;obtain⟨⟨⟨⟨hgg,hsz⟩,hof⟩,hlen⟩,hel⟩:=hc1;obtain rfl:g=g':=Wk hgg;have:=(h.hp k g blk hk).2;rw[hb]at this;exact nils k rfl rfl this.1
 |_=>cases hdst
end
section
variable {P:Program} {cx:Cx} {E:Env} {s:AS} {a:Act} {w:World} {i:Nat} {o:Oper} {T:TT}

def zv:TypeDesc->Bool
 | .int .u8=>Ga
 |_=>Gd
def qL {d:TypeDesc}(h:zv d=Ga):d= .int .u8:=by
 unfold zv at h;split at h
 ·rfl
 ·cases h
def pJ {d:TypeDesc}(h:gW d=Ga):d= .string:=by cases d<;>simp[gW]at h;rfl

def wY (T:TT)(s:AS)(src dst:TypeId)(x:Operand):Ev:=
 match T.get src,T.get dst,eG s x with
 |some ⟨.slice e,z1,z2,z3,z4⟩,Ge td,Ge d=>match T.get e,gX s 1 (.slice e) d with
  |some ei,Ge (c,_,cells)=>.cond (c&&zv ei.desc&&gW td.desc) (.bytes cells λ bs=>.ok (Ge (.v (.string ⟨bs.toArray⟩))) [])
  |_,_=>.stuck
 |_,_,_=>.stuck

def zw (hT:T.ok P)(h:SR cx E s a w){src dst:TypeId}{x:Operand}(ho:o.op= .convert src dst x){v:Option D}{up:Up}(he:(wY T s src dst x).run v up):cj P cx E s a w i o v up:=by
 unfold wY at he
 split at he
 case h_2=>exact he.elim
 case h_1 e z1 z2 z3 z4 td d hsrc hdst hx=>
 split at he
 case h_2=>exact he.elim
 case h_1 ei c n cells hei hs=>
 obtain⟨hc,bs,rfl,rfl,rfl⟩:=he;simp only[Wh]at hc;obtain⟨⟨hc1,hc2⟩,hc3⟩:=hc;have hr:=h.eval hx;generalize hux:a.eval x=u at hr;obtain⟨news,hS,hl,hd⟩:=k5 hT h hr (ti:=⟨.slice e,z1,z2,z3,z4⟩) hs hc1 hsrc;have hnews:news=(bs.map λ b=>((b.toNat:Nat):Int)).map (Xq .u8):=by
  apply List.ext_getElem?;intro j;rcases WR j bs.length with hj|hj
  ·have hj2:j<news.length:=by rw[hl];simpa using hj
   have:=hd j (dB bs[j]) news[j] (by simp[hj]) (by simp[hj2]);generalize hq:news[j]=q at this
   cases this
   simp[hj,hj2,hq]
  ·rw[WL (by rw[hl];simpa using hj),WL (by simpa using hj)]
 have hu1:=(hT src _ hsrc).1;have hu2:=(hT dst _ hdst).1;have hu3:=(hT e _ hei).1;rw[qL hc2]at hu3;rw[pJ hc3]at hu2;have hlen:news.length=bs.length:=by rw[hl];simp
 have hn:n=bs.length:=by rw[<-hlen,hS.newsLen,Nat.mul_one]
 have hsl:∃ad c',u= .slice ad n c':=by
  cases hr with
  |v cst h1=>
   unfold gX at hs
   split at hs
   case h_3 e1=>cases e1;simp only[Option.some.injEq,Prod.mk.injEq]at hs;obtain⟨_,rfl,_⟩:=hs;exact⟨z9,0,rfl⟩
   case h_4 e1=>cases e1;simp only[Option.some.injEq,Prod.mk.injEq]at hs;obtain⟨h0,_⟩:=hs;rw[<-h0]at hc1;simp[gW]at hc1
   all_goals first|(rename_i e1;cases e1;done)|cases hs
  |sl=>simp only[gX,Option.some.injEq,Prod.mk.injEq]at hs;obtain⟨_,rfl,_⟩:=hs;exact⟨_,_,rfl⟩
  |ref k g off n' sz c' b off' t m hg hb hc2 hoff hsh hm=>
   simp only[gX]at hs
   cases hk:s.at k<;>rw[hk]at hs<;>simp only[Option.some.injEq,Prod.mk.injEq,reduceCtorEq]at hs
   obtain⟨_,rfl,_⟩:=hs;exact⟨_,_,rfl⟩
  |refn k g sz hg hb=>
   simp only[gX]at hs
   cases hk:s.at k<;>rw[hk]at hs<;>simp only[Option.some.injEq,Prod.mk.injEq,reduceCtorEq]at hs
   obtain⟨_,rfl,_⟩:=hs;exact⟨_,_,rfl⟩
  |_=>cases hs
 obtain⟨ad,c',rfl⟩:=hsl;refine .pure h ?_ (.v _ rfl);have hconv:(convert src dst (.slice ad n c')).run P w= .ok (.string ⟨bs.toArray⟩) w:=by
  rw[run_convert_bytes_string w src dst e ad _ _ hu1 hu3 hu2];have hfc:=hS.cells
  cases ad with
  |none=>
   have h0:news.toArray= #[]:=by
    have:=hfc;rw[run_firstCells_none]at this
    cases this;rfl
   have:bs=[]:=WY (by rw[<-hlen];simpa using congrArg Array.size h0);subst this;rfl
  |some ad=>
   have hl:(loadCells ad n).run P w= .ok ((bs.map λ b=>((b.toNat:Nat):Int)).map (Xq .u8)).toArray w:=by
    rw[<-hnews,<-hfc];simp[Zs]
   rw[run_bytesToString w ad _ _ _ hl,vh];simp
 unfold execOp;simp only[ho,hux,WF,hconv,Wp,WK]

def wZ (T:TT)(s:AS)(nm ky:Nat)(src dst:TypeId)(x:Operand):Ev:=
 match T.get src,T.get dst,eG s x with
 |some ts,Ge ⟨.slice e,_,_,_,_⟩,Ge (.v (.string b))=>match T.get e with
  |some ei=>.cond (gW ts.desc&&zv ei.desc&&Wf b.size fz) (.ok (Ge (.ref ky nm 0 b.size 1)) [(ky,Ge (nm,.b ⟨b.data.toList.map dB,e,Ga⟩))])
  |none=>.stuck
 |_,_,_=>.stuck
def zx (hT:T.ok P)(h:SR cx E s a w)(hi:i∉s.us){nm ky:Nat}(hg:s.nx+8*i<=nm/\nm<s.nx+8*i+8){src dst:TypeId}{x:Operand}(ho:o.op= .convert src dst x){v:Option D}{up:Up}(he:(wZ T s nm ky src dst x).run v up):
  cj P cx E s a w i o v up:=by
 unfold wZ at he
 split at he
 case h_2=>exact he.elim
 case h_1 ts e z1 z2 z3 z4 b hsrc hdst hx=>
 split at he
 case h_2=>exact he.elim
 case h_1 ei hei=>
 obtain⟨hc,rfl,rfl⟩:=he;simp only[Wh]at hc;obtain⟨⟨hc1,hc2⟩,hc3⟩:=hc;have hc3:=Wm hc3;have hu1:=(hT src _ hsrc).1;have hu2:=(hT dst _ hdst).1;have hu3:=(hT e _ hei).1;rw[qL hc2]at hu3;rw[pJ hc1]at hu1;have hr:=h.eval hx;generalize hux:a.eval x=u at hr
 cases hr
 have hrun:=run_bytes_of_string (P:=P) w src dst e b hu1 hu2 hu3;have hcg:=grownCap_ge w b.size 0 e;have hcm:=grownCap_le_maxLen w b.size 0 e (by unfold maxLen;unfold fz at hc3;omega);have hrow:(bytesRow b (grownCap w b.size 0 e)).toList=byteCells b++List.replicate (grownCap w b.size 0 e-b.size) (.int .u8 0):=by
  simp[bytesRow,byteCells]
 have hsz:(bytesRow b (grownCap w b.size 0 e)).size=grownCap w b.size 0 e:=by
  have:=congrArg List.length hrow;simp[byteCells_length]at this;omega
 obtain⟨q1,q2,q3,q4,q5⟩:=h.drew.new (ky:=ky) hi hg e (b.data.toList.map dB) (bytesRow b (grownCap w b.size 0 e)).toList Ga ((bytesRow b (grownCap w b.size 0 e)).size,(bytesRow b (grownCap w b.size 0 e)).size+1)
  (.inr (by simp)) (by rw[hrow];simp[byteCells]) (λ hh=>by cases hh) (λ j d hj=>by
   rw[WB,Xu]at hj;obtain⟨y,hy,rfl⟩:=hj;have hlt:=(List.getElem?_eq_some_iff.1 hy).1;exact⟨.int .u8 y.toNat,by rw[hrow,WO (by rw[byteCells_length];simpa using hlt)];simp[byteCells,hy],rfl,.v _ rfl⟩)
 refine⟨_,_,(Stp.drew _ w).trans q2,q1,⟨q5.own,q5.heap,q5.old⟩,.slice (Ge ⟨w.heap.size,0,z9⟩) b.size (grownCap w b.size 0 e),?_,?_⟩
 ·unfold execOp
  simp only[ho,hux,WF,hrun,Wp,WK,XP]
 ·refine .ref ky nm 0 b.size 1 _ w.heap.size 0 e _ q3 q4 ⟨hcg,by unfold maxLen at hcm;unfold fz;omega⟩ (.inl rfl) (aO (cg w.drew _)) ?_
  simp[hsz]

def w5 (T:TT)(s:AS)(src dst:TypeId)(x:Operand):Ev:=
 match T.get src,eG s x with
 |some ⟨.slice e,_,_,_,_⟩,Ge (.ref k g off n sz)=>match T.get e,s.at k with
  |some ei,Ge p=>.cond (V9 src dst&&zv ei.desc&&V9 g p.1&&Wf 1 n) (.ok (Ge (.ref k g off n sz)) [(k,Ge (g,.b p.2))])
  |_,_=>.stuck
 |_,_=>.stuck
def tg (w:World)(b o:Nat)(cur:Array Value)(t:TypeId)(fr:Nat×Nat)(hb:w.heap[b]? =Ge (.cells cur t fr)):(w.freeze ⟨b,o,z9⟩ 1).heap[b]? =Ge (.cells cur t (if fr.1==fr.2 then(o,o+1)else(min fr.1 o,max fr.2 (o+1)))):=by
 obtain⟨lo,hi⟩:=fr;unfold World.freeze;rw[ZE (by decide)];simp only[ZM,if_true,hb,Zp]
def qM (w:World)(b o:Nat):w.grownBy (w.freeze ⟨b,o,z9⟩ 1) (Ge b)/\(w.freeze ⟨b,o,z9⟩ 1).heap.size=w.heap.size:=by
 unfold World.freeze;rw[ZE (by decide)];refine⟨⟨rfl,rfl,rfl,by simp,λ k hk hn=>?_⟩,by simp⟩;simp only[ZM];rw[ZE (λ e=>hn (by rw[e]))]
def zy (hT:T.ok P)(h:SR cx E s a w){src dst:TypeId}{x:Operand}(ho:o.op= .convert src dst x){v:Option D}{up:Up}(he:(w5 T s src dst x).run v up):cj P cx E s a w i o v up:=by
 unfold w5 at he
 split at he
 case h_2=>exact he.elim
 case h_1 e z1 z2 z3 z4 k g off n sz hti hx=>
 split at he
 case h_2=>exact he.elim
 case h_1 ei p hei hk=>
 obtain⟨g',blk⟩:=p;obtain⟨hc,rfl,rfl⟩:=he;simp only[Wh]at hc;obtain⟨⟨⟨c1,c2⟩,c3⟩,c4⟩:=hc;have c1:=Wk c1;have c3:=Wk c3;have c4:=Wm c4;subst c1 c3;have hu1:=TT.underlying hT hti w;have hu3:=TT.underlying hT hei w;rw[qL c2]at hu3;have hr0:=h.eval hx;generalize hux:a.eval x=ux at hr0;have hr:=hr0
 cases hr with
 |refn=>omega
 |ref _ _ _ _ _ c b off' t m hg hb hc ho' hs hm=>
 obtain⟨hlt,hown,cur,fr,hcur,hfz,hcl,hrow,hcell⟩:=h.block hk hb;have hsh:w.shape? b=Ge (blk.elem,cur.size):=aO hcur;have hcur':=tg w b cur.size cur blk.elem fr hcur;obtain⟨hgr,hz⟩:=qM w b cur.size;have hst:=h.storeG (i:=i) (o':= .b blk) (AS.at_iff.1 hk) hb (i::s.us) (λ x hx=>WG _ hx) hgr hz (by rw[aO hcur,aO hcur']) λ E' hs' hn hp ho2=>by
  refine⟨hn _ hg,?_⟩;rw[hp,hb];refine⟨ho2,by omega,cur,_,hcur',hfz.more,hcl,hrow,λ j d hj=>?_⟩;obtain⟨u,hu,h1,hru⟩:=hcell j d hj;exact⟨u,hu,h1,hru.step hs'⟩
 refine⟨_,_,hst.2.1,hst.1,hst.2.2,.slice (Ge ⟨b,off',z9⟩) n c,?_,hr0.step hst.2.1⟩;unfold execOp;simp[ho,hux,convert,hu1,hu3,markStringish,hsh,ZX,shape,freeze]
def LR (E:Env)(w:World)(ds:GA)(us:List Value):Prop:=us.length=ds.length/\(∀(j:Nat) d u,ds[j]? =Ge d->us[j]? =Ge u->RD E w d u)/\∀u∈us,u.oneCell'=Ga

def ka (place:Nat->Option (Nat×Nat))(cells:GA):List (Nat×D)->Option (GA)
 |[]=>Ge cells
 |(i,d)::rest=>match place i with
  |none=>z9
  |some (off,size)=>bif !d.isTup&&V9 d.cells.length size&&Wf (off+d.cells.length) cells.length then ka place (ac cells off d.cells) rest else z9

def ke (off:Nat):∀(l:List Value) (n:Nat) (cs:Array Value),(l.zipIdx n).foldl (λ cs (p:Value×Nat)=>cs.setIfInBounds (off+p.2) p.1) cs=dX cs (off+n) l
 |[],_,_=>rfl
 |v::r,n,cs=>by
  rw[List.zipIdx_cons,aaf,ke off r (n+1)];rfl
def th:∀(vs:List Value) (o:Nat) (cur:Array Value),o+vs.length<=cur.size->∀j:Nat,(dX cur o vs)[j]? =if o<=j/\j<o+vs.length then vs[j-o]? else cur[j]?:=by
 intro vs
 induction vs with
 |nil=>intro o cur _ j;rw[ZE (by simp only[Yi];omega)];rfl
 |cons v r ih=>
  intro o cur hl j;simp only[dX,WQ]at hl ⊢;rw[ih (o+1) _ (by simp;omega) j]
  by_cases h1:j=o
  ·subst h1
   rw[ZE (by omega),ZF ⟨by omega,by omega⟩];simp only[Xz,YU];rw[Zb (by omega)]
  ·by_cases h2:o+1<=j/\j<o+1+r.length
   ·rw[ZF h2,ZF ⟨by omega,by omega⟩]
    have:j-o=(j-(o+1))+1:=by omega
    rw[this,XV]
   ·rw[ZE h2,ZE (by omega),XU (λ e=>h1 e.symm)]

def LR.set {ds:GA}{us:List Value}(h:LR E w ds us){d:D}{u:Value}(hr:RD E w d u)(ht:d.isTup=Gd){off:Nat}(hl:off+d.cells.length<=ds.length):
  LR E w (ac ds off d.cells) (dX us.toArray off u.cells.toList).toList:=by
 obtain⟨h1,h2,h3⟩:=h;obtain⟨c1,c2,c3⟩:=hr.cellsOf ht;have hl2:off+u.cells.toList.length<=us.toArray.size:=by rw[c1];simpa[h1]using hl
 have hget:=th u.cells.toList off us.toArray hl2;refine⟨by rw[Zj,gS,dH hl];simpa using h1,λ j e v he hv=>?_,λ v hv=>?_⟩
 ·rw[Yy,hget]at hv
  rw[ck hl]at he;rw[c1]at hv
  split at he
  ·rename_i hc
   rw[ZF hc]at hv;obtain⟨v',hv',_,hr'⟩:=c3 _ e he;rw[hv']at hv;cases hv;exact hr'
  ·rename_i hc
   rw[ZE hc]at hv;exact h2 j e v he (by simpa using hv)
 ·obtain⟨j,hj⟩:=List.getElem?_of_mem hv
  rw[Yy,hget]at hj
  split at hj
  ·exact c2 v (Xy hj)
  ·exact h3 v (Xy (by simpa using hj))

def jL (place:Nat->Option (Nat×Nat)):∀(ps:List (Nat×D)) (qs:List (Nat×Value)) (ds ds':GA) (us:List Value),LR E w ds us->ka place ds ps=Ge ds'->
  qs.length=ps.length->(∀(j:Nat) p q,ps[j]? =Ge p->qs[j]? =Ge q->p.1=q.1/\RD E w p.2 q.2)->∃us',aba place us.toArray qs=Ge us'.toArray/\LR E w ds' us'
 |[],qs,ds,ds',us,h,hf,hl,_=>by
  cases hf
  cases qs with
  |nil=>exact⟨us,rfl,h⟩
  |cons=>simp at hl
 |(n,d)::ps,qs,ds,ds',us,h,hf,hl,hp=>by
  cases qs with
  |nil=>simp at hl
  |cons q qs=>
  obtain⟨n',u⟩:=q;obtain⟨rfl,hr⟩:=hp 0 (n,d) (n',u) rfl rfl;simp only[ka]at hf
  cases hpl:place n with
  |none=>rw[hpl]at hf;cases hf
  |some os=>
  obtain⟨off,size⟩:=os;rw[hpl]at hf;dsimp only at hf
  cases hc:(!d.isTup&&V9 d.cells.length size&&Wf (off+d.cells.length) ds.length)with
  |false=>rw[hc]at hf;cases hf
  |true=>
  rw[hc,cond_true]at hf;simp only[Wh,XX]at hc;obtain⟨⟨ht,hsz⟩,hle⟩:=hc;have hsz:=Wk hsz;have hle:=Wm hle;have hcl:=(hr.cellsOf ht).1;obtain⟨us',hu',hl'⟩:=jL place ps qs _ ds' _ (h.set hr ht hle) hf (by simpa using hl) (λ j p q a1 a2=>hp (j+1) p q (by simpa using a1) (by simpa using a2));refine⟨us',?_,hl'⟩;rw[aba];rw[hpl];have e1:u.cells.size=size:=by rw[<-hsz,<-hcl];simp
  have e2:¬(u.cells.size≠size\/us.toArray.size<off+u.cells.size):=by
   intro hh;rcases hh with hh|hh
   ·exact hh e1
   ·have:=h.1;rw[e1,<-hsz]at hh;simp at hh;omega
  have e3:u.cells.zipIdx.foldl (λ cs (p:Value×Nat)=>cs.setIfInBounds (off+p.2) p.1) us.toArray=dX us.toArray off u.cells.toList:=by
   have:=ke off u.cells.toList 0 us.toArray;rw[X4]at this;rw[<-this,<-abb,Array.toList_zipIdx]
  simp only[ne_eq,YR,decide_eq_true_eq]at e2 ⊢;rw[XP]at hu';rw[<-hu',<-e3];simp only[gt_iff_lt];rw[ZE (by simpa using e2)]

def fY (s:AS):List (Nat×Operand)->Option (List (Nat×D))
 |[]=>Ge []
 |(n,x)::r=>match eG s x,fY s r with
  |some d,Ge l=>Ge ((n,d)::l)
  |_,_=>z9
def iM (h:SR cx E s a w):∀(ps:List (Nat×Operand)) (ds:List (Nat×D)),fY s ps=Ge ds->(ps.map λ(n,x)=>(n,a.eval x)).length=ds.length/\∀(j:Nat) p q,ds[j]? =Ge p->(ps.map λ(n,x)=>(n,a.eval x))[j]? =Ge q->p.1=q.1/\RD E w p.2 q.2
 |[],ds,hd=>by cases hd;exact⟨rfl,λ j p q hp=>by simp at hp⟩
 |(n,x)::r,ds,hd=>by
  simp only[fY]at hd
  split at hd
  case h_2=>cases hd
  case h_1 d l hx hl=>
  cases hd
  obtain⟨h1,h2⟩:=iM h r l hl;refine⟨by simp only[XB,WQ,h1],λ j p q hp hq=>?_⟩
  cases j with
  |zero=>simp at hp hq;subst hp hq;exact⟨rfl,h.eval hx⟩
  |succ j=>exact h2 j p q (by simpa using hp) (by simpa using hq)

def kg (T:TT):List Field->Option (List (Nat×Nat))
 |[]=>Ge []
 |f::r=>match T.get f.type,kg T r with
  |some fi,Ge l=>Ge ((f.offset,fi.size)::l)
  |_,_=>z9
def ki (hT:T.ok P):∀(fs:List Field) (l:List (Nat×Nat)),kg T fs=Ge l->fs.mapM (λ f=>(P.info? f.type).map λ i=>(f.offset,i.size))=Ge l
 |[],l,h=>by cases h;rfl
 |f::r,l,h=>by
  simp only[kg]at h
  split at h
  case h_2=>cases h
  case h_1 fi l' hf hl=>
  cases h
  obtain⟨_,_,⟨j,h2,_,h4,_⟩,_⟩:=hT _ _ hf;simp[aaR,h2,h4,ki hT r l' hl]

def mV (T:TT)(s:AS)(t:TypeId)(parts:Array (Nat×Operand)):Ev:=
 match T.get t,fY s parts.toList with
 |some ti,Ge ps=>match ti.desc with
  | .struct fs=>match kg T fs.toList with
   |some pl=>match ka (λ n:Nat=>pl[n]?) (bK ti.zero).cells ps with
    |some cells=>.cond (eF ti.zero&& !(bK ti.zero).isTup) (.ok (Ge (.agg cells)) [])
    |none=>.stuck
   |none=>.stuck
  | .array _ e=>match T.get e with
   |some ei=>match ka (λ i=>Ge (i*ei.size,ei.size)) (bK ti.zero).cells ps with
    |some cells=>.cond (eF ti.zero&& !(bK ti.zero).isTup) (.ok (Ge (.agg cells)) [])
    |none=>.stuck
   |none=>.stuck
  |_=>.stuck
 |_,_=>.stuck

def qN (E:Env)(w:World){z:Value}(h1:eF z=Ga)(h2:(bK z).isTup=Gd):LR E w (bK z).cells z.cells.toList:=by
 obtain⟨c1,c2,c3⟩:=(RD.const E w z h1).cellsOf h2;exact⟨c1,λ j d u hd hu=>by obtain⟨v,hv,_,hr⟩:=c3 j d hd;rw[hv]at hu;cases hu;exact hr,c2⟩

def tj (hT:T.ok P)(h:SR cx E s a w){t:TypeId}{parts:Array (Nat×Operand)}(ho:o.op= .build t parts){v:Option D}{up:Up}(he:(mV T s t parts).run v up):cj P cx E s a w i o v up:=by
 unfold mV at he
 split at he
 case h_2=>exact he.elim
 case h_1 ti ps hti hps=>
 obtain⟨p1,p2⟩:=iM h _ _ hps;obtain⟨hu,_,⟨j,hj1,hj2,hj3,hj4⟩,_⟩:=hT t ti hti;have fin:∀(place:Nat->Option (Nat×Nat)) (cells:GA),(∀us:List Value,aba place ti.zero.cells (parts.toList.map λ(n,x)=>(n,a.eval x))=Ge us.toArray->P.built t (parts.toList.map λ(n,x)=>(n,a.eval x))=Ge us.toArray)->
   ka place (bK ti.zero).cells ps=Ge cells->(eF ti.zero&& !(bK ti.zero).isTup)=Ga->cj P cx E s a w i o (Ge (.agg cells)) []:=by
  intro place cells hb hf hc;rw[Wh]at hc;obtain⟨us,hu',hl1,hl2,hl3⟩:=jL place ps _ _ cells _ (qN E w hc.1 (by simpa using hc.2)) hf p1 p2;rw[XP]at hu';have hrun:=run_build (P:=P) w t (parts.map λ(n,x)=>(n,a.eval x)) us.toArray (by rw[Yz];exact hb us hu');refine .pure h (u:=.agg us.toArray) ?_ (.agg _ _ hl1 hl2 hl3);unfold execOp;simp only[ho,WF,hrun,Wp,WK]
 split at he
 case h_1 fs hd=>
  split at he
  case h_2=>exact he.elim
  case h_1 pl hpl=>
  split at he
  case h_2=>exact he.elim
  case h_1 cells hf=>
  obtain⟨hc,rfl,rfl⟩:=he;refine fin (λ n:Nat=>pl[n]?) cells (λ us hus=>?_) hf hc;have hm:=ki hT fs.toList pl hpl;rw[hd]at hu;unfold Program.built;rw[hj1,hu];simp only[hj2,hm];have:(λ n:Nat=>pl.toArray[n]?)=λ n:Nat=>pl[n]?:=by funext n;simp
  rw[this];exact hus
 case h_2 len e hd=>
  split at he
  case h_2=>exact he.elim
  case h_1 ei hei=>
  split at he
  case h_2=>exact he.elim
  case h_1 cells hf=>
  obtain⟨hc,rfl,rfl⟩:=he;refine fin _ cells (λ us hus=>?_) hf hc;obtain⟨_,_,⟨j',hj1',_,hj3',_⟩,_⟩:=hT e ei hei;rw[hd]at hu;unfold Program.built;rw[hj1,hu];simp only[hj2,hj1',hj3'];exact hus
 case h_3=>exact he.elim
end
section
variable {P:Program} {cx:Cx} {E:Env} {s:AS} {a:Act} {w:World} {i:Nat} {o:Oper} {T:TT}

def bR (zc:GA)(n:Nat):GA:=(Xp n).map λ j=>zc.getD (j%zc.length) default
def vo {α:Type}(f:Nat->α):(aar 0).map f= #[]:=by simp
def AM {zc:GA}{z:Array Value}(h:LR E w zc z.toList)(n:Nat)(hn:n=0\/0<zc.length):LR E w (bR zc n) ((aar n).map (z[· %z.size]!)).toList:=by
 obtain⟨h1,h2,h3⟩:=h;have hz:z.size=zc.length:=by simpa using h1
 have key:∀j,j<n->∃u,z[j%z.size]! =u/\u.oneCell'=Ga/\RD E w (zc.getD (j%zc.length) default) u:=λ j hj=>by
  have hp:0<zc.length:=by omega
  have hlt:j%zc.length<z.size:=by rw[hz];exact Nat.mod_lt _ hp
  refine⟨z[j%zc.length],by rw[hz];simp[hlt],h3 _ (by simp),h2 (j%zc.length) _ _ ?_ (by simp[hlt])⟩;rw[Wd,Wa (by omega),Option.getD_some]
 refine⟨by simp[bR],λ j d u hd hu=>?_,λ u hu=>?_⟩
 ·rcases WR j n with hj|hj
  ·obtain⟨u',e,_,hr⟩:=key j hj
   simp[bR,hj]at hd;simp[hj]at hu;subst hd;have:z[j%z.size]! =u:=hu;rw[<-this,e];simpa using hr
  ·simp[bR,hj]at hd
 ·simp only[Yz,ZH]at hu
  obtain⟨j,hj,rfl⟩:=hu;have hj:j<n:=by simpa using hj
  obtain⟨u',e,h1',_⟩:=key j hj;rw[e];exact h1'

def fl (T:TT)(s:AS)(nm ky:Nat)(t:TypeId)(len:Nat)(parts:Array (Nat×Operand)):Ev:=
 match T.get t,fY s parts.toList with
 |some ⟨.slice e,_,_,_,_⟩,Ge ps=>match T.get e with
  |some ei=>match ka (λ i=>Ge (i*ei.size,ei.size)) (bR (bK ei.zero).cells (len*ei.size)) ps with
   |some cells=>.cond (eF ei.zero&& !(bK ei.zero).isTup&&Wf (len*ei.size) 16777216&&Ao (0<ei.size)) (.ok (Ge (.ref ky nm 0 len ei.size)) [(ky,Ge (nm,.b ⟨cells,e,Gd⟩))])
   |none=>.stuck
  |none=>.stuck
 |_,_=>.stuck

def k6 (hT:T.ok P)(h:SR cx E s a w)(hi:i∉s.us){nm ky:Nat}(hg:s.nx+8*i<=nm/\nm<s.nx+8*i+8){t:TypeId}{len:Nat}{parts:Array (Nat×Operand)}(ho:o.op= .buildSlice t len parts){v:Option D}{up:Up}
  (he:(fl T s nm ky t len parts).run v up):cj P cx E s a w i o v up:=by
 unfold fl at he
 split at he
 case h_2=>exact he.elim
 case h_1 e z1 z2 z3 z4 ps hti hps=>
 split at he
 case h_2=>exact he.elim
 case h_1 ei hei=>
 split at he
 case h_2=>exact he.elim
 case h_1 cells hf=>
 obtain⟨hc,rfl,rfl⟩:=he;simp only[Wh,decide_eq_true_eq]at hc;obtain⟨⟨⟨hc1,hc2⟩,hc3⟩,hc4⟩:=hc;have hc3:=Wm hc3;obtain⟨p1,p2⟩:=iM h _ _ hps;obtain⟨hu,hzl,⟨j0,hj1,hj2,hj3,hj4⟩,_⟩:=hT e ei hei;have hz:=qN E w hc1 (by simpa using hc2);have hzl2:0<(bK ei.zero).cells.length:=by rw[<-hz.1];simp[hzl,hc4]
 have hrep:=AM hz (len*ei.size) (.inr hzl2);obtain⟨us,hus,hl1,hl2,hl3⟩:=jL _ ps _ _ cells _ hrep hf p1 p2;rw[XP]at hus;have hcl:cells.length=len*ei.size:=by
  have:∀(ps:List (Nat×D)) (ds:GA),ka (λ i=>Ge (i*ei.size,ei.size)) ds ps=Ge cells->cells.length=ds.length:=by
   intro ps
   induction ps with
   |nil=>intro ds hd;cases hd;rfl
   |cons p ps ih=>
    obtain⟨n,d⟩:=p;intro ds hd;simp only[ka]at hd
    cases hq:(!d.isTup&&V9 d.cells.length ei.size&&Wf (n*ei.size+d.cells.length) ds.length)with
    |false=>rw[hq]at hd;cases hd
    |true=>
     rw[hq]at hd;simp only[Wh]at hq;rw[ih _ hd,dH (Wm hq.2)]
  rw[this ps _ hf];simp[bR]
 have hrun:(aax t len (parts.map λ(n,x)=>(n,a.eval x))).run P w= .ok (.slice (Ge ⟨w.heap.size,0,z9⟩) len len) (w.alloc (.cells us.toArray e)):=by
  have hne:¬(2^24<len*ei.size):=by
   have:(2:Nat)^24=16777216:=by decide
   omega
  have e3:(parts.map λ(n,x)=>(n,a.eval x)).toList=parts.toList.map λ(n,x)=>(n,a.eval x):=by simp
  by_cases h0:len*ei.size=0
  ·have hus':aba (λ i=>Ge (i*ei.size,ei.size)) #[] (parts.toList.map λ(n,x)=>(n,a.eval x))=Ge us.toArray:=by rw[<-hus,h0,vo]
   simp only[aax,WF,TT.underlying hT hti w,Wp,TT.sizeOf hT hei w,gt_iff_lt,hne,if_false,WK,YK,h0,if_true,e3,newRow,newObj,ZX];rw[vo,hus'];rfl
  ·simp only[aax,WF,TT.underlying hT hti w,Wp,TT.sizeOf hT hei w,gt_iff_lt,hne,if_false,WK,YK,h0,TT.zeroValue hT hei w,e3,hus,newRow,newObj,ZX]
   rfl
 refine cj.block h hi hg e cells us Gd (0,0) (gx.zero _) (by omega) (λ _=>hl1) (λ j d hj=>?_) _ (.slice (Ge ⟨w.heap.size,0,z9⟩) len len) ?_ (λ E' hn hp=>?_)
 ·have hlt:j<us.length:=by rw[hl1];exact(List.getElem?_eq_some_iff.1 hj).1
  exact⟨us[j],by simp[hlt],hl3 _ (Xf hlt),hl2 j d _ hj (by simp[hlt])⟩
 ·unfold execOp
  simp only[ho,WF,hrun,Wp,WK]
 ·have hle:len<=len*ei.size:=Zv _ hc4
  refine .ref ky nm 0 len ei.size len w.heap.size 0 e _ hn hp ⟨Wl _,by unfold fz;omega⟩ (.inl rfl) (aO (cg w _)) ?_;simp[hl1,hcl]

def qO (T:TT)(s:AS)(nm ky:Nat)(t:TypeId)(l c:Operand):Ev:=
 match T.get t,eG s l,eG s c with
 |some ⟨.slice e,_,_,_,_⟩,Ge (.v (.int _ l)),Ge (.v (.int _ c))=>match T.get e with
  |some ei=>.cond (Ao (0<=l)&&Ao (l<=c)&&eF ei.zero&& !(bK ei.zero).isTup&&Ao (0<ei.size)&&Ao (0<ei.bytes)&&Ao (ei.bytes*c<=140737488355328))
    (.ok (Ge (.ref ky nm 0 l.toNat ei.size)) [(ky,Ge (nm,.b ⟨bR (bK ei.zero).cells (l.toNat*ei.size),e,Ga⟩))])
  |none=>.stuck
 |_,_,_=>.stuck
def vp (hT:T.ok P)(h:SR cx E s a w)(hi:i∉s.us){nm ky:Nat}(hg:s.nx+8*i<=nm/\nm<s.nx+8*i+8){t:TypeId}{l c:Operand}(ho:o.op= .makeSlice t l c){v:Option D}{up:Up}(he:(qO T s nm ky t l c).run v up):
  cj P cx E s a w i o v up:=by
 unfold qO at he
 split at he
 case h_2=>exact he.elim
 case h_1 e z1 z2 z3 z4 kl zl kc zc hti hl hc0=>
 split at he
 case h_2=>exact he.elim
 case h_1 ei hei=>
 obtain⟨hc,rfl,rfl⟩:=he;simp only[Wh,decide_eq_true_eq]at hc;obtain⟨⟨⟨⟨⟨⟨h0,h1⟩,hz1⟩,hz2⟩,hsz⟩,hby⟩,hfit⟩:=hc;have hrl:=h.eval hl;have hrc:=h.eval hc0;generalize hul:a.eval l=ul at hrl;generalize huc:a.eval c=uc at hrc
 cases hrl;cases hrc
 obtain⟨hu,hzl,⟨j0,hj1,hj2,hj3,hj4⟩,_⟩:=hT e ei hei;obtain⟨n,rfl⟩:=Xd h0;obtain⟨m,rfl⟩:=Xd (Int.le_trans h0 h1);have hnm:n<=m:=by omega
 have hm:m<=140737488355328:=by
  have:m<=ei.bytes*m:=Nat.le_mul_of_pos_left _ hby;have hf:ei.bytes*m<=140737488355328:=by
   have h9:((ei.bytes*m:Nat):Int)<=140737488355328:=by rw[Int.natCast_mul];exact hfit
   omega
  omega
 have hz:=qN E w hz1 (by simpa using hz2);have hzl2:0<(bK ei.zero).cells.length:=by rw[<-hz.1];simp[hzl,hsz]
 obtain⟨q1,q2,q3⟩:=AM hz (m*ei.size) (.inr hzl2);have hrun:(aaK t (.int kl (n:Int)) (.int kc (m:Int))).run P w= .ok (.slice (Ge ⟨w.heap.size,0,z9⟩) n m) (w.alloc (.cells ((aar (m*ei.size)).map (ei.zero.cells[· %ei.zero.cells.size]!)) e)):=by
  have w1:IntKind.i64.wrap (n:Int)=(n:Int):=by rw[IntKind.wrap_i64];omega
  have w2:IntKind.i64.wrap (m:Int)=(m:Int):=by rw[IntKind.wrap_i64];omega
  have hti':(typeInfo e).run P w= .ok j0 w:=by
   unfold typeInfo;show(match P.info? e with|some i=>(Pure.pure i:Sem TypeInfo)|none=>stuck _).run P w=_;rw[hj1];rfl
  have hask:∀k,(askRoom k).run P w= .ok () w:=λ k=>by unfold askRoom;split<;>rfl
  have hb1:(Ao ((m:Int)<0)||Ao ((j0.bytes:Int)*(m:Int)>2^48))=false:=by
   rw[hj4];have:(2:Int)^48=281474976710656:=by decide
   simp only[Ze,decide_eq_false_iff_not];omega
  have hb2:(Ao ((n:Int)<0)||Ao ((n:Int)>(m:Int)))=false:=by
   simp only[Ze,decide_eq_false_iff_not];omega
  by_cases h0:m*ei.size=0
  ·simp only[aaK,asInt,asIntOf,WF,TT.underlying hT hti w,Wp,TT.sizeOf hT hei w,WK,hti',w1,w2,hb1,aa7,hb2,Ye,if_false,hask,Ya,YK,h0,if_true,newRow,newObj,ZX,vo]
   rfl
  ·simp only[aaK,asInt,asIntOf,WF,TT.underlying hT hti w,Wp,TT.sizeOf hT hei w,WK,hti',w1,w2,hb1,aa7,hb2,Ye,if_false,hask,Ya,YK,h0,TT.zeroValue hT hei w,newRow,newObj,ZX]
   rfl
 refine cj.block h hi hg e _ ((aar (m*ei.size)).map (ei.zero.cells[· %ei.zero.cells.size]!)).toList Ga (0,0) (gx.zero _) ?_ (λ hh=>by cases hh) (λ j d hj=>?_) _ (.slice (Ge ⟨w.heap.size,0,z9⟩) n m) ?_ (λ E' hn hp=>?_)
 ·simp[bR];exact W8 _ hnm
 ·have hlt:j<n*ei.size:=by
   have:=(List.getElem?_eq_some_iff.1 hj).1;simpa[bR]using this
  have hlt2:j<m*ei.size:=WX hlt (W8 _ hnm);have hj':(bR (bK ei.zero).cells (m*ei.size))[j]? =Ge d:=by
   simp[bR,hlt]at hj;simp[bR,hlt2,hj]
  have hlt3:j<((aar (m*ei.size)).map (ei.zero.cells[· %ei.zero.cells.size]!)).toList.length:=by simpa using hlt2
  exact⟨_,Wa hlt3,q3 _ (Xf hlt3),q2 j d _ hj' (Wa hlt3)⟩
 ·unfold execOp
  simp only[ho,hul,huc,WF,hrun,Wp,WK,XP]
 ·refine .ref ky nm 0 n ei.size m w.heap.size 0 e _ hn hp ⟨hnm,by unfold fz;omega⟩ (.inl rfl) (aO (cg w _)) ?_
  simp

def gb (s:AS):List Operand->Option (GA)
 |[]=>Ge []
 |x::r=>match eG s x,gb s r with
  |some d,Ge l=>Ge (d::l)
  |_,_=>z9
def et (h:SR cx E s a w):∀(xs:List Operand) (ds:GA),gb s xs=Ge ds->(xs.map a.eval).length=ds.length/\∀(j:Nat) d u,ds[j]? =Ge d->(xs.map a.eval)[j]? =Ge u->RD E w d u
 |[],ds,hd=>by cases hd;exact⟨rfl,λ j p q hp=>by simp at hp⟩
 |x::r,ds,hd=>by
  simp only[gb]at hd
  split at hd
  case h_2=>cases hd
  case h_1 d l hx hl=>
  cases hd
  obtain⟨h1,h2⟩:=et h r l hl;refine⟨by simp only[XB,WQ,h1],λ j p q hp hq=>?_⟩
  cases j with
  |zero=>simp at hp hq;subst hp hq;exact h.eval hx
  |succ j=>exact h2 j p q (by simpa using hp) (by simpa using hq)

def qP (s:AS)(f:Fn)(fi ca:Array Operand):Ev:=
 match gb s fi.toList,gb s ca.toList with
 |some l,Ge m=>.ok (Ge (.fn f l m)) []
 |_,_=>.stuck
def vq (h:SR cx E s a w){f:Fn}{fi ca:Array Operand}(ho:o.op= .makeFunc f fi ca){v:Option D}{up:Up}(he:(qP s f fi ca).run v up):cj P cx E s a w i o v up:=by
 unfold qP at he
 split at he
 case h_2=>exact he.elim
 case h_1 l m hl hm=>
 obtain⟨rfl,rfl⟩:=he;obtain⟨a1,a2⟩:=et h _ _ hl;obtain⟨b1,b2⟩:=et h _ _ hm;refine .pure h (u:=.func f (fi.toList.map a.eval).toArray (ca.toList.map a.eval).toArray) ?_ (.fn f l m _ _ a1 b1 a2 b2);unfold execOp;simp only[ho,Instr.makeFunc,WF,WK,Wp];have e1:(fi.toList.map a.eval).toArray=fi.map a.eval:=by apply Yl;simp
 have e2:(ca.toList.map a.eval).toArray=ca.map a.eval:=by apply Yl;simp
 rw[e1,e2]

def EK (T:TT)(s:AS)(x:Operand)(asserted:TypeId)(ok:Bool):Ev:=
 match T.get asserted,eG s x with
 |some ti,Ge (.ifc t d)=>.cond (!mN ti.desc) (bif V9 t asserted then(bif ok then .ok (Ge (.tup [d,.v (.bool Ga)])) []else .ok (Ge d) [])
   else .cond (ok&&eF ti.zero) (.ok (Ge (.tup [bK ti.zero,.v (.bool Gd)])) []))
 |_,_=>.stuck
def AN (hT:T.ok P)(h:SR cx E s a w){x:Operand}{xt asserted:TypeId}{ok:Bool}(ho:o.op= .typeAssert x xt asserted ok){v:Option D}{up:Up}(he:(EK T s x asserted ok).run v up):cj P cx E s a w i o v up:=by
 unfold EK at he
 split at he
 case h_2=>exact he.elim
 case h_1 ti t d hti hx=>
 obtain⟨hc,he⟩:=he;have hr:=h.eval hx;generalize hux:a.eval x=ux at hr
 cases hr with
 |ifc _ _ u hr=>
 have hund:=TT.underlying hT hti w;have hni:∀ms,ti.desc≠ .interface ms:=λ ms e=>by rw[e]at hc;simp[mN]at hc
 have run1:t=asserted->(execOp a.eval o).run P w= .ok (.value (if ok then .tuple #[u,.bool Ga]else u)) w:=λ e=>by
  subst e;unfold execOp;simp only[ho,hux,abx,WF,hund,Wp]
  cases hd:ti.desc<;>first|exact absurd hd (hni _)|(simp only[if_true,WK,Wp])
 cases hb:V9 t asserted with
 |true=>
  have e:=Wk hb;simp only[hb,cond_true]at he
  cases ok with
  |true=>
   simp only[cond_true]at he;obtain⟨rfl,rfl⟩:=he;refine .pure h (run1 e) (.tup _ [u,.bool Ga] rfl λ j d' u' a1 a2=>?_)
   match j with
   |0=>simp at a1 a2;subst a1 a2;exact hr
   |1=>simp at a1 a2;subst a1 a2;exact .v _ rfl
   |j+2=>simp at a1
  |false=>
   simp only[cond_false]at he;obtain⟨rfl,rfl⟩:=he;exact .pure h (run1 e) hr
 |false=>
  simp only[hb,cond_false]at he;obtain⟨hk,rfl,rfl⟩:=he;rw[Wh]at hk;obtain⟨rfl,hco⟩:=hk;have hne:t≠asserted:=λ e=>by subst e;rw[Nat.beq_refl]at hb;cases hb
  refine .pure h (u:=.tuple #[ti.zero,.bool Gd]) ?_ (.tup _ [ti.zero,.bool Gd] rfl λ j d' u' a1 a2=>?_)
  ·unfold execOp
   simp only[ho,hux,abx,WF,hund,Wp]
   cases hd:ti.desc<;>first|exact absurd hd (hni _)|(simp only[hne,if_false,if_true,WF,TT.zeroValue hT hti w,WK,Wp])
  ·match j with
   |0=>simp at a1 a2;subst a1 a2;exact RD.const E w _ hco
   |1=>simp at a1 a2;subst a1 a2;exact .v _ rfl
   |j+2=>simp at a1
end

mutual
def D.closed:D->Bool
 | .v _=>Ga
 | .sl _ _ _ _=>Ga
 | .agg cs=>ab cs
 | .tup cs=>ab cs
 | .ifc _ x=>x.closed
 | .fn _ fi ca=>ab fi&&ab ca
 |_=>Gd
def ab:GA->Bool
 |[]=>Ga
 |d::r=>d.closed&&ab r
end
def bp {l:GA}:ab l=Ga↔∀d∈l,d.closed=true:=by
 induction l with
 |nil=>simp[ab]
 |cons x l ih=>simp[ab,ih]
def bl {l:GA}(h:ab l=Ga){j:Nat}{d:D}(hj:l[j]? =Ge d):d.closed=true:=bp.1 h d (Xy hj)
def EL (bs:Z4):ab (bs.map dB)=true:=bp.2 λ d hd=>by simp only[ZH]at hd;obtain⟨b,_,rfl⟩:=hd;rfl
def EM {l:GA}(h:ab l=Ga)(n:Nat):ab (l.take n)=true:=bp.2 λ d hd=>bp.1 h d (Xs hd)
def EN {l:GA}(h:ab l=Ga)(n:Nat):ab (l.drop n)=true:=bp.2 λ d hd=>bp.1 h d (YA hd)

def RD.weak {E:Env}{w:World}{d:D}{u:Value}(h:RD E w d u):d.closed=Ga->RD E.cl w d u:=by
 induction h with
 |v c h=>exact λ _=>.v c h
 |@sl E w nn n size cells a c us hlen hd h1 hn hp hc h0 hr ih=>exact λ _=>.sl nn n size cells a c us hlen hd h1 hn hp hc h0 hr
 |agg cs us hlen _ h1 ih=>exact λ hc=>.agg cs us hlen (λ i d u a1 a2=>ih i d u a1 a2 (bl hc a1)) h1
 |tup cs us hlen _ ih=>exact λ hc=>.tup cs us hlen (λ i d u a1 a2=>ih i d u a1 a2 (bl hc a1))
 |ifc t x u _ ih=>exact λ hc=>.ifc t x u (ih hc)
 |fn f fi ca us vs hl1 hl2 _ _ ih1 ih2=>
  intro hc;simp only[D.closed,Wh]at hc;exact .fn f fi ca us vs hl1 hl2 (λ i d u a1 a2=>ih1 i d u a1 a2 (bl hc.1 a1)) (λ i d u a1 a2=>ih2 i d u a1 a2 (bl hc.2 a1))
 |_=>intro hc;cases hc

def dv (cells:GA)(off m:Nat):GA:=bif V9 off 0&&V9 m cells.length then cells else(cells.drop off).take m
def gz (cells:GA)(off m:Nat):dv cells off m=(cells.drop off).take m:=by
 unfold dv
 cases hq:(V9 off 0&&V9 m cells.length)with
 |false=>rfl
 |true=>
  rw[Wh]at hq;have e1:=Wk hq.1;have e2:=Wk hq.2;subst e1;rw[cond_true,XR,e2,XF]

mutual
def AO:D->Gw
 | .ref k _ _ _ _=>[k]
 | .ptr k _ _=>[k]
 | .agg cs=>pK cs
 | .tup cs=>pK cs
 | .ifc _ x=>AO x
 | .fn _ fi ca=>pK fi++pK ca
 | .yl k _=>[k]
 |_=>[]
def pK:GA->Gw
 |[]=>[]
 |d::r=>AO d++pK r
end

def jD:Gw->Nat->Option Nat
 |[],_=>z9
 |x::r,k=>bif V9 x k then Ge 0 else match jD r k with
  |some j=>Ge (j+1)
  |none=>z9
def jk:∀{fp:Gw} {k j:Nat},jD fp k=Ge j->fp[j]? =Ge k
 |[],k,j,h=>by cases h
 |x::r,k,j,h=>by
  simp only[jD]at h
  cases hb:V9 x k with
  |true=>rw[hb]at h;cases h;rw[Wk hb];rfl
  |false=>
   rw[hb]at h;dsimp only[cond_false]at h
   split at h
   ·rename_i j' hj';cases h;rw[XV];exact jk hj'
   ·cases h
def jM:∀{fp:Gw} {k:Nat},jD fp k=z9->k∉fp
 |[],k,_=>by simp
 |x::r,k,h=>by
  simp only[jD]at h
  cases hb:V9 x k with
  |true=>rw[hb]at h;cases h
  |false=>
   rw[hb]at h;dsimp only[cond_false]at h
   split at h
   ·cases h
   ·rename_i hn
    intro hm;rcases List.mem_cons.1 hm with rfl|hm
    ·simp at hb
    ·exact jM hn hm

def zA (s:AS)(fp:Gw):D->Option (Bool×D)
 | .ref k g off n sz=>match s.at k with
  |some p=>match jD fp k with
   |some _=>z9
   |none=>Ge (V9 g p.1&&Wf (off+n*sz) p.2.cells.length&&Wf 1 sz&&ab (dv p.2.cells off (n*sz)),.sl (Wf 1 n) n sz (dv p.2.cells off (n*sz)))
  |none=>z9
 |d=>Ge (d.closed,d)
def l8 (s:AS)(fp:Gw):GA->Option (Bool×GA)
 |[]=>Ge (Ga,[])
 |d::r=>match zA s fp d,l8 s fp r with
  |some p,Ge q=>Ge (p.1&&q.1,p.2::q.2)
  |_,_=>z9
def zB (s:AS)(fp:Gw)(b:Blk)(off m:Nat):Option (Bool×GA):=bif b.row then Ge (ab (dv b.cells off m),dv b.cells off m)else l8 s fp (dv b.cells off m)
def iC (s:AS)(fp:Gw):GA->Bool×GA
 |[]=>(Ga,[])
 |d::r=>match zA s fp d with
  |some p=>(p.1&&(iC s fp r).1,p.2::(iC s fp r).2)
  |none=>(Ga,[])
def pp (s:AS)(fp:Gw)(b:Blk):Bool×GA:=bif b.row then(ab (dv b.cells 0 b.cells.length),dv b.cells 0 b.cells.length)else iC s fp (dv b.cells 0 b.cells.length)
mutual
def nI (s:AS)(al:Bool)(fp:Gw):D->Option (Bool×D)
 | .v c=>Ge (Ga,.v c)
 | .sl nn n sz cells=>Ge (Ga,.sl nn n sz cells)
 | .ref k g off n sz=>match s.at k with
  |some p=>match jD fp k with
   |some j=>Ge (V9 g p.1,.ref j j off n sz)
   |none=>match zB s fp p.2 off (n*sz)with
    |some c=>Ge (!al&&(V9 g p.1&&Wf (off+n*sz) p.2.cells.length&&Wf 1 sz&&c.1),.sl (Wf 1 n) n sz c.2)
    |none=>z9
  |none=>z9
 | .ptr k g off=>match s.at k with
  |some p=>match jD fp k with
   |some j=>Ge (V9 g p.1,.ptr j j off)
   |none=>Ge (!al&&(V9 g p.1&&(pp s fp p.2).1),.ep (pp s fp p.2).2 off)
  |none=>z9
 | .ep cells off=>Ge (Ga,.ep cells off)
 | .agg cs=>match jv s al fp cs with
  |some p=>Ge (p.1,.agg p.2)
  |none=>z9
 | .tup cs=>match jv s al fp cs with
  |some p=>Ge (p.1,.tup p.2)
  |none=>z9
 | .ifc t x=>match nI s al fp x with
  |some p=>Ge (p.1,.ifc t p.2)
  |none=>z9
 | .fn f fi ca=>match jv s al fp fi,jv s al fp ca with
  |some p,Ge q=>Ge (p.1&&q.1,.fn f p.2 q.2)
  |_,_=>z9
 | .yl _ _=>z9
def jv (s:AS)(al:Bool)(fp:Gw):GA->Option (Bool×GA)
 |[]=>Ge (Ga,[])
 |d::r=>match nI s al fp d,jv s al fp r with
  |some p,Ge q=>Ge (p.1&&q.1,p.2::q.2)
  |_,_=>z9
end
def jE (s:AS)(fp:Gw):Gw->Option (Bool×lM)
 |[]=>Ge (Ga,[])
 |k::r=>match s.at k,jE s fp r with
  |some p,Ge q=>bif p.2.row then Ge (ab p.2.cells&&q.1,p.2::q.2)else match jv s Ga fp p.2.cells with
   |some c=>Ge (c.1&&q.1,⟨c.2,p.2.elem,p.2.row⟩::q.2)
   |none=>z9
  |_,_=>z9

def fo (O:Nat->Prop)(φ:Nat->Option Nat)(n:Nat):Env:=⟨φ,λ b=>O b\/∃j,j<n/\φ j=Ge b,λ j=>j<n⟩
def gA (s:AS)(E:Env)(fp:Gw)(j:Nat):Option Nat:=
 match fp[j]? with
 |some k=>match s.gat k with
  |some p=>E.φ p.1
  |none=>z9
 |none=>z9
def eW (s:AS)(E:Env)(al:Bool)(fp:Gw):Env:=fo (λ b=>al=Ga/\E.own b) (gA s E fp) fp.length
def eK {s:AS}{E:Env}{fp:Gw}{j k g:Nat}{o:Ob}(hj:fp[j]? =Ge k)(hk:s.gat k=Ge (g,o)):gA s E fp j=E.φ g:=by
 unfold gA;rw[hj];dsimp only;rw[hk]
def dL {s:AS}{E:Env}{fp:Gw}{j x:Nat}(h:gA s E fp j=Ge x):∃k g o,fp[j]? =Ge k/\s.gat k=Ge (g,o)/\E.φ g=Ge x:=by
 unfold gA at h
 split at h
 case h_2=>cases h
 case h_1 k hk=>
 split at h
 case h_2=>cases h
 case h_1 p hp=>exact⟨k,p.1,p.2,hk,hp,h⟩

section
variable {P:Program} {cx:Cx} {E:Env} {s:AS} {a:Act} {w:World}

def nJ (h:SR cx E s a w)(al:Bool)(fp:Gw){b:Nat}(hb:(eW s E al fp).own b):E.own b:=by
 rcases hb with⟨_,hb⟩|⟨j,_,hx⟩
 ·exact hb
 ·obtain⟨k,g,o,_,h2,h3⟩:=dL hx
  exact h.own_of ⟨k,g,o,h2,h3⟩
def Stp.toLoc (h:SR cx E s a w)(al:Bool)(fp:Gw):Stp E.cl (eW s E al fp) w w:=⟨λ _ h=>h.elim,λ _ h=>h.elim,Wl _,λ _ _ ho=>⟨λ hh=>ho (nJ h al fp hh),rfl⟩,λ _ _=>rfl⟩

def kj {al:Bool}{fp:Gw}:∀(cs:GA) {q:Bool×GA},jv s al fp cs=Ge q->q.1=Ga->q.2.length=cs.length/\∀(j:Nat) d,cs[j]? =Ge d->∃p,nI s al fp d=Ge p/\p.1=Ga/\q.2[j]? =Ge p.2
 |[],q,h,hq=>by simp only[jv,Option.some.injEq]at h;subst h;exact⟨rfl,λ j d hj=>by simp at hj⟩
 |d::r,q,h,hq=>by
  simp only[jv]at h
  split at h
  case h_2=>cases h
  case h_1 p q' hp hq'=>
  cases h
  rw[Wh]at hq;obtain⟨h1,h2⟩:=kj r hq' hq.2;refine⟨by simp[h1],λ j d' hj=>?_⟩
  cases j with
  |zero=>simp at hj;subst hj;exact⟨p,hp,hq.1,rfl⟩
  |succ j=>obtain⟨p',a1,a2,a3⟩:=h2 j d' (by simpa using hj);exact⟨p',a1,a2,by simpa using a3⟩

def vr (h:SR cx E s a w){fp:Gw}{k g off n sz:Nat}{u:Value}{blk:Blk}(hr:RD E w (.ref k g off n sz) u)(hk:s.at k=Ge (g,blk))(hj:jD fp k=z9)(hle:off+n*sz<=blk.cells.length)(hsz:1<=sz){cs:GA}
  (hlc:cs.length=(dv blk.cells off (n*sz)).length) (hcs:∀us:List Value,us.length=cs.length->(∀(i:Nat) d u,(dv blk.cells off (n*sz))[i]? =Ge d->us[i]? =Ge u->RD E w d u)->∀(i:Nat) d u,cs[i]? =Ge d->us[i]? =Ge u->RD (eW s E Gd fp).cl w d u):
  RD (eW s E Gd fp) w (.sl (Wf 1 n) n sz cs) u:=by
 cases hr with
 |@ref _ _ k g off n sz c b off' t m hg hb hc ho hsh hm=>
  obtain⟨hlt,hown,cur,fr,hcur,_,hcl2,_,hcell⟩:=h.block hk hb;have hv:Vw _ _ b 0 blk.cells:=λ j d hj=>by
   obtain⟨v,hv1,hv2,hv3⟩:=hcell j d hj;exact⟨v,by rw[WE,cell_of_row _ b j cur blk.elem fr hcur];exact hv1,hv2,hv3⟩
  obtain⟨us,hl,hrg,h1,hd⟩:=hv.seg hle;rw[WE]at hrg;rw[gz]at hlc hcs;have hl2:us.length=cs.length:=by rw[hl,hlc,Wi,Wy];omega
  refine .sl _ n sz _ _ c us hl2 (hcs us hl2 λ i d u a1 a2=>hd i d u a1 a2) h1 (by rw[hlc,Wi,Wy];omega) hsz hc (λ hh=>by cases hh) ?_;rcases YP n with h0|h0
  ·exact .inl h0
  ·refine .inr ⟨b,off',rfl,hlt,λ hh=>?_,λ i u hu=>?_⟩
   ·rcases hh with⟨ha,_⟩|⟨j,_,hx⟩
    ·cases ha
    ·obtain⟨k',g',o',e1,e2,e3⟩:=dL hx
     have hne:k≠k':=λ e=>by subst e;exact jM hj (Xy e1)
     exact h.inj k k' g g' _ o' hne (AS.at_iff.1 hk) e2 b hb e3
   ·obtain rfl:off'=off:=by omega
    exact hrg i u hu
 |@refn _ _ k g sz hg hb=>
  have e:dv blk.cells 0 (0*sz)=[]:=by rw[gz];simp
  rw[e]at hlc;have:cs=[]:=WY hlc;subst this;exact .sl _ 0 sz [] z9 0 [] rfl (by simp) (by simp) (by simp) hsz ⟨Wl _,W5 _⟩ (λ _=>⟨rfl,rfl⟩) (.inl rfl)
def JC (h:SR cx E s a w){fp:Gw}{k g off:Nat}{u:Value}{blk:Blk}(hr:RD E w (.ptr k g off) u)(hk:s.at k=Ge (g,blk))(hj:jD fp k=z9){cs:GA}
  (hlc:cs.length<=(dv blk.cells 0 blk.cells.length).length) (hcs:∀us:List Value,us.length=cs.length->(∀(i:Nat) d u,(dv blk.cells 0 blk.cells.length)[i]? =Ge d->us[i]? =Ge u->RD E w d u)->∀(i:Nat) d u,cs[i]? =Ge d->us[i]? =Ge u->RD (eW s E Gd fp).cl w d u):
  RD (eW s E Gd fp) w (.ep cs off) u:=by
 cases hr with
 |ptr _ _ _ b hg hb=>
  obtain⟨hlt,hown,cur,fr,hcur,_,hcl2,_,hcell⟩:=h.block hk hb;have hv:Vw _ _ b 0 blk.cells:=λ j d hj=>by
   obtain⟨v,hv1,hv2,hv3⟩:=hcell j d hj;exact⟨v,by rw[WE,cell_of_row _ b j cur blk.elem fr hcur];exact hv1,hv2,hv3⟩
  obtain⟨us,hl,hrg,h1,hd⟩:=hv.seg (off:=0) (m:=blk.cells.length) (by omega);rw[gz]at hlc hcs;have hl2:(us.take cs.length).length=cs.length:=by rw[Wi,hl];rw[Wi,Wy]at hlc;omega
  have tk:∀{i:Nat} {u:Value},(us.take cs.length)[i]? =Ge u->us[i]? =Ge u:=fun{i u} q=>by
   rw[Xa]at q;split at q
   ·exact q
   ·cases q
  have:=RD.ep (E:=eW s E Gd fp) (w:=w) cs off b 0 (us.take cs.length) hl2 (hcs _ hl2 λ i d u a1 a2=>hd i d u a1 (tk a2)) (λ u hu=>h1 u (Xs hu)) hlt (λ hh=>by
   rcases hh with⟨ha,_⟩|⟨j,_,hx⟩
   ·cases ha
   ·obtain⟨k',g',o',e1,e2,e3⟩:=dL hx
    have hne:k≠k':=λ e=>by subst e;exact jM hj (Xy e1)
    exact h.inj k k' g g' _ o' hne (AS.at_iff.1 hk) e2 b hb e3) (λ i u hu=>by have:=hrg i u (tk hu);simpa using this)
  rwa [WE]at this
def qQ (h:SR cx E s a w){al:Bool}{fp:Gw}{d:D}{u:Value}(hr:RD E w d u)(hc:d.closed=Ga):RD (eW s E al fp).cl w d u:=((hr.weak hc).step (Stp.toLoc h al fp)).weak hc
def nK (h:SR cx E s a w){fp:Gw}{d:D}{u:Value}(hr:RD E w d u){q:Bool×D}(hq:zA s fp d=Ge q)(hq1:q.1=Ga):RD (eW s E Gd fp).cl w q.2 u:=by
 unfold zA at hq
 split at hq
 case h_2=>cases hq;exact qQ h hr hq1
 case h_1 k g off n sz=>
 split at hq
 case h_2=>cases hq
 case h_1 p hk=>
 obtain⟨g',blk⟩:=p;dsimp only at hq
 split at hq
 case h_1=>cases hq
 case h_2 hj=>
 cases hq
 simp only[Wh]at hq1;obtain⟨⟨⟨hgg,hle⟩,hsz⟩,hcl⟩:=hq1;obtain rfl:g=g':=Wk hgg;exact(vr h hr hk hj (Wm hle) (Wm hsz) rfl λ us _ hd i d u a1 a2=>qQ h (hd i d u a1 a2) (bl hcl a1)).weak rfl
def l9 (h:SR cx E s a w){fp:Gw}:∀{cs:GA} {q:Bool×GA},l8 s fp cs=Ge q->q.1=Ga->q.2.length=cs.length/\∀us:List Value,us.length=q.2.length->(∀(i:Nat) d u,cs[i]? =Ge d->us[i]? =Ge u->RD E w d u)->∀(i:Nat) d u,q.2[i]? =Ge d->us[i]? =Ge u->RD (eW s E Gd fp).cl w d u
 |[],q,hq,_=>by simp only[l8,Option.some.injEq]at hq;subst hq;exact⟨rfl,λ us _ _ i d u hd=>by simp at hd⟩
 |c::r,q,hq,hq1=>by
  simp only[l8]at hq
  split at hq
  case h_2=>cases hq
  case h_1 p q' hp hq'=>
  cases hq
  rw[Wh]at hq1;obtain⟨l1,l2⟩:=l9 h hq' hq1.2;refine⟨by simp[l1],λ us hl hd i d u h1 h2=>?_⟩
  cases us with
  |nil=>simp at hl
  |cons v us=>
  cases i with
  |zero=>
   simp only[YU,Option.some.injEq]at h1 h2;subst h1 h2;exact nK h (hd 0 c v rfl rfl) hp hq1.1
  |succ i=>
   exact l2 us (by simpa using hl) (λ j d u a1 a2=>hd (j+1) d u (by simpa using a1) (by simpa using a2)) i d u (by simpa using h1) (by simpa using h2)
def ma (h:SR cx E s a w){fp:Gw}:∀{cs:GA},(iC s fp cs).1=Ga->(iC s fp cs).2.length<=cs.length/\∀us:List Value,us.length=(iC s fp cs).2.length->(∀(i:Nat) d u,cs[i]? =Ge d->us[i]? =Ge u->RD E w d u)->∀(i:Nat) d u,(iC s fp cs).2[i]? =Ge d->us[i]? =Ge u->RD (eW s E Gd fp).cl w d u
 |[],_=>⟨Wl _,λ us _ _ i d u hd=>by simp[iC]at hd⟩
 |c::r,hq1=>by
  simp only[iC]at hq1 ⊢
  split at hq1
  case h_2 hp=>exact⟨W5 _,λ us _ _ i d u hd=>by simp at hd⟩
  case h_1 p hp=>
  rw[Wh]at hq1;obtain⟨l1,l2⟩:=ma h hq1.2;refine⟨Nat.succ_le_succ l1,λ us hl hd i d u h1 h2=>?_⟩
  cases us with
  |nil=>simp at hl
  |cons v us=>
  cases i with
  |zero=>
   simp only[YU,Option.some.injEq]at h1 h2;subst h1 h2;exact nK h (hd 0 c v rfl rfl) hp hq1.1
  |succ i=>
   exact l2 us (by simpa using hl) (λ j d u a1 a2=>hd (j+1) d u (by simpa using a1) (by simpa using a2)) i d u (by simpa using h1) (by simpa using h2)
def vt (h:SR cx E s a w){fp:Gw}{b:Blk}(hq1:(pp s fp b).1=Ga):(pp s fp b).2.length<=(dv b.cells 0 b.cells.length).length/\∀us:List Value,us.length=(pp s fp b).2.length->(∀(i:Nat) d u,(dv b.cells 0 b.cells.length)[i]? =Ge d->us[i]? =Ge u->RD E w d u)->∀(i:Nat) d u,(pp s fp b).2[i]? =Ge d->us[i]? =Ge u->RD (eW s E Gd fp).cl w d u:=by
 unfold pp at hq1 ⊢
 cases hrow:b.row with
 |true=>
  rw[hrow,cond_true]at hq1;exact⟨Wl _,λ us _ hd i d u h1 h2=>qQ h (hd i d u h1 h2) (bl hq1 h1)⟩
 |false=>
  rw[hrow,cond_false]at hq1;exact ma h hq1
def nL (h:SR cx E s a w){fp:Gw}{b:Blk}{off m:Nat}{q:Bool×GA}(hq:zB s fp b off m=Ge q)(hq1:q.1=Ga):q.2.length=(dv b.cells off m).length/\∀us:List Value,us.length=q.2.length->(∀(i:Nat) d u,(dv b.cells off m)[i]? =Ge d->us[i]? =Ge u->RD E w d u)->∀(i:Nat) d u,q.2[i]? =Ge d->us[i]? =Ge u->RD (eW s E Gd fp).cl w d u:=by
 unfold zB at hq
 cases hrow:b.row with
 |true=>
  rw[hrow,cond_true]at hq
  cases hq
  exact⟨rfl,λ us _ hd i d u h1 h2=>qQ h (hd i d u h1 h2) (bl hq1 h1)⟩
 |false=>
  rw[hrow,cond_false]at hq;exact l9 h hq hq1

def pL (h:SR cx E s a w){al:Bool}{fp:Gw}:∀{E':Env} {w':World} {d:D} {u:Value},RD E' w' d u->E'=E->w'=w->∀{q:Bool×D},nI s al fp d=Ge q->q.1=Ga->RD (eW s E al fp) w q.2 u:=by
 intro E' w' d u hr;have hst:=Stp.toLoc h al fp;have L:∀{cs:GA} {us:List Value},us.length=cs.length->(∀(i:Nat) d u,cs[i]? =Ge d->us[i]? =Ge u->∀{q:Bool×D},nI s al fp d=Ge q->q.1=Ga->RD (eW s E al fp) w q.2 u)->∀{q:Bool×GA},jv s al fp cs=Ge q->q.1=Ga->
   us.length=q.2.length/\∀(i:Nat) d u,q.2[i]? =Ge d->us[i]? =Ge u->RD (eW s E al fp) w d u:=by
  intro cs us hlen ih q hq hq1;obtain⟨h1,h2⟩:=kj cs hq hq1;refine⟨by rw[hlen,h1],λ i d u hd hu=>?_⟩;have hlt:i<cs.length:=by rw[<-h1];exact(List.getElem?_eq_some_iff.1 hd).1
  obtain⟨p,a1,a2,a3⟩:=h2 i cs[i] (Wa hlt);rw[hd]at a3;cases a3;exact ih i _ u (Wa hlt) hu a1 a2
 induction hr with
 |v c hc=>intro _ _ q hq _;simp only[nI,Option.some.injEq]at hq;subst hq;exact .v c hc
 |@sl E1 w1 nn n size cells ad c us hlen hd h1 hn hp hc h0 hr ih=>
  rintro rfl rfl q hq _;simp only[nI,Option.some.injEq]at hq;subst hq;exact((RD.sl nn n size cells ad c us hlen hd h1 hn hp hc h0 hr).weak rfl).step hst
 |@ref E1 w1 k g off n sz c b off' t m hg hb hc ho hsh hm=>
  rintro rfl rfl q hq hq1;simp only[nI]at hq
  cases hk:s.at k with
  |none=>rw[hk]at hq;cases hq
  |some p=>
  obtain⟨g',blk⟩:=p;rw[hk]at hq;dsimp only at hq
  split at hq
  case h_1 j hj=>
   cases hq
   obtain rfl:g=g':=Wk hq1;have hj':=jk hj;exact .ref j j off n sz c b off' t m (List.getElem?_eq_some_iff.1 hj').1 ((eK hj' (AS.at_iff.1 hk)).trans hb) hc ho hsh hm
  case h_2 hj=>
  split at hq
  case h_2=>cases hq
  case h_1 cc hcc=>
  cases hq
  simp only[Wh,XX]at hq1;obtain⟨hal,⟨⟨hgg,hle⟩,hsz⟩,hc1⟩:=hq1;subst hal;obtain rfl:g=g':=Wk hgg;obtain⟨l1,l2⟩:=nL h hcc hc1;exact vr h (.ref k g off n sz c b off' t m hg hb hc ho hsh hm) hk hj (Wm hle) (Wm hsz) l1 l2
 |@refn E1 w1 k g sz hg hb=>
  rintro rfl rfl q hq hq1;simp only[nI]at hq
  cases hk:s.at k with
  |none=>rw[hk]at hq;cases hq
  |some p=>
  obtain⟨g',blk⟩:=p;rw[hk]at hq;dsimp only at hq
  split at hq
  case h_1 j hj=>
   cases hq
   obtain rfl:g=g':=Wk hq1;have hj':=jk hj;exact .refn j j sz (List.getElem?_eq_some_iff.1 hj').1 ((eK hj' (AS.at_iff.1 hk)).trans hb)
  case h_2 hj=>
  split at hq
  case h_2=>cases hq
  case h_1 cc hcc=>
  cases hq
  simp only[Wh,XX]at hq1;obtain⟨hal,⟨⟨hgg,hle⟩,hsz⟩,hc1⟩:=hq1;subst hal;obtain rfl:g=g':=Wk hgg;obtain⟨l1,l2⟩:=nL h hcc hc1;exact vr h (.refn k g sz hg hb) hk hj (Wm hle) (Wm hsz) l1 l2
 |@ptr E1 w1 k g off b hg hb=>
  rintro rfl rfl q hq hq1;simp only[nI]at hq
  cases hk:s.at k with
  |none=>rw[hk]at hq;cases hq
  |some p=>
  obtain⟨g',blk⟩:=p;rw[hk]at hq;dsimp only at hq
  split at hq
  case h_1 j hj=>
   cases hq
   obtain rfl:g=g':=Wk hq1;have hj':=jk hj;exact .ptr j j off b (List.getElem?_eq_some_iff.1 hj').1 ((eK hj' (AS.at_iff.1 hk)).trans hb)
  case h_2 hj=>
  cases hq
  simp only[Wh,XX]at hq1;obtain⟨hal,hgg,hc1⟩:=hq1;subst hal;obtain rfl:g=g':=Wk hgg;obtain⟨l1,l2⟩:=vt h hc1;exact JC h (.ptr k g off b hg hb) hk hj l1 l2
 |@ep E1 w1 cells off b o us hlen hd h1 hb ho hr ih=>
  rintro rfl rfl q hq _;simp only[nI,Option.some.injEq]at hq;subst hq;exact .ep cells off b o us hlen (λ i d u a1 a2=>(hd i d u a1 a2).step (E:=E1.cl) (E':=(eW s E1 al fp).cl) (w:=w1) (w':=w1) ⟨λ _ hx=>hx.elim,λ _ hx=>hx.elim,Wl _,λ _ _ ho=>⟨λ hh=>ho (nJ h al fp hh),rfl⟩,λ _ _=>rfl⟩) h1 hb (λ hh=>ho (nJ h al fp hh)) hr
 |agg cs us hlen _ h1 ih=>
  rintro rfl rfl q hq hq1;simp only[nI]at hq
  split at hq
  case h_2=>cases hq
  case h_1 p hp=>
  cases hq
  obtain⟨l1,l2⟩:=L hlen (λ i d u a1 a2=>ih i d u a1 a2 rfl rfl) hp hq1;exact .agg _ us l1 l2 h1
 |tup cs us hlen _ ih=>
  rintro rfl rfl q hq hq1;simp only[nI]at hq
  split at hq
  case h_2=>cases hq
  case h_1 p hp=>
  cases hq
  obtain⟨l1,l2⟩:=L hlen (λ i d u a1 a2=>ih i d u a1 a2 rfl rfl) hp hq1;exact .tup _ us l1 l2
 |ifc t x u _ ih=>
  rintro rfl rfl q hq hq1;simp only[nI]at hq
  split at hq
  case h_2=>cases hq
  case h_1 p hp=>
  cases hq
  exact .ifc t _ u (ih rfl rfl hp hq1)
 |@fn E1 w1 f fi ca us vs hl1 hl2 hd1 hd2 ih1 ih2=>
  rintro rfl rfl q hq hq1;simp only[nI]at hq
  split at hq
  case h_2=>cases hq
  case h_1 p p' hp hp'=>
  cases hq
  rw[Wh]at hq1;obtain⟨l1,l2⟩:=L hl1 (λ i d u a1 a2=>ih1 i d u a1 a2 rfl rfl) hp hq1.1;obtain⟨l3,l4⟩:=L hl2 (λ i d u a1 a2=>ih2 i d u a1 a2 rfl rfl) hp' hq1.2;exact .fn f _ _ us vs l1 l3 l2 l4
 |yl=>rintro rfl rfl q hq;cases hq

def pM (h:SR cx E s a w){al:Bool}{fp:Gw}:∀(l:Gw) (i:Nat),(∀(j:Nat) k,l[j]? =Ge k->fp[i+j]? =Ge k)->∀{q:Bool×lM},jE s fp l=Ge q->q.1=Ga->
  q.2.length=l.length/\(∀k∈l,∃g b,s.at k=Ge (g,b))/\∀(j:Nat) b,q.2[j]? =Ge b->HB (eW s E al fp) w (i+j) b
 |[],i,_,q,hq,_=>by simp only[jE,Option.some.injEq]at hq;subst hq;exact⟨rfl,λ k hk=>(by cases hk),λ j b hj=>by simp at hj⟩
 |k::r,i,hsub,q,hq,hq1=>by
  simp only[jE]at hq
  split at hq
  case h_2=>cases hq
  case h_1 p q' hk hq'=>
  obtain⟨g,blk⟩:=p;have hki:fp[i]? =Ge k:=hsub 0 k rfl;have hφ:gA s E fp i=E.φ g:=eK hki (AS.at_iff.1 hk);have hi:i<fp.length:=(List.getElem?_eq_some_iff.1 hki).1;have rec_:q'.1=Ga->q'.2.length=r.length/\(∀k∈r,∃g b,s.at k=Ge (g,b))/\∀(j:Nat) b,q'.2[j]? =Ge b->HB (eW s E al fp) w (i+1+j) b:=λ h1=>pM h r (i+1) (λ j k' hj=>by
   have:=hsub (j+1) k' (by simpa using hj)
   rwa [show i+(j+1)=i+1+j by omega]at this) hq' h1
  have build:∀b':Blk,b'.elem=blk.elem->b'.row=blk.row->b'.cells.length=blk.cells.length->(blk.cells=[]->b'.cells=[])->(∀(j:Nat) d' u,b'.cells[j]? =Ge d'->(∀d,blk.cells[j]? =Ge d->RD E w d u)->RD (eW s E al fp) w d' u)->HB (eW s E al fp) w i b':=by
   intro b' e1 e2 e3 e4 e5;obtain⟨c1,c2⟩:=h.hp k g blk hk;refine⟨hi,?_⟩;show match gA s E fp i with|none=>_|some b=>_
   rw[hφ]
   cases hp:E.φ g with
   |none=>rw[hp]at c2;exact⟨e4 c2.1,by rw[e2];exact c2.2⟩
   |some x=>
    rw[hp]at c2;obtain⟨d1,d2,cur,fr,d3,d4,d5,d6,d7⟩:=c2;refine⟨.inr ⟨i,hi,hφ.trans hp⟩,d2,cur,fr,by rw[e1];exact d3,d4,by rw[e3];exact d5,λ hr=>by rw[e3];exact d6 (by rw[<-e2];exact hr),λ j d' hj=>?_⟩;have hlt:j<blk.cells.length:=by rw[<-e3];exact(List.getElem?_eq_some_iff.1 hj).1
    obtain⟨u,f1,f2,f3⟩:=d7 j blk.cells[j] (Wa hlt);exact⟨u,f1,f2,e5 j d' u hj λ d hd=>by rw[Wa hlt]at hd;cases hd;exact f3⟩
  have fin:∀(b':Blk),HB (eW s E al fp) w i b'->q'.1=Ga->(b'::q'.2).length=(k::r).length/\(∀k'∈k::r,∃g b,s.at k'=Ge (g,b))/\∀(j:Nat) b,(b'::q'.2)[j]? =Ge b->HB (eW s E al fp) w (i+j) b:=by
   intro b' hb' h1;obtain⟨r1,r2,r3⟩:=rec_ h1;refine⟨by simp[r1],λ k' hk'=>?_,λ j b hj=>?_⟩
   ·rcases List.mem_cons.1 hk' with rfl|hk'
    ·exact⟨g,blk,hk⟩
    ·exact r2 k' hk'
   ·cases j with
    |zero=>simp at hj;subst hj;exact hb'
    |succ j=>rw[show i+(j+1)=i+1+j by omega];exact r3 j b (by simpa using hj)
  have hst:=Stp.toLoc h al fp
  cases hrow:blk.row with
  |true=>
   simp only[hrow,cond_true,Option.some.injEq]at hq;subst hq;rw[Wh]at hq1;exact fin blk (build blk rfl rfl rfl (λ e=>e) λ j d' u hj hd=>((hd d' hj).weak (bl hq1.1 hj)).step hst) hq1.2
  |false=>
   simp only[hrow,cond_false]at hq
   split at hq
   case h_2=>cases hq
   case h_1 c hc=>
   cases hq
   rw[Wh]at hq1;obtain⟨l1,l2⟩:=kj _ hc hq1.1;refine fin ⟨c.2,blk.elem,Gd⟩ (build _ rfl hrow.symm l1 (λ e=>WY (by rw[l1,e];rfl)) λ j d' u hj hd=>?_) hq1.2;have hlt:j<blk.cells.length:=by rw[<-l1];exact(List.getElem?_eq_some_iff.1 hj).1
   obtain⟨p',a1,a2,a3⟩:=l2 j _ (Wa hlt);rw[hj]at a3;cases a3;have hx:=pL h (hd _ (Wa hlt)) rfl rfl a1 a2;exact hx.step (E:=eW s E Ga fp) (E':=eW s E al fp) (w:=w) (w':=w) ⟨λ _ hx=>hx,λ _ _=>rfl,Wl _,λ b _ hn=>⟨λ hh=>hn (Or.imp (λ hh=>⟨rfl,hh.2⟩) id hh),rfl⟩,λ _ _=>rfl⟩

end

def k7 (al:Bool)(O:Nat->Prop)(w:World)(b:Nat):Prop:=if al=Ga then O b else b<w.heap.size
def Gv (O:Nat->Prop)(w:World)(m:Nat)(φ0:Nat->Option Nat)(r:D)(bs:lM)(u:Value)(w':World):Prop:=
 Fr (λ k=>w.heap.size<=k\/∃j,j<m/\φ0 j=Ge k) w w'/\∃φ,(∀j,j<m->φ j=φ0 j)/\RD (fo O φ bs.length) w' r u/\(∀(j:Nat) b,bs[j]? =Ge b->HB (fo O φ bs.length) w' j b/\(b.row=Ga->ab b.cells=Ga))/\
  (∀i j x,i<bs.length->j<bs.length->i≠j->φ i=Ge x->φ j≠Ge x)/\∀j x,m<=j->j<bs.length->φ j=Ge x->w.heap.size<=x
def SpecH (al:Bool)(P:Program)(f:FuncId)(ds:GA)(hin:lM)(r:D)(bs:lM):Prop:=
 hin.length<=bs.length/\∀(O:Nat->Prop) (φ:Nat->Option Nat) (w:World) (args:List Value),(∀x,O x->x<w.heap.size)->(∀(j:Nat) b,hin[j]? =Ge b->HB (fo O φ hin.length) w j b)->
  (∀i j x,i<hin.length->j<hin.length->i≠j->φ i=Ge x->φ j≠Ge x)->args.length=ds.length->(∀(j:Nat) d u,ds[j]? =Ge d->args[j]? =Ge u->RD (fo O φ hin.length) w d u)->
  Calls P f args.toArray w λ e w'=>∃u,e= .returned u/\Gv (k7 al O w) w hin.length φ r bs u w'
def Sx (al:Bool)(P:Program)(f:FuncId)(ds:GA)(hin:lM)(r:D)(bs:lM):Prop:=
 hin.length<=bs.length/\∀(O:Nat->Prop) (φ:Nat->Option Nat) (w:World) (args:List Value),(∀x,O x->x<w.heap.size)->(∀(j:Nat) b,hin[j]? =Ge b->HB (fo O φ hin.length) w j b)->
  (∀i j x,i<hin.length->j<hin.length->i≠j->φ i=Ge x->φ j≠Ge x)->args.length=ds.length->(∀(j:Nat) d u,ds[j]? =Ge d->args[j]? =Ge u->RD (fo O φ hin.length) w d u)->
  ∃u w',(callFunc f args.toArray).run P w= .ok (.value u) w'/\Gv (k7 al O w) w hin.length φ r bs u w'
def ap (P:Program)(f:FuncId):Prop:=∃fn,P.funcs[f]? =Ge fn/\fn.body.isNone=Gd/\(fn.name== "runtime.NumGoroutine")=Gd
inductive CallOk (al:Bool) (P:Program) (f:FuncId) (ds:GA) (hin:lM) (r:D) (bs:lM):Prop
 |fn (h:ap P f) (s:SpecH al P f ds hin r bs)
 |ext (s:Sx al P f ds hin r bs)
def CallOk.len {al:Bool}{P:Program}{f:FuncId}{ds:GA}{hin:lM}{r:D}{bs:lM}(h:CallOk al P f ds hin r bs):hin.length<=bs.length:=by
 cases h with
 |fn _ s=>exact s.1
 |ext s=>exact s.1
abbrev U8 (al:Bool)(P:Program)(f:FuncId)(ds:GA)(r:D)(bs:lM):Prop:=SpecH al P f ds [] r bs
abbrev zC (P:Program)(f:FuncId)(ds:GA)(r:D)(bs:lM):Prop:=SpecH Gd P f ds [] r bs

mutual
def db (κ γ:Nat->Nat):D->D
 | .ref k g off n sz=>.ref (κ k) (γ g) off n sz
 | .ptr k g off=>.ptr (κ k) (γ g) off
 | .agg cs=>.agg (fB κ γ cs)
 | .tup cs=>.tup (fB κ γ cs)
 | .ifc t x=>.ifc t (db κ γ x)
 | .v c=>.v c
 | .sl nn n sz cells=>.sl nn n sz cells
 | .ep cells off=>.ep cells off
 | .fn f fi ca=>.fn f (fB κ γ fi) (fB κ γ ca)
 | .yl k g=>.yl (κ k) (γ g)
def fB (κ γ:Nat->Nat):GA->GA
 |[]=>[]
 |d::r=>db κ γ d::fB κ γ r
end
def eM (κ γ:Nat->Nat)(l:GA):fB κ γ l=l.map (db κ γ):=by
 induction l with
 |nil=>rfl
 |cons d r ih=>simp[fB,ih]
def cb (κ γ:Nat->Nat)(b:Blk):Blk:=bif b.row then b else⟨fB κ γ b.cells,b.elem,b.row⟩
def gY (κ γ:Nat->Nat)(b:Blk):(cb κ γ b).elem=b.elem/\(cb κ γ b).row=b.row/\(cb κ γ b).cells.length=b.cells.length:=by
 unfold cb
 cases hr:b.row<;>simp[hr,eM]

def RD.map {E E':Env}{w':World}(κ γ:Nat->Nat){d:D}{u:Value}(h:RD E w' d u):(∀g,E.nm g->E'.nm (γ g)/\E'.φ (γ g)=E.φ g)->(∀b,E'.own b->E.own b)->RD E' w' (db κ γ d) u:=by
 have cl:∀{E E':Env} {w':World},(∀b,E'.own b->E.own b)->Stp E.cl E'.cl w' w':=λ ho=>⟨λ _ h=>h.elim,λ _ h=>h.elim,Wl _,λ b _ hb=>⟨λ h=>hb (ho b h),rfl⟩,λ _ _=>rfl⟩
 induction h with
 |v c h=>intro _ _;exact .v c h
 |@sl E1 w1 nn n size cells a c us hlen hd h1 hn hp hc h0 hr ih=>
  intro hn' ho;exact((RD.sl nn n size cells a c us hlen hd h1 hn hp hc h0 hr).weak rfl).step (cl ho)|>.ofCl
 |ref k g off n sz c b off' t m hg hb hc ho hsh hm=>intro hn' _;exact .ref _ _ off n sz c b off' t m (hn' g hg).1 ((hn' g hg).2.trans hb) hc ho hsh hm
 |refn k g sz hg hb=>intro hn' _;exact .refn _ _ sz (hn' g hg).1 ((hn' g hg).2.trans hb)
 |ptr k g off b hg hb=>intro hn' _;exact .ptr _ _ off b (hn' g hg).1 ((hn' g hg).2.trans hb)
 |ep cells off b o us hlen hd h1 hb ho hr ih=>
  intro hn' ho';exact .ep cells off b o us hlen (λ i d u a1 a2=>(hd i d u a1 a2).step (cl ho')) h1 hb (λ h=>ho (ho' b h)) hr
 |agg cs us hlen _ h1 ih=>
  intro hn' ho;simp only[db,eM];exact .agg _ us (by simp[hlen]) (λ i d u a1 a2=>by rw[WB,Xu]at a1;obtain⟨x,hx,rfl⟩:=a1;exact ih i x u hx a2 hn' ho) h1
 |tup cs us hlen _ ih=>
  intro hn' ho;simp only[db,eM];exact .tup _ us (by simp[hlen]) (λ i d u a1 a2=>by rw[WB,Xu]at a1;obtain⟨x,hx,rfl⟩:=a1;exact ih i x u hx a2 hn' ho)
 |ifc t x u _ ih=>intro hn' ho;exact .ifc t _ u (ih hn' ho)
 |fn f fi ca us vs hl1 hl2 _ _ ih1 ih2=>
  intro hn' ho;simp only[db,eM];exact .fn f _ _ us vs (by simp[hl1]) (by simp[hl2]) (λ i d u a1 a2=>by rw[WB,Xu]at a1;obtain⟨x,hx,rfl⟩:=a1;exact ih1 i x u hx a2 hn' ho)
   (λ i d u a1 a2=>by rw[WB,Xu]at a1;obtain⟨x,hx,rfl⟩:=a1;exact ih2 i x u hx a2 hn' ho)
 |yl k g b hg hb=>intro hn' _;exact .yl _ _ b (hn' g hg).1 ((hn' g hg).2.trans hb)

def gB (fp:Gw)(ky j:Nat):Nat:=bif Yq j fp.length then fp.getD j 0 else ky+(j-fp.length)
def gc (s:AS)(fp:Gw)(nm j:Nat):Nat:=bif Yq j fp.length then(match s.gat (fp.getD j 0)with|some p=>p.1|none=>0)else nm+(j-fp.length)
def gZ (κ γ:Nat->Nat):Nat->lM->Up
 |_,[]=>[]
 |j,b::r=>(κ j,Ge (γ j,.b (cb κ γ b)))::gZ κ γ (j+1) r

def AP:∀{up:Up} {hp:Tr (Nat×Ob)} {k:Nat} {x:Nat×Ob},(fU up hp).get k=Ge x->(k,Ge x)∈up\/((∀p∈up,p.1≠k)/\hp.get k=Ge x)
 |[],hp,k,x,h=>.inr ⟨λ p hp=>(by cases hp),h⟩
 |p::r,hp,k,x,h=>by
  rcases Tr.of_set h with⟨e,hv⟩|⟨e,h⟩
  ·obtain⟨a,b⟩:=p
   dsimp only at e hv;subst e hv;exact .inl WH
  ·rcases AP h with h|⟨h1,h2⟩
   ·exact .inl (WG _ h)
   ·refine .inr ⟨λ q hq=>?_,h2⟩
    rcases List.mem_cons.1 hq with rfl|hq
    ·exact λ h=>e h.symm
    ·exact h1 q hq
def mb {κ γ:Nat->Nat}:∀{bs:lM} {j k:Nat} {x:Option (Nat×Ob)},(k,x)∈gZ κ γ j bs->∃i b,bs[i]? =Ge b/\k=κ (j+i)/\x=Ge (γ (j+i),.b (cb κ γ b))
 |[],_,_,_,h=>by cases h
 |b::r,j,k,x,h=>by
  rcases List.mem_cons.1 h with h|h
  ·cases h;exact⟨0,b,rfl,rfl,rfl⟩
  ·obtain⟨i,b',h1,h2,h3⟩:=mb h
   exact⟨i+1,b',by simpa using h1,by rw[h2,show j+1+i=j+(i+1) by omega],by rw[h3,show j+1+i=j+(i+1) by omega]⟩
def kn {κ γ:Nat->Nat}:∀{bs:lM} {j i:Nat},i<bs.length->∃x,(κ (j+i),x)∈gZ κ γ j bs
 |[],_,_,h=>by simp at h
 |b::r,j,i,h=>by
  cases i with
  |zero=>exact⟨_,WH⟩
  |succ i=>
   obtain⟨x,hx⟩:=kn (κ:=κ) (γ:=γ) (bs:=r) (j:=j+1) (i:=i) (by simpa using h);exact⟨x,by rw[show j+(i+1)=j+1+i by omega];exact WG _ hx⟩

section
variable {P:Program} {cx:Cx} {E:Env} {s:AS} {a:Act} {w:World}

def qR (κ γ:Nat->Nat)(bs:lM)(r:D):D:=match bs with
 |[]=>r
 |_::_=>db κ γ r
def SR.adopt {w':World}(h:SR cx E s a w){nm ky i:Nat}(hi:i∉s.us)(hg:s.nx+8*i=nm){fp:Gw}(hnd:fp.Nodup)(hfp:∀k∈fp,∃g b,s.at k=Ge (g,b)){bs:lM}(hm:fp.length<=bs.length)(hlen:bs.length<=fp.length+8)
  {r:D} {u:Value} {O:Nat->Prop} (hO:∀b,b<w.heap.size->E.own b->O b) (hgv:Gv O w fp.length (gA s E fp) r bs u w'):
  let s':AS:={s with hp:=fU (gZ (gB fp ky) (gc s fp nm) 0 bs) s.hp,us:=i::s.us}
  ∃E',SR cx E' s' a w'/\Stp E E' w w'/\RD E' w' (qR (gB fp ky) (gc s fp nm) bs r) u/\Mut s s' E E' w w':=by
 intro s';obtain⟨hfr,φ,hφ0,hr,hb,hinj,hlow⟩:=hgv
 let m:=fp.length
 let φ':Nat->Option Nat:=λ n=>if nm<=n/\n<nm+(bs.length-m)then φ (m+(n-nm))else E.φ n
 let nm':Nat->Prop:=λ n=>E.nm n\/(nm<=n/\n<nm+(bs.length-m))
 have hfresh:∀{n},nm<=n->n<nm+(bs.length-m)->¬E.nm n:=fun{n} h1 h2 hn=>by
  have hmm:m=fp.length:=rfl;rcases h.nm n hn with h3|⟨j,hj,h3,h4⟩
  ·omega
  ·have:j=i:=by omega
   subst this;exact hi hj
 have hold:∀{k g o},s.gat k=Ge (g,o)->φ' g=E.φ g:=λ hk=>ZE fun⟨h1,h2⟩=>hfresh h1 h2 (h.ob hk).nm
 have hlt:∀{k g o x},s.gat k=Ge (g,o)->E.φ g=Ge x->x<w.heap.size:=λ hk hx=>(h.ob hk).lt hx
 -- the names of the contract
 have hfp':∀{j},j<m->∃k g b,fp[j]? =Ge k/\s.gat k=Ge (g,.b b)/\gB fp ky j=k/\gc s fp nm j=g:=fun{j} hj=>by
  have hk:fp[j]? =Ge fp[j]:=Wa hj;obtain⟨g,b,hgb⟩:=hfp _ (Xy hk);have hgb:=AS.at_iff.1 hgb;have e0:Yq j fp.length=true:=We hj;have e1:fp.getD j 0=fp[j]:=by rw[Wd,hk];rfl
  exact⟨_,g,b,hk,hgb,by unfold gB;rw[e0,cond_true,e1],by unfold gc;rw[e0,cond_true,e1,hgb]⟩
 have hnew:∀{j},m<=j->gB fp ky j=ky+(j-m)/\gc s fp nm j=nm+(j-m):=fun{j} hj=>by
  have e0:Yq j fp.length=false:=by
   cases hb:Yq j fp.length with
   |false=>rfl
   |true=>have:=Wm hb;have hmm:m=fp.length:=rfl;omega
  unfold gB gc;rw[e0];exact⟨rfl,rfl⟩
 have hγφ:∀{j},j<bs.length->φ' (gc s fp nm j)=φ j:=fun{j} hj=>by
  by_cases hjm:j<m
  ·obtain⟨k,g,b,h1,h2,_,h4⟩:=hfp' hjm
   rw[h4,hold h2,hφ0 j hjm,eK h1 h2]
  ·rw[(hnew (by omega)).2]
   show(if nm<=nm+(j-m)/\nm+(j-m)<nm+(bs.length-m)then φ (m+(nm+(j-m)-nm))else _)=_;rw[ZF ⟨by omega,by omega⟩,show m+(nm+(j-m)-nm)=j by omega]
 have hγnm:∀{j},j<bs.length->nm' (gc s fp nm j):=fun{j} hj=>by
  by_cases hjm:j<m
  ·obtain⟨k,g,b,h1,h2,_,h4⟩:=hfp' hjm
   rw[h4];exact .inl (h.ob h2).nm
  ·rw[(hnew (by omega)).2];exact .inr ⟨by omega,by omega⟩
 -- what is kept behind the call
 have hsub:∀{k g o},s'.gat k=Ge (g,o)->(∃j b,j<bs.length/\bs[j]? =Ge b/\k=gB fp ky j/\g=gc s fp nm j/\o= .b (cb (gB fp ky) (gc s fp nm) b))\/((∀j,j<bs.length->k≠gB fp ky j)/\s.gat k=Ge (g,o)):=fun{k g o} hk=>by
  rcases AP hk with hk|⟨h1,h2⟩
  ·obtain⟨i,b,e1,e2,e3⟩:=mb hk
   rw[WE]at e2 e3
   cases e3
   exact .inl ⟨i,b,(List.getElem?_eq_some_iff.1 e1).1,e1,e2,rfl,rfl⟩
  ·refine .inr ⟨λ j hj e=>?_,h2⟩
   obtain⟨x,hx⟩:=kn (κ:=gB fp ky) (γ:=gc s fp nm) (bs:=bs) (j:=0) hj;rw[WE]at hx;exact h1 _ hx e.symm
 have hkept:∀{j x},j<bs.length->φ j=Ge x->(j<m/\bu s E.φ x)\/(m<=j/\w.heap.size<=x):=fun{j x} hj hx=>by
  by_cases hjm:j<m
  ·obtain⟨k,g,b,h1,h2,_,_⟩:=hfp' hjm
   rw[hφ0 j hjm,eK h1 h2]at hx;exact .inl ⟨hjm,k,g,_,h2,hx⟩
  ·exact .inr ⟨by omega,hlow j x (by show m<=j;omega) hj hx⟩
 have howns:∀x,dV E s' φ' x->(E.own x/\x<w.heap.size)\/(∃j,j<bs.length/\φ j=Ge x):=λ x hx0=>by
  rcases hx0 with hx0|⟨k,g,o,hk,hx⟩
  ·exact .inl ⟨hx0,h.lt x hx0⟩
  rcases hsub hk with⟨j,b,hj,_,_,rfl,_⟩|⟨_,h3⟩
  ·rw[hγφ hj]at hx;exact .inr ⟨j,hj,hx⟩
  ·rw[hold h3]at hx;exact .inl ⟨h.own_of ⟨k,g,o,h3,hx⟩,hlt h3 hx⟩
 have hblk:∀b,b<w.heap.size->¬bu s E.φ b->w'.heap[b]? =w.heap[b]?:=λ b hb hn=>hfr.block b hb λ hm=>by
  rcases hm with hm|⟨j,_,hx⟩
  ·omega
  ·obtain⟨k,g,o,_,h2,h3⟩:=dL hx
   exact hn ⟨k,g,o,h2,h3⟩
 have hs:Stp E ⟨φ',dV E s' φ',nm'⟩ w w':=by
  refine⟨λ x hx=>.inl hx,λ x hx=>ZE fun⟨h1,h2⟩=>hfresh h1 h2 hx,hfr.size,λ b hlt ho=>⟨λ hw=>?_,hblk b hlt λ hh=>ho (h.own_of hh)⟩,hfr.shape⟩;rcases howns b hw with⟨h1,_⟩|⟨j,hj,hx⟩
  ·exact ho h1
  ·rcases hkept hj hx with⟨_,h1⟩|⟨_,h1⟩
   ·exact ho (h.own_of h1)
   ·omega
 have hownR:∀b,dV E s' φ' b->(fo O φ bs.length).own b:=λ b hb=>by
  rcases howns b hb with⟨h0,h1⟩|h1
  ·exact .inl (hO b h1 h0)
  ·exact .inr h1
 have hsR:∀{d:D} {v:Value},RD (fo O φ bs.length).cl w' d v->RD ⟨φ',dV E s' φ',nm'⟩ w' d v:=λ hd=>
  RD.ofCl (RD.step (E:=(fo O φ bs.length).cl) (E':=Env.cl ⟨φ',dV E s' φ',nm'⟩) (w:=w') ⟨λ _ h=>h.elim,λ _ h=>h.elim,Wl _,λ b hlt ho=>⟨λ hw=>ho (hownR b hw),rfl⟩,λ _ _=>rfl⟩ hd)
 have hmap:∀{d:D} {v:Value},RD (fo O φ bs.length) w' d v->RD ⟨φ',dV E s' φ',nm'⟩ w' (db (gB fp ky) (gc s fp nm) d) v:=λ hd=>hd.map _ _ (λ g hg=>⟨hγnm hg,hγφ hg⟩) hownR
 have hres:RD ⟨φ',dV E s' φ',nm'⟩ w' (qR (gB fp ky) (gc s fp nm) bs r) u:=by
  cases hbs:bs with
  |cons _ _=>exact hmap hr
  |nil=>
   have hr0:=hr;exact RD.step (E:=fo O φ bs.length) ⟨λ g hg=>absurd hg (by rw[hbs];exact XN g),λ g hg=>absurd hg (by rw[hbs];exact XN g),Wl _,λ b hlt ho=>⟨λ hw=>ho (hownR b hw),rfl⟩,λ _ _=>rfl⟩ hr0
 have hob:∀{k g o},s'.gat k=Ge (g,o)->OB ⟨φ',dV E s' φ',nm'⟩ w' g o:=fun{k g o} hk=>by
  rcases hsub hk with⟨j,b,hj,hbj,rfl,rfl,rfl⟩|⟨h2,h3⟩
  ·obtain⟨⟨_,hb1⟩,hcl⟩:=hb j b hbj
   obtain⟨f1,f2,f3⟩:=gY (gB fp ky) (gc s fp nm) b;refine⟨hγnm hj,?_⟩;show match φ' (gc s fp nm j)with|none=>_|some x=>_
   have e1:=hγφ hj;rw[e1];have hb1':match φ j with|none=>b.cells=[]/\b.row=Ga|some x=>(fo O φ bs.length).own x/\x<w'.heap.size/\_:=hb1
   cases hp:φ j with
   |none=>
    rw[hp]at hb1';refine⟨?_,by rw[f2];exact hb1'.2⟩;exact WY (by rw[f3,hb1'.1];rfl)
   |some x=>
    rw[hp]at hb1';obtain⟨_,hlt,cur,fr,c1,c2,c3,c4,c5⟩:=hb1';refine⟨.inr ⟨_,_,_,hk,e1.trans hp⟩,hlt,cur,fr,by rw[f1];exact c1,c2,by rw[f3];exact c3,λ hr=>by rw[f3];exact c4 (by rw[<-f2];exact hr),λ i d hd=>?_⟩;unfold cb at hd
    cases hrow:b.row with
    |true=>
     rw[hrow,cond_true]at hd;obtain⟨v,v1,v2,v3⟩:=c5 i d hd;exact⟨v,v1,v2,hsR (v3.weak (bl (hcl hrow) hd))⟩
    |false=>
     rw[hrow,cond_false]at hd;dsimp only at hd;rw[eM,WB,Xu]at hd;obtain⟨d0,hd0,rfl⟩:=hd;obtain⟨v,v1,v2,v3⟩:=c5 i d0 hd0;exact⟨v,v1,v2,hmap v3⟩
  ·refine(h.ob h3).step hs λ x hx=>⟨.inr ⟨k,g,o,hk,(hold h3).trans hx⟩,?_⟩
   refine hfr.block x (hlt h3 hx) λ hm=>?_
   rcases hm with hm|⟨j,hj,hx'⟩
   ·have:=hlt h3 hx;omega
   ·obtain⟨k',g',b',e1,e2,e3,_⟩:=hfp' hj
    rw[eK e1 e2]at hx';have hne:k≠k':=λ e=>h2 j (by have hmm:m=fp.length:=rfl;omega) (by rw[e3];exact e)
    exact h.inj k k' g g' o _ hne h3 e2 x hx hx'
 have hmut:Mut s s' E ⟨φ',dV E s' φ',nm'⟩ w w':=⟨λ b _ hb _=>.inl hb,hblk,λ x hlt' ⟨k,g,o,hk,hx⟩=>by
  have hx:φ' g=Ge x:=hx;rcases hsub hk with⟨j,b,hj,_,_,rfl,_⟩|⟨_,h3⟩
  ·rw[hγφ hj]at hx
   rcases hkept hj hx with⟨_,h1⟩|⟨_,h1⟩
   ·exact h1
   ·omega
  ·rw[hold h3]at hx;exact⟨k,g,o,h3,hx⟩⟩
 refine⟨⟨φ',dV E s' φ',nm'⟩,h.turn φ' nm' rfl hs (λ k g b hk=>hob (AS.at_iff.1 hk)) (λ k g r hk=>hob (AS.lat_iff.1 hk)) ?_ ?_ ?_ ?_ hmut.heap,hs,hres,hmut⟩
 ·intro k1 k2 g1 g2 o1 o2 hkk h1 h2 x hx1 hx2
  have cross:∀{j k g o},j<bs.length->φ j=Ge x->(∀j,j<bs.length->k≠gB fp ky j)->s.gat k=Ge (g,o)->E.φ g=Ge x->False:=fun{j k g o} hj hx hne h3 hx3=>by
   by_cases hjm:j<m
   ·obtain⟨k',g',b',e1,e2,e3,_⟩:=hfp' hjm
    rw[hφ0 j hjm,eK e1 e2]at hx;exact h.inj k k' g g' o _ (λ e=>hne j hj (by rw[e3];exact e)) h3 e2 x hx3 hx
   ·have:=hlow j x (by show m<=j;omega) hj hx;have:=hlt h3 hx3;omega
  rcases hsub h1 with⟨j1,b1,hj1,_,e1,e2,_⟩|⟨n1,h3⟩<;>rcases hsub h2 with⟨j2,b2,hj2,_,e3,e4,_⟩|⟨n2,h4⟩
  ·subst e2 e4
   rw[hγφ hj1]at hx1;rw[hγφ hj2]at hx2;exact hinj j1 j2 x hj1 hj2 (λ e=>hkk (by rw[e1,e3,e])) hx1 hx2
  ·subst e2
   rw[hγφ hj1]at hx1;rw[hold h4]at hx2;exact cross hj1 hx1 n2 h4 hx2
  ·subst e4
   rw[hold h3]at hx1;rw[hγφ hj2]at hx2;exact cross hj2 hx2 n1 h3 hx1
  ·rw[hold h3]at hx1
   rw[hold h4]at hx2;exact h.inj k1 k2 g1 g2 o1 o2 hkk h3 h4 x hx1 hx2
 ·rintro x ⟨k,g,o,hk,hx⟩
  rcases hsub hk with⟨j,b,hj,_,_,rfl,_⟩|⟨_,h3⟩
  ·rw[hγφ hj]at hx
   rcases hkept hj hx with⟨_,h1⟩|⟨_,h1⟩
   ·exact h.low x h1
   ·exact cx.hM x (Ww h.szB h1)
  ·rw[hold h3]at hx;exact h.low x ⟨k,g,o,h3,hx⟩
 ·refine hfr.mono λ k hm=>?_
  rcases hm with hm|⟨j,_,hx⟩
  ·exact cx.hM k (Ww h.szB hm)
  ·obtain⟨k',g,o,_,h2,h3⟩:=dL hx
   exact h.low k ⟨k',g,o,h2,h3⟩
 ·rintro n (hn|⟨h1,h2⟩)
  ·rcases h.nm n hn with h1|⟨j,hj,h1⟩
   ·exact .inl h1
   ·exact .inr ⟨j,WG _ hj,h1⟩
  ·exact .inr ⟨i,WH,by show s.nx+8*i<=n;omega,by show n<s.nx+8*i+8;have hmm:m=fp.length:=rfl;omega⟩
end
section
variable {P:Program} {cx:Cx} {E:Env} {s:AS} {a:Act} {w:World} {i:Nat} {o:Oper} {T:TT}

def w6 (T:TT)(s:AS)(ts:Array TypeId)(xs:Array Operand):Ev:=
 match ts.toList,xs.toList with
 |[t],[x]=>match T.get t,eG s x with
  |some ⟨.slice _,_,_,_,_⟩,Ge (.v (.slice z9 0 0))=>.ok (Ge (.v (.int .i64 0))) []
  |_,_=>.stuck
 |_,_=>.stuck
def zD (hT:T.ok P)(h:SR cx E s a w){c:Call}(ho:o.op= .call c)(hc:c.callee= .builtin .cap){v:Option D}{up:Up}(he:(w6 T s c.argTypes c.args).run v up):cj P cx E s a w i o v up:=by
 unfold w6 at he
 split at he
 case h_2=>exact he.elim
 case h_1 t x hts hxs=>
 split at he
 case h_2=>exact he.elim
 case h_1 e z1 z2 z3 z4 hti hx=>
 obtain⟨rfl,rfl⟩:=he;have e1:c.argTypes= #[t]:=by apply Yl;simpa using hts
 have e2:c.args.map a.eval= #[a.eval x]:=by apply Yl;rw[Yz,hxs];rfl
 have hrx:=h.eval hx;generalize hux:a.eval x=ux at hrx
 cases hrx
 refine .pure h ?_ (.v _ rfl);unfold execOp;have hu:=(hT t _ hti).1;simp[ho,resolve,hc,WF,WK,Wp,invoke,builtin,e1,e2,hux,Builtin.cap_,run_underlying hu,goInt]

def k8 (t tx ty e:TypeId)(j:TypeInfo)(z:Value)(kk:IntKind)(ht:P.underlying t=Ge (.slice e))(hk:P.underlying tx=Ge (.int kk))(hi:P.info? e=Ge j)(hz:j.zero=Ge z)(k:IntKind)(n:Nat)(h0:0<n)(hs:0<j.size)
  (hn:n<=140737488355328) (hb:n*j.bytes<=140737488355328):
  ∃us:List Value,grownCap w n 0 e*z.cells.size=us.length/\(Zq #[t,tx] ty #[.slice z9 0 0,.int k n]).run P w= .ok (.slice (Ge ⟨w.heap.size,0,z9⟩) n (grownCap w n 0 e)) (w.drew.alloc (.cells us.toArray e)):=by
 have hw:IntKind.i64.wrap (n:Int)=n:=IntWalk.i64_in _ (by omega);have hne:¬n=0:=by omega
 have hsz:¬j.size=0:=by omega
 have hnx:YB n 0=n:=by unfold YB;rw[ZF (by omega)]
 have hc:=grownCap_ge w n 0 e;refine⟨(YD z.cells n).toList++(YD z.cells (grownCap w n 0 e-n)).toList,?_,?_⟩
 ·simp only[Wc,Zj,YD,Array.size_map,Array.size_range]
  rw[<-Xt];congr 1;omega
 ·have h1:¬((n:Int)<0):=by omega
  have h2:¬(281474976710656<(n:Int)*(j.bytes:Int)):=by
   have:((n*j.bytes:Nat):Int)<=140737488355328:=by omega
   rw[Int.natCast_mul]at this;omega
  have h3:¬(281474976710656<n*j.bytes):=by omega
  have h4:¬(9223372036854775807<(n:Int)):=by omega
  have h5:¬(n*j.size=0):=by have:=Nat.mul_pos h0 hs;omega
  simp[h5,Zq,run_underlying ht,run_underlying hk,sizeOf,typeInfo,zeroValue,hi,hz,asInt,asIntOf,hw,h1,h2,h3,h4,hne,hsz,hnx,Question.forced,Zs,newRow,grownCap]
  congr 2
  apply Yl;simp
def qS (T:TT)(s:AS)(nm ky:Nat)(ts:Array TypeId)(xs:Array Operand):Ev:=
 match ts.toList,xs.toList with
 |[t,tx],[x,y]=>match T.get t,T.get tx,eG s x,eG s y with
  |some ⟨.slice e,_,_,_,_⟩,Ge ⟨.int _,_,_,_,_⟩,Ge (.v (.slice z9 0 0)),Ge (.v (.int _ n))=>match T.get e with
   |some ei=>.cond (Ao (0<n)&&Ao (0<ei.size)&&Wf n.toNat 140737488355328&&Wf (n.toNat*ei.bytes) 140737488355328)
     (.ok (Ge (.ref ky nm 0 n.toNat ei.size)) [(ky,Ge (nm,.b ⟨[],e,Ga⟩)),(ky,z9)])
   |none=>.stuck
  |_,_,_,_=>.stuck
 |_,_=>.stuck
def vu (hT:T.ok P)(h:SR cx E s a w)(hi:i∉s.us){nm ky:Nat}(hg:s.nx+8*i<=nm/\nm<s.nx+8*i+8){c:Call}(ho:o.op= .call c)(hc:c.callee= .builtin .append){v:Option D}{up:Up}(he:(qS T s nm ky c.argTypes c.args).run v up):
  cj P cx E s a w i o v up:=by
 unfold qS at he
 split at he
 case h_2=>exact he.elim
 case h_1 t tx x y hts hxs=>
 split at he
 case h_2=>exact he.elim
 case h_1 e z1 z2 z3 z4 kk z5 z6 z7 z8 k n hti htx hx hy=>
 split at he
 case h_2=>exact he.elim
 case h_1 ei hei=>
 obtain⟨hcond,rfl,rfl⟩:=he;simp only[Wh,decide_eq_true_eq]at hcond;obtain⟨⟨⟨h0,hs0⟩,hn1⟩,hn2⟩:=hcond;have hn1:=Wm hn1;have hn2:=Wm hn2;obtain⟨m,rfl⟩:=Xd (Int.le_of_lt h0);simp only[Ya]at hn1 hn2 ⊢;have e1:c.argTypes= #[t,tx]:=by apply Yl;simpa using hts
 have e2:c.args.map a.eval= #[a.eval x,a.eval y]:=by apply Yl;rw[Yz,hxs];rfl
 have run0:∀{u:Value} {w':World},(Zq #[t,tx] o.type #[a.eval x,a.eval y]).run P w= .ok u w'->(execOp a.eval o).run P w= .ok (.value u) w':=λ hu=>by
  unfold execOp;simp only[ho,resolve,hc,WF,WK,Wp,invoke,builtin,e1,e2,hu]
 have hrx:=h.eval hx;have hry:=h.eval hy;generalize hux:a.eval x=ux at hrx run0;generalize huy:a.eval y=uy at hry run0
 cases hrx;cases hry
 obtain⟨hu1,hzl,⟨j0,hj1,hj2,hj3,hj4⟩,_⟩:=hT e ei hei;obtain⟨us,hul,hr⟩:=k8 (P:=P) (w:=w) t tx o.type e j0 ei.zero kk (hT t _ hti).1 (hT tx _ htx).1 hj1 hj2 k m (by omega) (by rw[hj3];exact hs0) hn1 (by rw[hj4];exact hn2);obtain⟨k1,k2⟩:=h.kill ky;have k1':=k1.drew;obtain⟨q1,q2,q3,q4,q5⟩:=k1'.new (ky:=ky) hi hg e [] us Ga (0,0) (gx.zero _) (by simp) (λ hh=>by cases hh) (λ j d hj=>by simp at hj);refine⟨_,_,(k2.trans (Stp.drew _ w)).trans q2,q1,⟨λ b hz hb hn=>q5.own b hz (.inl hb) fun⟨k',g',blk',hk',hx'⟩=>hn (by
   rcases Tr.of_set hk' with⟨_,hv⟩|⟨_,hk'⟩
   ·cases hv
   ·exact⟨k',g',blk',hk',hx'⟩),λ b hb _=>Yt w.drew _ b hb,λ x hx hw=>?_⟩,.slice (Ge ⟨w.heap.size,0,z9⟩) m (grownCap w m 0 e),?_,?_⟩
 ·obtain⟨k',g',blk',hk',hx'⟩:=q5.old x hx hw
  rcases Tr.of_set hk' with⟨_,hv⟩|⟨_,hk'⟩
  ·cases hv
  ·exact⟨k',g',blk',hk',hx'⟩
 ·exact run0 hr
 ·have hc2:=grownCap_ge w m 0 e
  have hc3:=grownCap_le_maxLen w m 0 e (by unfold maxLen;omega);refine .ref ky nm 0 m ei.size _ w.heap.size 0 e _ q3 q4 ⟨hc2,by unfold maxLen at hc3;unfold fz;omega⟩ (.inl rfl) (aO (cg w.drew _)) ?_;simp only[List.size_toArray];rw[<-hul,hzl];omega

def JD (h:SR cx E s a w){d:D}{u:Value}(hr:RD E w d u){dd:TypeDesc}{c:Bool}{n:Nat}{cells:GA}(hs:gX s 1 dd d=Ge (c,n,cells))(hc:c=Ga)(hsl:cQ dd=Ga)(hn:0<n):
  ∃(ad:Addr) (cap:Nat) (us:List Value),u= .slice (Ge ad) n cap/\us.length=n/\cells.length=n/\(∀(j:Nat) v,us[j]? =Ge v->w.cell? (ad.add j)=Ge v)/\(∀v∈us,v.oneCell'=Ga)/\∀(j:Nat) e v,cells[j]? =Ge e->us[j]? =Ge v->RD E w e v:=by
 cases hr with
 |v cst h1=>
  unfold gX at hs
  split at hs
  case h_3 e=>cases e;cases hs;omega
  case h_4 b e=>
   cases e;cases hs
   rw[Wh]at hc;have:=hc.1
   cases dd<;>simp[gW,cQ]at this hsl
  all_goals first|(rename_i e;cases e;done)|cases hs
 |sl nn n' sz cs ad c' us hlen hd hone hn' hs' hc2 hnil hr=>
  cases hs
  rw[Wh]at hc;obtain rfl:sz=1:=Wk hc.2;rcases hr with hr|⟨b,off,rfl,hb,ho',hcell⟩
  ·omega
  ·exact⟨_,_,us,rfl,by omega,by omega,λ j v hv=>by rw[X5];exact hcell j v hv,hone,λ j e v a1 a2=>(hd j e v a1 a2).ofCl⟩
 |ref k g off n' sz c' b off' t m hg hb hc2 hoff hsh hm=>
  simp only[gX]at hs
  cases hk:s.at k with
  |none=>rw[hk]at hs;cases hs
  |some p=>
  obtain⟨g',blk⟩:=p;rw[hk]at hs;have hs:=Option.some.inj hs;injection hs with bB gu
  injection gu with gu sR
  subst bB gu sR;simp only[Wh]at hc;obtain⟨⟨⟨hst,hgg⟩,hsz⟩,hle⟩:=hc;have e:g=g':=Wk hgg;subst e;obtain rfl:sz=1:=Wk hsz;have hle:=Wm hle;obtain⟨hlt,_,cur,fr,hcur,_,hcl,_,hcell⟩:=h.block hk hb;have hv:Vw E w b 0 blk.cells:=λ j d hj=>by
   obtain⟨v,hv1,hv2,hv3⟩:=hcell j d hj;exact⟨v,by rw[WE,cell_of_row w b j cur blk.elem fr hcur];exact hv1,hv2,hv3⟩
  obtain⟨us,hl,hrg,h1,hd⟩:=hv.seg hle;rw[WE]at hrg;have hcells:(bif V9 off 0&&V9 (n'*1) blk.cells.length then blk.cells else(blk.cells.drop off).take (n'*1))=(blk.cells.drop off).take (n'*1):=by
   cases hq:(V9 off 0&&V9 (n'*1) blk.cells.length)with
   |false=>rfl
   |true=>
    rw[Wh]at hq;have e1:=Wk hq.1;have e2:=Wk hq.2;subst e1;rw[cond_true,XR,e2,XF]
  rw[hcells];have hof:off'=off:=by
   rcases hoff with q|⟨q,_⟩
   ·exact q
   ·omega
  subst hof;exact⟨_,_,us,rfl,by omega,by rw[Wi,Wy];omega,λ j v hv=>by rw[X5];exact hrg j v hv,h1,hd⟩
 |refn k g sz hg hb=>
  simp only[gX]at hs
  cases hk:s.at k with
  |none=>rw[hk]at hs;cases hs
  |some p=>rw[hk]at hs;cases hs;omega
 |_=>cases hs
def qT (T:TT)(s:AS)(ts:Array TypeId)(xs:Array Operand):Ev:=
 match ts.toList,xs.toList with
 |[t,tx],[x,y]=>match T.get t,T.get tx,eG s x,eG s y with
  |some ⟨.slice e,_,_,_,_⟩,Ge ti,Ge (.ref k g off n 1),Ge dy=>match T.get e,s.at k,gX s 1 ti.desc dy with
   |some ei,Ge p,Ge (c2,n2,news)=>
    .cond (c2&&cQ ti.desc&&V9 ei.size 1&&V9 g p.1&&Yq 0 (XL n2 n)&&Wf (off+n) p.2.cells.length)
     (.list (ac p.2.cells off (news.take (XL n2 n))) λ cs=>.ok (Ge (.v (.int .i64 ((XL n2 n:Nat):Int)))) [(k,Ge (g,.b ⟨cs,p.2.elem,p.2.row⟩))])
   |_,_,_=>.stuck
  |_,_,_,_=>.stuck
 |_,_=>.stuck
def vw (hT:T.ok P)(h:SR cx E s a w){c:Call}(ho:o.op= .call c)(hc:c.callee= .builtin .copy){v:Option D}{up:Up}(he:(qT T s c.argTypes c.args).run v up):cj P cx E s a w i o v up:=by
 unfold qT at he
 split at he
 case h_2=>exact he.elim
 case h_1 t tx x y hts hxs=>
 split at he
 case h_2=>exact he.elim
 case h_1 e z1 z2 z3 z4 ti k g off n dy hti htx hx hy=>
 split at he
 case h_2=>exact he.elim
 case h_1 ei p c2 n2 news hei hp hsrc=>
 obtain⟨g',blk⟩:=p;obtain⟨hcond,rfl,rfl⟩:=he;simp only[Wh]at hcond;obtain⟨⟨⟨⟨⟨hc2,hsl⟩,hsz⟩,hgg⟩,h0⟩,hle⟩:=hcond;obtain rfl:g=g':=Wk hgg;have hsz:=Wk hsz;have h0:0<XL n2 n:=Wm h0;have hle:=Wm hle;have hm1:XL n2 n<=n2:=Nat.min_le_left _ _;have hm2:XL n2 n<=n:=Nat.min_le_right _ _;have e1:c.argTypes= #[t,tx]:=by apply Yl;simpa using hts
 have e2:c.args.map a.eval= #[a.eval x,a.eval y]:=by apply Yl;rw[Yz,hxs];rfl
 have run0:∀{u:Value} {w':World},(Builtin.copy_ #[t,tx] o.type #[a.eval x,a.eval y]).run P w= .ok u w'->(execOp a.eval o).run P w= .ok (.value u) w':=λ hu=>by
  unfold execOp;simp only[ho,resolve,hc,WF,WK,Wp,invoke,builtin,e1,e2,hu]
 have hrx:=h.eval hx;have hry:=h.eval hy;generalize hux:a.eval x=ux at hrx run0;generalize huy:a.eval y=uy at hry run0;obtain⟨ad,cap,us,rfl,hul,hnl,hsr,hone,hrd⟩:=JD h hry hsrc hc2 hsl (by omega);obtain⟨hu1,hzl,⟨j0,hj1,hj2,hj3,hj4⟩,_⟩:=hT e ei hei
 cases hrx with
 |refn k g sz hg hb=>
  omega
 |ref _ _ _ _ _ cc b off' tt mm hg hb hc3 hoff hsh hmm=>
 have hof:off'=off:=by
  rcases hoff with q|⟨q,_⟩
  ·exact q
  ·omega
 subst hof;obtain⟨hlt,hown,cur,fr,hcur,hfz,hcl,hrow,hcell⟩:=h.block hp hb;have hcs:(us.take (XL n2 n)).length=XL n2 n:=by rw[Wi];omega
 have hns:(news.take (XL n2 n)).length=XL n2 n:=by rw[Wi];omega
 have hfit:∀j,j<(us.take (XL n2 n)).length->off'+j<cur.size:=λ j hj=>by rw[hcs]at hj;omega
 have hr:=run_copy_cells (P:=P) w t tx o.type e b off' n cc ad n2 cap (us.take (XL n2 n)) (hT t _ hti).1 (by rw[hj1];simp only[Zp,hj3,hsz]) hcs
  (λ j v hv=>by
   rw[Xa]at hv
   split at hv
   ·exact hsr j v hv
   ·cases hv)
  (λ j hj=>by rw[cell_of_row w b _ cur blk.elem fr hcur,XZ (hfit j hj)];rfl)
  (λ j hj=>jf w b _ cur blk.elem fr hcur hfz (hfit j hj))
  (λ v hv=>hone v (Xs hv))
 obtain⟨cur',hcur',hsz',hget'⟩:=fj w b off' cur blk.elem fr (us.take (XL n2 n)) hcur (by rw[hcs];omega);obtain⟨hgr,hz⟩:=da b (us.take (XL n2 n)) off' w;have hst:=h.store (i:=i) hp hb (ac blk.cells off' (news.take (XL n2 n))) (dH (by rw[hns];omega)) hgr hz cur cur' fr hcur hcur' hsz' (λ j e hj=>by
  rw[ck (by rw[hns];omega),hns]at hj;rw[hget',hcs]
  split at hj
  ·rename_i hr
   rw[ZF hr];have hj1:=(List.getElem?_eq_some_iff.1 hj).1;rw[hns]at hj1;have hu:(us.take (XL n2 n))[j-off']? =Ge (us.take (XL n2 n))[j-off']:=Wa (by rw[hcs];omega);refine⟨_,hu,hone _ (Xs (Xf _)),?_⟩;rw[Xa]at hu hj;rw[ZF (by omega)]at hu hj;exact hrd _ _ _ hj hu
  ·rename_i hr
   rw[ZE hr];exact hcell _ _ hj)
 refine⟨_,_,hst.2.1,hst.1,hst.2.2,_,run0 hr,?_⟩;rw[hcs];exact .v _ rfl
end

def vx (T:TT)(s:AS)(nm ky:Nat)(src dst:TypeId)(x:Operand):Ev:=
 match T.get src,T.get dst with
 |some ⟨.slice _,_,_,_,_⟩,Ge ⟨.slice _,_,_,_,_⟩=>w5 T s src dst x
 |some ⟨.slice _,_,_,_,_⟩,_=>wY T s src dst x
 |_,Ge ⟨.slice _,_,_,_,_⟩=>wZ T s nm ky src dst x
 |_,_=>mT T s src dst x
def U9 (T:TT)(ts:Array TypeId):Bool:=match ts.toList with
 |[_,tx]=>match T.get tx with
  |some ⟨.int _,_,_,_,_⟩=>Ga
  |_=>Gd
 |_=>Gd
def AQ (T:TT)(s:AS)(nm ky:Nat)(c:Call):Ev:=bif U9 T c.argTypes then qS T s nm ky c.argTypes c.args else j9 T s nm ky c.argTypes c.args
def vy (T:TT)(s:AS)(nm ky:Nat)(c:Call):Ev:=
 match c.callee with
 | .builtin .len=>wW T s c.argTypes c.args
 | .builtin .append=>AQ T s nm ky c
 | .builtin .cap=>w6 T s c.argTypes c.args
 | .builtin .copy=>qT T s c.argTypes c.args
 | .builtin .min=>tc s Gd c.args
 | .builtin .max=>tc s Ga c.args
 |_=>.stuck
def ev (T:TT)(s:AS)(nm ky:Nat)(o:Oper):Ev:=
 match o.op with
 | .move x=>gV s x
 | .assign x=>gV s x
 | .pick c x y=>qH s c x y
 | .alloc t=>mL T nm ky t
 | .box t x=>wT s nm ky t x
 | .build t ps=>mV T s t ps
 | .buildSlice t n ps=>fl T s nm ky t n ps
 | .load t x=>gT T s t x
 | .store t x y=>mM T s t x y
 | .binOp op t x y _=>wU T s op t x y
 | .unOp op _ x=>EI s op x
 | .convert src dst x=>vx T s nm ky src dst x
 | .makeInterface t x=>mO T s t x
 | .makeFunc f fi ca=>qP s f fi ca
 | .makeSlice t l c=>qO T s nm ky t l c
 | .slice t x lo hi mx=>mU T s t x lo hi mx
 | .fieldAddr t x f=>fV T s t x f
 | .field t x f=>mP T s t x f
 | .indexAddr t x ix=>fW T s t x ix
 | .index t x ix=>mR T s t x ix
 | .extract x n=>jg s x n
 | .typeAssert x _ t ok=>EK T s x t ok
 | .call c=>vy T s nm ky c
 | .nilCheck x=>qG s x
 |_=>.stuck


def vz (b:Bool)(X:Prop):Prop:=match b with
 |true=>X
 |false=>False
def jx {α:Type}(o:Option α)(K:α->Prop):Prop:=match o with
 |some x=>K x
 |none=>False
def M0 (b:Bool)(X Y:Prop):Prop:=match b with
 |true=>X
 |false=>Y
structure bytP (cs:GA)(K:Z4->Prop):Prop where
 h:∃bs,cs=bs.map dB/\K bs
def bz {b:Bool}{X:Prop}:vz b X↔b=Ga/\X:=by cases b<;>simp[vz]
def aQ {α:Type}{o:Option α}{K:α->Prop}:jx o K↔∃x,o=Ge x/\K x:=by cases o<;>simp[jx]
def g6 {b:Bool}{X Y:Prop}:M0 b X Y↔(b=Ga->X)/\(b=Gd->Y):=by cases b<;>simp[M0]

def Ev.vc:Ev->(Option D->Up->Prop)->Prop
 | .ok v up,K=>K v up
 | .cond b k,K=>vz b (k.vc K)
 | .opt o k,K=>jx o λ d=>(k d).vc K
 | .bytes cs k,K=>bytP cs λ bs=>(k bs).vc K
 | .list cs k,K=>(k cs).vc K
 | .stuck,_=>False

def Ev.vc_run:∀{e:Ev} {K:Option D->Up->Prop},e.vc K->∃v up,e.run v up/\K v up
 | .ok v up,_,h=>⟨v,up,⟨rfl,rfl⟩,h⟩
 | .cond b k,_,h=>let⟨hb,h⟩:=bz.1 h;let⟨v,up,h1,h2⟩:=Ev.vc_run h;⟨v,up,⟨hb,h1⟩,h2⟩
 | .opt o k,_,h=>let⟨d,hd,h⟩:=aQ.1 h;let⟨v,up,h1,h2⟩:=Ev.vc_run h;⟨v,up,⟨d,hd,h1⟩,h2⟩
 | .list cs k,_,h=>let⟨v,up,h1,h2⟩:=Ev.vc_run (e:=k cs) h;⟨v,up,h1,h2⟩
 | .bytes cs k,_,⟨bs,hb,h⟩=>let⟨v,up,h1,h2⟩:=Ev.vc_run h;⟨v,up,⟨bs,hb,h1⟩,h2⟩
 | .stuck,_,h=>h.elim

def dY (s:AS)(o:Oper):Option (FuncId×GA):=
 match o.op with
 | .call c=>match c.callee with
  | .value x=>match eG s x,gb s c.args.toList with
   |some (.fn (.func f) fi ca),Ge ds=>Ge (f,fi++ds++ca)
   |_,_=>z9
  |_=>z9
 |_=>z9

def fC:Gw->Bool
 |[]=>Ga
 |k::r=>!(r.any λ x=>V9 x k)&&fC r
def dM:∀{l:Gw},fC l=Ga->l.Nodup
 |[],_=>List.nodup_nil
 |k::r,h=>by
  simp only[fC,Wh,XX]at h;refine List.nodup_cons.2 ⟨λ hm=>?_,dM h.2⟩;have:=List.any_eq_false.1 h.1 k hm;simp at this
structure callP (P:Program)(s:AS)(ds:GA)(f:FuncId)(nm ky:Nat)(K:Option D->Up->Prop):Prop where
 h:∃al fp q hin r bs,jv s al fp ds=Ge (Ga,q)/\jE s fp fp=Ge (Ga,hin)/\CallOk al P f q hin r bs/\(fC fp&&Wf bs.length (fp.length+8))=Ga/\K (Ge (qR (gB fp ky) (gc s fp nm) bs r)) (gZ (gB fp ky) (gc s fp nm) 0 bs)

def dI (P:Program)(T:TT)(s:AS)(nm ky:Nat)(o:Oper)(K:Option D->Up->Prop):Prop:=
 match dY s o with
 |some p=>callP P s p.2 p.1 nm ky K
 |none=>(ev T s nm ky o).vc K

structure FOK (F:Fence):Prop where
 fn:∀f,F.fn f
 dep:F.depth=z9
 call:∀{n:Nat} {P:Program} {f:FuncId} {args:Array Value} {w:World} {R:Ending->World->Prop},Calls P f args w R->CallsIn F n P f args w R
def FOK.wide:FOK Fence.wide:=⟨λ _=>trivial,rfl,λ h=>callsIn_wide.2 h⟩
def FOK.inRound {F:Fence}(h:FOK F)(l:Nat):FOK (F.inRound l):=⟨h.fn,h.dep,λ hc=>CallsIn.inRound l (h.call hc)⟩

def jl {l:Gw}(h:l.Nodup){i j x:Nat}(h1:l[i]? =Ge x)(h2:l[j]? =Ge x):i=j:=by
 obtain⟨a1,b1⟩:=List.getElem?_eq_some_iff.1 h1;obtain⟨a2,b2⟩:=List.getElem?_eq_some_iff.1 h2;have hp:=List.pairwise_iff_getElem.1 h;rcases Nat.lt_trichotomy i j with hlt|e|hlt
 ·exact absurd (b1.trans b2.symm) (hp i j a1 a2 hlt)
 ·exact e
 ·exact absurd (b2.trans b1.symm) (hp j i a2 a1 hlt)
section
variable {P:Program} {cx:Cx} {E:Env} {s:AS} {a:Act} {w:World} {i:Nat} {o:Oper} {T:TT} {F:Fence} {n:Nat}

def AR (hT:T.ok P)(h:SR cx E s a w)(hi:i∉s.us){nm ky:Nat}(hg:s.nx+8*i<=nm/\nm<s.nx+8*i+8){v:Option D}{up:Up}(he:(ev T s nm ky o).run v up):cj P cx E s a w i o v up:=by
 unfold ev at he
 split at he
 case h_1 ho=>exact nE h (.inl ho) he
 case h_2 ho=>exact nE h (.inr ho) he
 case h_3 ho=>exact vj h ho he
 case h_4 ho=>exact sU hT h hi hg ho he
 case h_5 ho=>exact zr h hi hg ho he
 case h_6 ho=>exact tj hT h ho he
 case h_7 ho=>exact k6 hT h hi hg ho he
 case h_8 ho=>exact nC hT h ho he
 case h_9 ho=>exact sV hT h ho he
 case h_10 ho=>exact ta hT h ho he
 case h_11 ho=>exact vl h ho he
 case h_12 ho=>
  unfold vx at he
  split at he
  ·exact zy hT h ho he
  ·exact zw hT h ho he
  ·exact zx hT h hi hg ho he
  ·exact tb hT h ho he
 case h_13 ho=>exact sX hT h ho he
 case h_14 ho=>exact vq h ho he
 case h_15 ho=>exact vp hT h hi hg ho he
 case h_16 ho=>exact tf hT h ho he
 case h_17 ho=>exact mp hT h ho he
 case h_18 ho=>exact sY hT h ho he
 case h_19 ho=>exact mq hT h ho he
 case h_20 ho=>exact sZ hT h ho he
 case h_21 ho=>exact po h ho he
 case h_22 ho=>exact AN hT h ho he
 case h_23 c ho=>
  unfold vy at he
  split at he
  case h_1 hc=>exact zt hT h ho hc he
  case h_2 hc=>
   unfold AQ at he
   cases hz:U9 T c.argTypes with
   |true=>rw[hz]at he;exact vu hT h hi hg ho hc he
   |false=>rw[hz]at he;exact qK hT h hi hg ho hc he
  case h_3 hc=>exact zD hT h ho hc he
  case h_4 hc=>exact vw hT h ho hc he
  case h_5 hc=>exact pI h ho (mx:=Gd) hc he
  case h_6 hc=>exact pI h ho (mx:=Ga) hc he
  case h_7=>exact he.elim
 case h_24 ho=>exact vi h ho he
 case h_25=>exact he.elim

def g7 {f:FuncId}(hf:ap P f)(args:Array Value):(callFunc f args).run P w= .ok (.enter f args) w:=by
 obtain⟨fn,h1,h2,h3⟩:=hf;unfold callFunc;show(match P.funcs[f]? with|none=>stuck _|some fn=>_).run P w=_;rw[h1];simp only[h2,h3,Ye,if_false,YK,WK]

def dZ (tm:Tr D)(dst:Option Nat)(v:Option D):Tr D:=
 match dst with
 |some t=>tm.set t v
 |none=>tm
def iN (nt:Nat)(o:Oper):Bool:=match o.dst with|some t=>Yq t nt&&Tr.okK t|none=>Ga

def M1 (E:Env)(w:World)(v:Option D)(u:Value):Prop:=match v with|some d=>RD E w d u|none=>u=undef

def cJ (h:SR cx E s a w)(ho:iN cx.nt o=Ga){v:Option D}{u:Value}(hr:M1 E w v u):SR cx E {s with tm:=dZ s.tm o.dst v} (a.put o.dst u) w:=by
 cases hdst:o.dst with
 |none=>exact h
 |some t=>
  unfold iN at ho;rw[hdst]at ho;rw[Wh]at ho;have:t<cx.nt:=Wm ho.1
  cases v with
  |some d=>exact h.put this hr
  |none=>exact h.unput u

def qU (hF:FOK F)(hT:T.ok P)(h:SR cx E s a w)(hi:i∉s.us){ky:Nat}{K:Option D->Up->Prop}(hv:dI P T s (s.nx+8*i) ky o K){next:Act->World->Prop}{Q:Exit->Act->World->Prop}
  (hn:∀v up E' w' u,K v up->Stp E E' w w'->SR cx E' {s with hp:=fU up s.hp,us:=i::s.us} a w'->Mut s {s with hp:=fU up s.hp,us:=i::s.us} E E' w w'->M1 E' w' v u->next (a.put o.dst u) w'):
  o.wpIn F n P a w next Q:=by
 refine⟨λ f _=>hF.fn f,?_⟩;unfold dI at hv
 split at hv
 case h_1 p hp=>
  obtain⟨al,fp,q,hin,r,bs,hq,hin',hcall,hlen,hK⟩:=hv;rw[Wh]at hlen;obtain⟨hnd,hlen⟩:=hlen;unfold dY at hp
  split at hp
  case h_2=>cases hp
  case h_1 c ho=>
  split at hp
  case h_2=>cases hp
  case h_1 x hc=>
  split at hp
  case h_2=>cases hp
  case h_1 f fi ca ds hx hds=>
  cases hp
  dsimp only at hq hcall;have hrx:=h.eval hx;obtain⟨hl1,hl2⟩:=et h _ _ hds;generalize hux:a.eval x=ux at hrx
  cases hrx with
  |fn _ _ _ us vs hu1 hu2 hu3 hu4=>
  have hargs:(us++c.args.toList.map a.eval++vs).length=(fi++ds++ca).length/\∀(j:Nat) d u,(fi++ds++ca)[j]? =Ge d->(us++c.args.toList.map a.eval++vs)[j]? =Ge u->RD E w d u:=by
   have app:∀{l1 l2:GA} {m1 m2:List Value},m1.length=l1.length->m2.length=l2.length->(∀(j:Nat) d u,l1[j]? =Ge d->m1[j]? =Ge u->RD E w d u)->(∀(j:Nat) d u,l2[j]? =Ge d->m2[j]? =Ge u->RD E w d u)->
     (m1++m2).length=(l1++l2).length/\∀(j:Nat) d u,(l1++l2)[j]? =Ge d->(m1++m2)[j]? =Ge u->RD E w d u:=by
    intro l1 l2 m1 m2 e1 e2 r1 r2;refine⟨by simp[e1,e2],λ j d u hd hu=>?_⟩
    by_cases hj:j<l1.length
    ·rw[WO hj]at hd
     rw[WO (by omega)]at hu;exact r1 j d u hd hu
    ·rw[WJ (by omega)]at hd
     rw[WJ (by omega),e1]at hu;exact r2 _ d u hd hu
   obtain⟨q1,q2⟩:=app hu1 hl1 hu3 hl2;exact app q1 hu2 q2 hu4
  obtain⟨t1,t2⟩:=kj _ hq rfl;obtain⟨i1,i2,i3⟩:=pM h (al:=al) fp 0 (λ j k hj=>by rw[WE];exact hj) hin' rfl;dsimp only at i1;have hm:=hcall.len;have p1:∀x,(al=Ga/\E.own x)->x<w.heap.size:=λ x hx=>h.lt x hx.2
  have p2:∀(j:Nat) b,hin[j]? =Ge b->HB (fo (λ b=>al=Ga/\E.own b) (gA s E fp) hin.length) w j b:=λ j b hj=>by
   have:=i3 j b hj;rw[WE]at this;rw[i1];exact this
  have p3:∀i j x,i<hin.length->j<hin.length->i≠j->gA s E fp i=Ge x->gA s E fp j≠Ge x:=λ j1 j2 x h1 h2 hne hx1 hx2=>by
   obtain⟨k1,g1,o1,e1,e2,e3⟩:=dL hx1;obtain⟨k2,g2,o2,e4,e5,e6⟩:=dL hx2;have hkk:k1≠k2:=λ e=>hne (by
    subst e;exact jl (dM hnd) e1 e4)
   exact h.inj k1 k2 g1 g2 o1 o2 hkk e2 e5 x e3 e6
  have p4:(us++c.args.toList.map a.eval++vs).length=q.length:=by rw[hargs.1,t1]
  have p5:∀(j:Nat) d u,q[j]? =Ge d->(us++c.args.toList.map a.eval++vs)[j]? =Ge u->RD (fo (λ b=>al=Ga/\E.own b) (gA s E fp) hin.length) w d u:=λ j d u hd hu=>by
   have hlt:j<(fi++ds++ca).length:=by rw[<-t1];exact(List.getElem?_eq_some_iff.1 hd).1
   obtain⟨p,a1,a2,a3⟩:=t2 j _ (Wa hlt);rw[hd]at a3;cases a3;have hrd:=hargs.2 j _ u (Wa hlt) hu;rw[i1];exact pL h hrd rfl rfl a1 a2
  have fin:∀u w',Gv (k7 al (λ b=>al=Ga/\E.own b) w) w hin.length (gA s E fp) r bs u w'->next (a.put o.dst u) w':=λ u w' hgv=>by
   rw[i1]at hgv;have hm:=hm;rw[i1]at hm;obtain⟨E',s1,s2,s3,s4⟩:=h.adopt (ky:=ky) hi rfl (dM hnd) i2 hm (Wm hlen) (λ b hb ho=>by
    unfold k7
    cases al with
    |false=>rw[ZE (by simp)];exact hb
    |true=>rw[ZF rfl];exact⟨rfl,ho⟩) hgv
   exact hn _ _ E' w' u hK s2 s1 s4 s3
  have e1:(us.toArray++c.args.map a.eval)++vs.toArray=(us++c.args.toList.map a.eval++vs).toArray:=by apply Yl;simp
  cases hcall with
  |fn hfok hspec=>
   have hsp:=hspec.2 _ _ w _ p1 p2 p3 p4 p5;have hrun:(o.semAt F.round a.eval).run P w= .ok (.enter f (us++c.args.toList.map a.eval++vs).toArray) w:=by
    rw[Zn _ _ _ (λ c' hc'=>by rw[ho]at hc';cases hc')];unfold execOp;simp only[ho,resolve,hc,WF,Zh,hux,WK,Wp,invoke,e1,g7 hfok]
   rw[hrun];refine⟨λ hd=>(by rw[hF.dep]at hd;cases hd),(hF.call hsp).mono ?_⟩;rintro e w' ⟨u,rfl,hgv⟩;exact fin u w' hgv
  |ext hspec=>
   obtain⟨u,w',hr,hgv⟩:=hspec.2 _ _ w _ p1 p2 p3 p4 p5;have hrun:(o.semAt F.round a.eval).run P w= .ok (.value u) w':=by
    rw[Zn _ _ _ (λ c' hc'=>by rw[ho]at hc';cases hc')];unfold execOp;simp only[ho,resolve,hc,WF,Zh,hux,WK,Wp,invoke,e1,hr]
   rw[hrun];exact fin u w' hgv
 case h_2 hp=>
  obtain⟨v,up,hrun,hK⟩:=Ev.vc_run hv;obtain⟨E',w',s1,s2,s4,s3⟩:=AR hT h hi ⟨Wl _,by omega⟩ hrun;have hnd:∀c,o.op≠ .defer c:=λ c hc=>by
   unfold ev at hrun;rw[hc]at hrun;exact hrun.elim
  rw[Zn _ _ _ hnd]
  cases v with
  |some d=>
   obtain⟨u,hu,hr⟩:=s3;rw[hu];exact hn _ _ E' w' u hK s1 s2 s4 hr
  |none=>
   rw[s3];exact hn _ _ E' w' undef hK s1 s2 s4 rfl

end

inductive AX
 |normal
 |exit (id:Nat)
 |ret
def AX.ex:AX->Exit
 | .normal=>.normal
 | .exit id=>.exit id
 | .ret=>.ret

structure AWP (P:Program)(rd:Bool)(nt xn:Nat)(c:Code)(s:AS)(K:AX->AS->Prop):Prop where
 run:∀(F:Fence) (n:Nat) (cx:Cx) (E:Env) (a:Act) (w:World) (Q:Exit->Act->World->Prop),FOK F->((rd=Gd->F.round=z9)/\cx.xn<=xn)->cx.nt=nt->s.us=[]->SR cx E s a w->
  (∀e s' E' a' w',K e s'->s'.us=[]->SR cx E' s' a' w'->StpX cx.xn E E' w w'->Mut s s' E E' w w'->Q e.ex a' w')->c.wpIn F n P Q a w

def iO (T:TT)(s:AS):List ResultVar->(GA->Prop)->Prop
 |[],K=>K []
 | .tmp t::r,K=>jx (s.tm.get t) λ d=>iO T s r λ l=>K (d::l)
 | .cell t ty::r,K=>(gT T s ty (.tmp t)).vc λ v _=>jx v λ d=>iO T s r λ l=>K (d::l)
def tl:GA->D
 |[d]=>d
 |l=>.tup l


section
variable {P:Program} {T:TT} {rd:Bool} {nt kb xn:Nat}

def AWP.mono {c:Code}{s:AS}{K K':AX->AS->Prop}(h:AWP P rd nt xn c s K)(hk:∀e s',K e s'->K' e s'):AWP P rd nt xn c s K':=
 ⟨λ F n cx E a w Q hF hr hn hu hs hQ=>h.run F n cx E a w Q hF hr hn hu hs λ e s' E' a' w' hK=>hQ e s' E' a' w' (hk e s' hK)⟩

def qV (hT:T.ok P){cx:Cx}{E:Env}{s:AS}{a:Act}{w:World}(h:SR cx E s a w):∀(rs:List ResultVar) (K:GA->Prop),iO T s rs K->
  ∃l vs,K l/\vs.length=l.length/\(∀(j:Nat) d u,l[j]? =Ge d->vs[j]? =Ge u->RD E w d u)/\
   (rs.mapM (λ x:ResultVar=>match x with| .tmp t=>(pure (a.tmps.getD t undef):Sem Value)| .cell p t=>do loadVar t (<-asAddr (a.tmps.getD p undef)))).run P w= .ok vs w
 |[],K,hv=>⟨[],[],hv,rfl,λ j d u hj=>by simp at hj,rfl⟩
 | .tmp t::r,K,hv=>by
  obtain⟨d,hd,hv⟩:=aQ.1 hv;obtain⟨l,vs,h1,h2,h3,h4⟩:=qV hT h r _ hv;obtain⟨u,hu,hr⟩:=h.fr t d hd;refine⟨d::l,u::vs,h1,by simp[h2],λ j d' u' a1 a2=>?_,?_⟩
  ·cases j with
   |zero=>simp at a1 a2;subst a1 a2;exact hr
   |succ j=>exact h3 j d' u' (by simpa using a1) (by simpa using a2)
  ·have e:a.tmps.getD t undef=u:=by simp[hu]
   rw[aaR];simp only[WF,WK,Wp,e,h4]
 | .cell t ty::r,K,hv=>by
  obtain⟨v,up,he,hv⟩:=Ev.vc_run hv;obtain⟨d,rfl,hv⟩:=aQ.1 hv;obtain⟨l,vs,h1,h2,h3,h4⟩:=qV hT h r _ hv;obtain⟨E',w',_,_,_,u,hu,hr⟩:=nC (i:=0) (o:=⟨z9,.load ty (.tmp t),0, "",#[],z9⟩) hT h rfl he
  -- a load leaves the world as it is
  unfold gT at he
  split at he
  case h_2=>exact he.elim
  case h_1 ti dx hti hx=>
  split at he
  case h_2=>exact he.elim
  case h_1 p hp=>
  obtain⟨c,cells,off⟩:=p;obtain⟨hc,he⟩:=he;obtain⟨b,ob,hu',hv'⟩:=nB h (h.eval hx) hp hc;have hex:a.tmps.getD t undef= .pointer (Ge ⟨b,ob+off,z9⟩):=hu';have hld:∃u,(loadVar ty ⟨b,ob+off,z9⟩).run P w= .ok u w/\RD E w d u:=by
   unfold mK at he
   cases hrow:ti.desc.isRow with
   |true=>
    simp only[hrow,cond_true]at he;obtain⟨hle,h5,rfl⟩:=he
    cases h5
    have hle:=Wm hle;obtain⟨us,hl,hrg,h6,hd⟩:=hv'.seg hle;exact⟨_,run_loadVar_mid w b _ ty us ti.desc hrg (TT.info hT hti).1 hrow (by rw[(TT.info hT hti).2,hl]),.agg _ _ (by simp[hl];omega) hd h6⟩
   |false=>
    simp only[hrow,cond_false]at he;obtain⟨d',hd',h5,rfl⟩:=he
    cases h5
    obtain⟨u,hu,_,hr⟩:=hv' off _ hd';refine⟨u,?_,hr⟩;simp only[loadVar,WF,gy hT hti w,Wp,hrow,Ye,if_false];simp[Go.load,ZX,hu]
  obtain⟨u,hu,hr⟩:=hld;refine⟨d::l,u::vs,h1,by simp[h2],λ j d' u' a1 a2=>?_,?_⟩
  ·cases j with
   |zero=>simp at a1 a2;subst a1 a2;exact hr
   |succ j=>exact h3 j d' u' (by simpa using a1) (by simpa using a2)
  ·have has:(asAddr (a.tmps.getD t undef)).run P w= .ok ⟨b,ob+off,z9⟩ w:=by rw[hex];rfl
   rw[aaR];simp only[WF,WK,Wp,has,hu,h4]


def SR.unmark {cx:Cx}{E:Env}{s:AS}{a:Act}{w:World}(h:SR cx E s a w){b:Nat}{bs:Gw}(hn:(b::bs).Nodup)
  (hb:∀x∈b::bs,cx.B<=x/\E.own x/\w.heap[x]? =Ge (.deferred (Ge []))):
  SR cx E s {a with defers:=bs.map (λ b=>{target:=.collected b,args:=#[]})} (w.putObj b (.deferred z9))/\Stp E E w (w.putObj b (.deferred z9))/\∀x∈bs,cx.B<=x/\E.own x/\(w.putObj b (.deferred z9)).heap[x]? =Ge (.deferred (Ge [])):=by
 obtain⟨h1,h2,h3⟩:=hb b WH;have hnk:¬bu s E.φ b:=h.unmarked h3;have hsh:∀x,(w.putObj b (.deferred z9)).shape? x=w.shape? x:=λ x=>by
  by_cases e:x=b
  ·subst e
   have hlt:=(Array.getElem?_eq_some_iff.1 h3).1;unfold aaj;rw[ZJ hlt,h3]
  ·exact cz (YE e)
 have hst:Stp E E w (w.putObj b (.deferred z9)):=⟨λ _ h=>h,λ _ _=>rfl,by simp,λ x _ hx=>⟨hx,YE (λ e=>by subst e;exact hx h2)⟩,λ x _=>hsh x⟩
 have hrest:∀x∈bs,cx.B<=x/\E.own x/\(w.putObj b (.deferred z9)).heap[x]? =Ge (.deferred (Ge [])):=λ x hx=>by
  obtain⟨c1,c2,c3⟩:=hb x (WG _ hx);refine⟨c1,c2,?_⟩;rw[YE (λ e=>by subst e;exact(List.nodup_cons.1 hn).1 hx)];exact c3
 have hob:∀{k g o},s.gat k=Ge (g,o)->OB E (w.putObj b (.deferred z9)) g o:=fun{k g o} hk=>(h.ob hk).step hst λ x hx=>⟨h.own_of ⟨k,g,o,hk,hx⟩,YE (λ e=>by subst e;exact hnk ⟨k,g,o,hk,hx⟩)⟩
 refine⟨?_,hst,hrest⟩;exact{
  fr:=λ t d hd=>by obtain⟨u,hu,hr⟩:=h.fr t d hd;exact⟨u,hu,hr.step hst⟩
  sz:=h.sz
  df:=⟨bs,rfl,(List.nodup_cons.1 hn).2,hrest⟩
  hp:=λ k g b' hk=>hob (AS.at_iff.1 hk)
  lp:=λ k g r hk=>hob (AS.lat_iff.1 hk)
  inj:=h.inj
  lt:=λ x hx=>by simpa using h.lt x hx
  low:=h.low
  base:=h.base
  bel:=h.bel.trans ⟨rfl,rfl,rfl,by simp,λ k hk hm=>YE (λ e=>by subst e;exact hm (cx.hM _ h1)),λ k _=>hsh k⟩
  nm:=h.nm
  szB:=by simpa using h.szB}

def G4 {cx:Cx}{E:Env}{s:AS}{fn:Func}{F:Fence}{n:Nat}{R:Ending->World->Prop}:∀(bs:Gw) (a:Act) (w:World),SR cx E s a w->a.defers=bs.map (λ b=>{target:=.collected b,args:=#[]})->bs.Nodup->(∀x∈bs,cx.B<=x/\E.own x/\w.heap[x]? =Ge (.deferred (Ge [])))->
  (∀w',SR cx E s {a with defers:=[]} w'->Stp E E w w'->∃v,(results fn a.tmps).run P w'= .ok v w'/\R (.returned v) w')->LeavesInM F n P fn a.tmps R a.defers .returning w
 |[],a,w,h,hd,hn,hb,hR=>by
  rw[hd];have:a={a with defers:=[]}:=by cases a;simp at hd;subst hd;rfl
  exact hR w (this▸h) (Stp.refl E w)
 |b::bs,a,w,h,hd,hn,hb,hR=>by
  rw[hd];obtain⟨h1,h2,h3⟩:=h.unmark hn hb;refine⟨by simp,.inl ⟨b,_,rfl,run_takeDeferred (hb b WH).2.2,?_⟩⟩;exact G4 bs {a with defers:=bs.map (λ b=>{target:=.collected b,args:=#[]})} _ h1 rfl (List.nodup_cons.1 hn).2 h3 λ w' hs hst=>hR w' hs (h2.trans hst)

def qW (hT:T.ok P){f:FuncId}{fn:Func}{c:Code}(hf:P.funcs[f]? =Ge fn)(hb:fn.body=Ge c){rs:List ResultVar}(hrs:fn.results=⟨rs⟩){s0:AS}{Φ:GA->AS->Prop}
  (h:AWP P Gd fn.ntmps xn c s0 λ e s'=>(e= .normal\/e= .ret)/\iO T s' rs λ l=>Φ l s') {cx:Cx} {E:Env} {w:World} {args:List Value} (hn:cx.nt=fn.ntmps) (hx:cx.xn<=xn) (hu:s0.us=[])
  (hs:SR cx E s0 {tmps:=args.toArray++aag (fn.ntmps-args.toArray.size) undef,defers:=[]} w):
  Calls P f args.toArray w λ e w'=>∃l s' E' a' v,e= .returned v/\Φ l s'/\s'.us=[]/\SR cx E' s' a' w'/\a'.defers=[]/\StpX cx.xn E E' w w'/\(∀b,b<w.heap.size->E.own b->¬bu s0 E.φ b->E'.own b)/\(∀x,x<w.heap.size->bu s' E'.φ x->bu s0 E.φ x)/\RD E' w' (tl l) v:=by
 refine callsIn_wide.1 (callsIn_of_wp_marks (n:=0) hf hb trivial (h.run Fence.wide 0 cx E _ w _ FOK.wide ⟨λ _=>rfl,hx⟩ hn hu hs ?_));rintro e s' E' a' w' ⟨he,hv⟩ hu' hs' hst hmut;obtain⟨bs,d1,d2,d3⟩:=hs'.df;have goal:LeavesInM Fence.wide 0 P fn a'.tmps (λ e w'=>∃l s' E' a' v,e= .returned v/\Φ l s'/\s'.us=[]/\SR cx E' s' a' w'/\a'.defers=[]/\StpX cx.xn E E' w w'/\(∀b,b<w.heap.size->E.own b->¬bu s0 E.φ b->E'.own b)/\(∀x,x<w.heap.size->bu s' E'.φ x->bu s0 E.φ x)/\RD E' w' (tl l) v) a'.defers .returning w':=by
  refine G4 bs a' w' hs' d1 d2 d3 λ w2 gu hst2=>?_
  obtain⟨l,vs,hK,hl,hrd,hrun⟩:=qV hT gu _ _ hv;refine⟨if h:vs.toArray.size=1 then vs.toArray[0]else .tuple vs.toArray,?_,l,s',E',_,_,rfl,hK,hu',gu,rfl,hst.trans (hst2.x _),hmut.own,hmut.old,?_⟩
  ·unfold results
   rw[Array.mapM_eq_mapM_toList,hrs];simp only[WF,Sem.run_map];change ((ZX P (List.mapM (λ x:ResultVar=>match x with| .tmp t=>(pure (a'.tmps.getD t undef):Sem Value)| .cell p t=>do loadVar t (<-asAddr (a'.tmps.getD p undef))) rs) w2).andThen _).andThen _=_;rw[hrun];rfl
  ·cases vs with
   |nil=>
    have:l=[]:=WY hl.symm;subst this;exact .tup [] [] rfl (by simp)
   |cons v vs=>
    cases vs with
    |nil=>
     cases l with
     |nil=>simp at hl
     |cons d l=>
      have:l=[]:=WY (by simpa using hl.symm);subst this;exact hrd 0 d v rfl rfl
    |cons v2 vs=>
     cases l with
     |nil=>simp at hl
     |cons d l=>cases l with
      |nil=>simp at hl
      |cons d2 l=>
       rw[dif_neg (by simp)];exact .tup _ _ hl hrd
 rcases he with rfl|rfl<;>exact goal
end
section
variable {P:Program} {cx:Cx} {E:Env} {s:AS} {a:Act} {w:World} {i:Nat} {o:Oper} {T:TT}

def EO (T:TT)(s:AS)(nm ky:Nat)(ts:Array TypeId)(xs:Array Operand):Option (Bool×(D×Up)×(D×Up)):=
 match ts.toList,xs.toList with
 |[t,tx],[x,y]=>match T.get t,T.get tx,eG s x,eG s y with
  |some ⟨.slice e,_,_,_,_⟩,Ge ti,Ge (.ref k g off n' sz),Ge dy=>match T.get e,s.at k with
   |some ei,Ge p=>match gX s ei.size ti.desc dy with
    |some (c2,n,news)=>
     Ge (V9 g p.1&&V9 sz ei.size&&V9 off 0&&V9 (n'*ei.size) p.2.cells.length&&V9 p.2.elem e&&c2&&Ao (0<ei.size)&&Ao (0<ei.bytes)&&Wf ((n'+n)*ei.bytes) 140737488355328&&Yq 0 n'&&Tr.okK k&&Tr.okK ky,
      (.ref k g 0 (n'+n) ei.size,[(k,Ge (g,.b ⟨p.2.cells++news,e,Ga⟩)),(ky,z9)]),
      (.ref ky nm 0 (n'+n) ei.size,[(ky,Ge (nm,.b ⟨p.2.cells++news,e,Ga⟩))]))
    |none=>z9
   |_,_=>z9
  |_,_,_,_=>z9
 |_,_=>z9

def SR.swap {s2 s3:AS}(q:SR cx E s2 a w){k ky g nm:Nat}{nb:Blk}(hk:s2.gat ky=Ge (nm,.b nb))(hg:E.nm g)(hφ:E.φ g=E.φ nm)(htm:s3.tm=s2.tm)(hnx:s3.nx=s2.nx)(hus:s3.us=s2.us)
  (hat:∀{k' g' o'},s3.gat k'=Ge (g',o')->(k'=k/\g'=g/\o'= .b nb)\/(k'≠k/\k'≠ky/\s2.gat k'=Ge (g',o'))):SR cx E s3 a w/\∀x,bu s3 E.φ x->bu s2 E.φ x:=by
 have own:∀x,bu s3 E.φ x->bu s2 E.φ x:=λ x ⟨k',g',o',h1,h2⟩=>by
  rcases hat h1 with⟨_,rfl,_⟩|⟨_,_,h3⟩
  ·exact⟨ky,nm,_,hk,hφ▸h2⟩
  ·exact⟨k',g',o',h3,h2⟩
 refine⟨{q with
  fr:=λ t d hd=>q.fr t d (htm▸hd)
  hp:=λ k' g' b' h1=>?_
  lp:=λ k' g' r h1=>?_
  inj:=λ k1 k2 g1 g2 o1 o2 hne h1 h2 x hx=>?_
  low:=λ x hx=>q.low x (own x hx)
  nm:=λ g' hg'=>by rw[hnx,hus];exact q.nm g' hg'},own⟩
 ·rcases hat (AS.at_iff.1 h1)with⟨_,rfl,h3⟩|⟨_,_,h3⟩
  ·cases h3
   have:=q.hp ky nm nb (AS.at_iff.2 hk);exact⟨hg,hφ▸this.2⟩
  ·exact q.hp _ _ _ (AS.at_iff.2 h3)
 ·rcases hat (AS.lat_iff.1 h1)with⟨_,rfl,h3⟩|⟨_,_,h3⟩
  ·cases h3
  ·exact q.lp _ _ _ (AS.lat_iff.2 h3)
 ·rcases hat h1 with⟨rfl,rfl,_⟩|⟨n1,n2,h3⟩<;>rcases hat h2 with⟨rfl,rfl,_⟩|⟨n3,n4,h4⟩
  ·exact absurd rfl hne
  ·exact q.inj ky k2 nm g2 _ _ (ZG n4) hk h4 x (hφ▸hx)
  ·rw[hφ];exact q.inj k1 ky g1 nm _ _ n2 h3 hk x hx
  ·exact q.inj k1 k2 g1 g2 _ _ hne h3 h4 x hx

def pq (hT:T.ok P)(h:SR cx E s a w)(hi:i∉s.us){nm ky:Nat}(hg:s.nx+8*i<=nm/\nm<s.nx+8*i+8){c:Call}(ho:o.op= .call c)(hc:c.callee= .builtin .append){v1 v2:D}{up1 up2:Up}(he:EO T s nm ky c.argTypes c.args=Ge (Ga,(v1,up1),(v2,up2))):
  cj P cx E s a w i o (Ge v1) up1\/cj P cx E s a w i o (Ge v2) up2:=by
 unfold EO at he
 split at he
 case h_2=>cases he
 case h_1 t tx x y hts hxs=>
 split at he
 case h_2=>cases he
 case h_1 e z1 z2 z3 z4 ti k g off n' sz dy hti htx hx hy=>
 split at he
 case h_2=>cases he
 case h_1 ei p hei hk=>
 split at he
 case h_2=>cases he
 case h_1 c2 n news hsrc=>
 obtain⟨g',blk⟩:=p;have he:=Option.some.inj he;injection he with hcond he
 injection he with he1 he2
 injection he1 with hv1 hu1
 injection he2 with hv2 hu2
 subst hv1 hu1 hv2 hu2;simp only[Wh,decide_eq_true_eq]at hcond;obtain⟨⟨⟨⟨⟨⟨⟨⟨⟨⟨⟨hgg,hsz⟩,hof⟩,hlen⟩,hel⟩,hc2⟩,hsz0⟩,hby0⟩,hfit⟩,hm0⟩,hok⟩,hoky⟩:=hcond;have hfit:=Wm hfit;have hm0:0<n':=Wm hm0;have e1:c.argTypes= #[t,tx]:=by apply Yl;simpa using hts
 have e2:c.args.map a.eval= #[a.eval x,a.eval y]:=by apply Yl;rw[Yz,hxs];rfl
 have run0:∀{u:Value} {w':World},(Zq #[t,tx] o.type #[a.eval x,a.eval y]).run P w= .ok u w'->(execOp a.eval o).run P w= .ok (.value u) w':=λ hu=>by
  unfold execOp;simp only[ho,resolve,hc,WF,WK,Wp,invoke,builtin,e1,e2,hu]
 have hrx:=h.eval hx;have hry:=h.eval hy;generalize hux:a.eval x=ux at hrx run0;generalize huy:a.eval y=uy at hry run0;obtain⟨hu1,hzl,⟨j0,hj1,hj2,hj3,hj4⟩,_⟩:=hT e ei hei;have hu0:=(hT t _ hti).1;obtain⟨vs,hS,hvl,hvd⟩:=k5 hT h hry hsrc hc2 htx;have hS':Src P j0.size tx uy n vs w:=by rw[hj3];exact hS
 have hmax:n'+n<=fz:=by
  have:n'+n<=(n'+n)*ei.bytes:=Zv _ hby0;unfold fz;omega
 have hgrow:∀cap,cap<n'+n->YB (n'+n) cap*j0.bytes<=281474976710656:=λ cap hcap=>by
  rw[hj4];have h1:=nextslicecap_le (need:=n'+n) (old:=cap) hcap;have h2:YB (n'+n) cap*ei.bytes<=2*(n'+n)*ei.bytes:=W8 _ h1;rw[XS]at h2;omega
 have hcap:=grownCap_ge w (n'+n);have hcapm:=λ cap=>grownCap_le_maxLen w (n'+n) cap e (by unfold maxLen;unfold fz at hmax;omega)
 cases hrx with
 |refn=>exact absurd hm0 (by omega)
 |ref _ _ _ _ _ c' b off' tt mm hg' hb hc3 hoff hsh hmm=>
  obtain rfl:g=g':=Wk hgg;obtain rfl:sz=ei.size:=Wk hsz;obtain rfl:off=0:=Wk hof;have hlen:=Wk hlen;have hel:blk.elem=e:=Wk hel;obtain⟨hlt,hown,cur,fr,hcur,hfz,hcl,_,hcell⟩:=h.block hk hb;have hshm:mm=cur.size:=by rw[aO hcur]at hsh;cases hsh;rfl
  by_cases hroom:n'+n<=c'
  ·-- there is room
   have hcells:∀j,j<vs.length->(off'+n'*j0.size+j)<cur.size:=λ j hj=>by
    rw[hS'.newsLen]at hj;have h1:n'*j0.size+n*j0.size<=c'*ei.size:=by rw[hj3,<-Xt];exact W8 _ hroom
    omega
   have hr:=run_append_room_src (P:=P) w t tx o.type e j0 (by rw[hu0]) hj1 b off' n' c' uy n vs hS' hroom
    (λ j hj=>by rw[cell_of_row w b _ cur blk.elem fr hcur,XZ (hcells j hj)];rfl) (λ j hj=>jf w b _ cur blk.elem fr hcur hfz (hcells j hj))
   have hoff0:off'=0\/(n'=0/\n=0):=by
    rcases hoff with h1|⟨h1,h2⟩
    ·exact .inl h1
    ·exact .inr ⟨h1,by omega⟩
   have hvlen:vs.length=n*ei.size:=by rw[hS.newsLen]
   have hfitc:off'+n'*j0.size+vs.length<=cur.size:=by
    rw[hvlen,hj3];have h1:n'*ei.size+n*ei.size<=c'*ei.size:=by rw[<-Xt];exact W8 _ hroom
    omega
   obtain⟨cur',hcur',hsz',hget'⟩:=fj w b (off'+n'*j0.size) cur blk.elem fr vs hcur hfitc;obtain⟨hgr,hz⟩:=da b vs (off'+n'*j0.size) w;obtain⟨q1,q2,q3,q4,q5⟩:=h.rename (ky:=ky) (k:=k) hi hg (Ge b) (λ b' hb'=>by cases hb';exact⟨g,blk,hk,hb⟩) ⟨blk.cells++news,e,Ga⟩ hgr hz
    (λ x hx=>by
     by_cases e1:x=b
     ·subst e1;rw[aO hcur,aO hcur',hsz']
     ·exact cz (hgr.block x hx (λ e2=>by cases e2;exact e1 rfl)))
    ⟨cur',fr,by rw[<-hel];exact hcur',by rw[hsz'];exact hfz,by
     rw[Wc,<-hvl,<-hlen,hvlen,hsz',<-hshm,<-Xt];exact Ww (W8 _ hroom) (by omega),(λ hh=>by cases hh),λ j d hj=>by
     rcases WR j blk.cells.length with hjl|hjl
     ·rw[WO hjl]at hj
      obtain⟨u,h1,h2,h3⟩:=hcell j d hj;refine⟨u,?_,h2,h3⟩;rw[hget',ZE (λ hh=>?_)]
      ·exact h1
      ·rcases hoff0 with h0|⟨h0,h0'⟩
       ·rw[hj3]at hh;omega
       ·rw[hvlen,h0',XQ]at hh;omega
     ·rw[WJ hjl]at hj
      have hjn:=(List.getElem?_eq_some_iff.1 hj).1;have hjv:j-blk.cells.length<vs.length:=by omega
      have h0:off'=0:=by
       rcases hoff0 with h0|⟨h0,h0'⟩
       ·exact h0
       ·rw[hvlen,h0',XQ]at hjv;omega
      refine⟨vs[j-blk.cells.length],?_,hS.one _ (Xf hjv),hvd _ d _ hj (by simp[hjv])⟩;rw[hget',ZF (by rw[hj3];omega)];have:j-(off'+n'*j0.size)=j-blk.cells.length:=by rw[hj3];omega
      rw[this];simp[hjv]⟩
   have hat:∀{k' g':Nat} {o':Ob},AS.gat {s with hp:=fU [(k,Ge (g,.b ⟨blk.cells++news,e,Ga⟩)),(ky,z9)] s.hp,us:=i::s.us} k'=Ge (g',o')->(k'=k/\g'=g/\o'= .b ⟨blk.cells++news,e,Ga⟩)\/(k'≠k/\k'≠ky/\AS.gat {s with hp:=(s.hp.set k z9).set ky (Ge (nm,.b ⟨blk.cells++news,e,Ga⟩)),us:=i::s.us} k'=Ge (g',o')):=fun{k' g' o'} hh=>by
    rcases Tr.of_set hh with⟨e1,hv⟩|⟨e1,hh⟩
    ·cases hv;exact .inl ⟨e1,rfl,rfl⟩
    ·rcases Tr.of_set hh with⟨_,hv⟩|⟨e2,hh⟩
     ·cases hv
     ·exact .inr ⟨e1,e2,(by show((s.hp.set k z9).set ky (Ge (nm,.b ⟨blk.cells++news,e,Ga⟩))).get k'=_;rw[Tr.get_set _ _ _ hoky,ZE e2,Tr.get_set _ _ _ hok,ZE e1];exact hh)⟩
   obtain⟨r1,r2⟩:=q1.swap (k:=k) (ky:=ky) (g:=g) (nm:=nm) (nb:=⟨blk.cells++news,e,Ga⟩) (s3:={s with hp:=fU [(k,Ge (g,.b ⟨blk.cells++news,e,Ga⟩)),(ky,z9)] s.hp,us:=i::s.us})
    (by show((s.hp.set k z9).set ky (Ge (nm,.b ⟨blk.cells++news,e,Ga⟩))).get ky=_;rw[Tr.get_set _ _ _ hoky,ZF rfl]) (q2.nm g hg') ((q2.φ g hg').trans (hb.trans q4.symm)) rfl rfl rfl hat
   refine .inl ⟨_,_,q2,r1,⟨q5.own,q5.heap,λ x hx hw=>q5.old x hx (r2 x hw)⟩,_,run0 hr,.ref k g 0 (n'+n) ei.size c' b off' blk.elem cur.size (q2.nm g hg') ((q2.φ g hg').trans hb) ⟨hroom,hc3.2⟩ ?_ ?_ (by omega)⟩
   ·rcases hoff with h1|⟨h1,h2⟩
    ·exact .inl h1
    ·exact .inr ⟨by omega,h2⟩
   ·rw[aO hcur',hsz']
  ·-- there is z9
   have hv:Vw E w b 0 blk.cells:=λ j d hj=>by
    obtain⟨v,hv1,hv2,hv3⟩:=hcell j d hj;exact⟨v,by rw[WE,cell_of_row w b j cur blk.elem fr hcur];exact hv1,hv2,hv3⟩
   obtain⟨us,hl,hrg,h1,hd⟩:=hv.seg (off:=0) (m:=blk.cells.length) (by omega);have hfc:(Zs j0.size n' (.slice (Ge ⟨b,off',z9⟩) n' c')).run P w.drew= .ok us.toArray w.drew:=by
    refine run_firstCells_some w.drew _ _ _ _ _ us (by rw[hl,hj3,hlen]) (λ j v hj=>?_);rw[X5];rcases hoff with rfl|⟨h0,h0'⟩
    ·exact hrg j v hj
    ·omega
   have hlt2:c'<n'+n:=by omega
   have hr:=run_append_grow_src (P:=P) w t tx o.type e j0 ei.zero (by rw[hu0]) hj1 hj2 (Ge ⟨b,off',z9⟩) n' c' us hfc uy n vs hS' hlt2 (by unfold fz at hmax;omega) (hgrow c' hlt2);obtain⟨q1,q2,q3,q4,q5⟩:=h.drew.new (ky:=ky) hi hg e (blk.cells++news) (us++vs++(YD ei.zero.cells (grownCap w (n'+n) c' e-(n'+n))).toList) Ga (0,0) (gx.zero _) (by simp[hl,hvl]) (λ hh=>by cases hh)
    (λ j d hj=>by
     obtain⟨u,a1,a2,a3⟩:=wX (E:=E) (w:=w) hl hvl (λ j d v hj hv'=>hd j d v (by rw[XR,XF];exact hj) hv') hvd h1 hS.one _ j d hj;exact⟨u,a1,a2,a3.step (Stp.drew _ w)⟩)
   refine .inr ⟨_,_,(Stp.drew _ w).trans q2,q1,⟨λ b hz hb hn=>q5.own b hz hb hn,λ b hb _=>Yt w.drew _ b hb,λ x hx hw=>q5.old x hx hw⟩,.slice (Ge ⟨w.heap.size,0,z9⟩) (n'+n) (grownCap w (n'+n) c' e),?_,?_⟩
   ·rw[run0 hr]
    congr 2
    simp
   ·have hc2:=hcap c' e
    have hc3:=hcapm c';refine .ref ky nm 0 (n'+n) ei.size _ w.heap.size 0 e _ q3 q4 ⟨hc2,by unfold maxLen at hc3;unfold fz;omega⟩ (.inl rfl) (aO (cg w.drew _)) ?_;simp[YD,hl,hlen,hS.newsLen,hzl];rw[<-hlen,<-Xt,<-Xt];exact W8 _ (by omega)
end

def mc:Nat->GA->Tr D
 |_,[]=>.e
 |i,d::r=>(mc (i+1) r).set i (Ge d)
def pN:∀(ds:GA) (i t:Nat) (d:D),(mc i ds).get t=Ge d->i<=t/\ds[t-i]? =Ge d
 |[],i,t,d,h=>by cases h
 |x::r,i,t,d,h=>by
  rcases Tr.of_set h with⟨rfl,hv⟩|⟨e,h⟩
  ·cases hv;exact⟨Wl _,by simp⟩
  ·obtain⟨h1,h2⟩:=pN r (i+1) t d h
   exact⟨by omega,by rw[show t-i=(t-(i+1))+1 by omega,XV];exact h2⟩

def Cx.sub (cx:Cx)(E:Env)(s:AS)(w:World)(nt xn:Nat):Cx:=⟨w.heap.size,w,nt,cx.O,λ x=>w.heap.size<=x\/bu s E.φ x,λ _ h=>.inl h,xn+1,λ h=>absurd h (Nat.succ_ne_zero _)⟩

section
variable {P:Program} {cx:Cx} {E E':Env} {s:AS} {a:Act} {w:World} {i:Nat} {o:Oper} {T:TT} {F:Fence} {n:Nat} {rd:Bool} {nt kb:Nat}

def SR.enter (h:SR cx E s a w){tm:Tr D}{nx nt xn:Nat}{a':Act}(hnx:∀g,E.nm g->g<nx)(hfr:∀t d,tm.get t=Ge d->∃u,a'.tmps[t]? =Ge u/\RD E w d u)(hsz:nt<=a'.tmps.size)(hdf:a'.defers=[]):
  SR (cx.sub E s w nt xn) E {tm:=tm,hp:=s.hp,nx:=nx,us:=[]} a' w:=
 {fr:=hfr,sz:=hsz,df:=hdf▸lY.nil _ _ _,hp:=h.hp,lp:=h.lp,inj:=h.inj,lt:=h.lt,low:=λ x hx=>.inr hx,base:=h.base,bel:=Fr.refl _ _,nm:=λ g hg=>.inl (hnx g hg),szB:=Wl _}
def SR.below (h:SR cx E s a w){i:Nat}(hus:∀k∈s.us,k<i):∀g,E.nm g->g<s.nx+8*(i+1):=λ g hg=>by
 rcases h.nm g hg with h1|⟨j,hj,h1,h2⟩
 ·omega
 ·have:=hus j hj;omega
def SR.back (h:SR cx E s a w){s':AS}{a':Act}{w':World}{nt xn:Nat}(h':SR (cx.sub E s w nt xn) E' s' a' w')(hst:Stp E E' w w')(hown:∀b,b<w.heap.size->E.own b->¬bu s E.φ b->E'.own b)(hold:∀x,x<w.heap.size->bu s' E'.φ x->bu s E.φ x)(hu:s'.us=[]):
  SR cx E' {tm:=s.tm,hp:=s'.hp,nx:=s'.nx,us:=[]} a w'/\Mut s {tm:=s.tm,hp:=s'.hp,nx:=s'.nx,us:=[]} E E' w w':=by
 have hheap:∀b,b<w.heap.size->¬bu s E.φ b->w'.heap[b]? =w.heap[b]?:=λ b hb hn=>h'.bel.block b hb λ hm=>by
  rcases hm with hm|hm
  ·exact absurd hb (Nat.not_lt_of_le hm)
  ·exact hn hm
 have hmc:∀x,(cx.sub E s w nt xn).M x->cx.M x:=λ x hx=>by
  rcases hx with hx|hx
  ·exact cx.hM x (Ww h.szB hx)
  ·exact h.low x hx
 refine⟨{
      fr:=λ t d hd=>by obtain⟨u,hu,hr⟩:=h.fr t d hd;exact⟨u,hu,hr.step hst⟩
      sz:=h.sz
      df:=h.df.step (λ b hb hd=>hown b (h.lt b hb) hb (h.unmarked hd)) λ b hb hd=>hheap b (h.lt b hb) (h.unmarked hd)
      hp:=h'.hp,lp:=h'.lp,inj:=h'.inj,lt:=h'.lt
      low:=λ x hx=>hmc x (h'.low x hx)
      base:=h'.base
      bel:=h.bel.trans (h'.bel.mono hmc)
      nm:=λ g hg=>.inl (by
       rcases h'.nm g hg with h1|⟨j,hj,_⟩
       ·exact h1
       ·rw[hu]at hj;cases hj)
      szB:=Ww h.szB hst.size},hown,hheap,hold⟩

structure inlP (P:Program)(T:TT)(s:AS)(i:Nat)(ds:GA)(f:FuncId)(K:D->AS->Prop):Prop where
 h:∃fn c rs,P.funcs[f]? =Ge fn/\fn.body=Ge c/\fn.results=⟨rs⟩/\(fn.name== "runtime.NumGoroutine")=Gd/\
  AWP P Gd fn.ntmps (s.nx+8*(i+1)) c {tm:=mc 0 ds,hp:=s.hp,nx:=s.nx+8*(i+1),us:=[]} λ e s'=>(e= .normal\/e= .ret)/\iO T s' rs λ l=>K (tl l) {tm:=s.tm,hp:=s'.hp,nx:=s'.nx,us:=[]}

def qX {ds:GA}{args:List Value}{ntm:Nat}(hl:args.length=ds.length)(ha:∀(j:Nat) d u,ds[j]? =Ge d->args[j]? =Ge u->RD E w d u):
  ∀t d,(mc 0 ds).get t=Ge d->∃u,(args.toArray++aag ntm undef)[t]? =Ge u/\RD E w d u:=λ t d hd=>by
 obtain⟨_,h2⟩:=pN ds 0 t d hd;have hlt:t<args.length:=by rw[hl];have:=(List.getElem?_eq_some_iff.1 h2).1;simpa using this
 refine⟨args[t],?_,ha t d _ (by simpa using h2) (Wa hlt)⟩;rw[Array.getElem?_append_left (by simpa using hlt)];simp[hlt]

def zE (hT:T.ok P)(h:SR cx E s a w)(hus:∀k∈s.us,k<i){ds:GA}{f:FuncId}{K:D->AS->Prop}(hv:inlP P T s i ds f K){args:List Value}(hl:args.length=ds.length)(ha:∀(j:Nat) d u,ds[j]? =Ge d->args[j]? =Ge u->RD E w d u):
  ap P f/\Calls P f args.toArray w λ e w'=>∃r s' E' v,e= .returned v/\K r s'/\s'.us=[]/\s'.tm=s.tm/\SR cx E' s' a w'/\Stp E E' w w'/\Mut s s' E E' w w'/\RD E' w' r v:=by
 obtain⟨fn,c,rs,h1,h2,h3,h4,h5⟩:=hv.h;refine⟨⟨fn,h1,by rw[h2];rfl,h4⟩,?_⟩;refine(qW (Φ:=λ l s'=>K (tl l) {tm:=s.tm,hp:=s'.hp,nx:=s'.nx,us:=[]}) hT h1 h2 h3 h5 (cx:=cx.sub E s w fn.ntmps (s.nx+(8*i+7))) (E:=E) rfl (Wl _) rfl (h.enter (h.below hus) (qX hl ha) (by simp;omega) rfl)).mono ?_;rintro e w' ⟨l,s',E',a',v,rfl,hK,hu,hs',_,hst,hown,hold,hr⟩;have hst:=hst.full (h.below hus);obtain⟨b1,b2⟩:=h.back hs' hst hown hold hu;exact⟨_,_,E',v,rfl,hK,rfl,rfl,b1,hst,b2,hr⟩

def ko:LoopState->Bool
 | .ready=>Ga
 |_=>Gd
def vA:LoopState->Bool
 | .busy=>Ga
 |_=>Gd
def k9:AX->Option Code
 | .normal=>z9
 | .ret=>Ge .ret
 | .exit id=>Ge (.exit id)
def gC:AX->Bool
 | .normal=>Ga
 |_=>Gd
def recP (s:AS)(k g:Nat)(ok:LRec->Bool)(to:LRec->LRec)(K:LRec->AS->Prop):Prop:=
 jx (s.lat k) λ p=>vz (V9 p.1 g&&ok p.2) (K p.2 {s with hp:=s.hp.set k (Ge (g,.l (to p.2)))})
def w7:List Tmp->GA->Tr D->Tr D
 |t::ts,d::ds,tm=>w7 ts ds (tm.set t (Ge d))
 |_,_,tm=>tm
def M2 (P:Program)(s:AS)(i k g:Nat)(ds:GA)(K:D->AS->Prop):Prop:=
 jx (s.lat k) λ p=>vz (V9 p.1 g&&ko p.2.st&&V9 ds.length p.2.params.size&&p.2.params.toList.all λ t=>Yq t p.2.nt) (AWP P Ga p.2.nt (s.nx+8*(i+1)) p.2.assign {tm:=w7 p.2.params.toList ds p.2.tm,hp:=s.hp,nx:=s.nx+8*(i+1),us:=[]} λ e s1=>e= .normal/\
  recP s1 k g (λ r=>ko r.st) (λ r=>{r with st:=.busy}) λ _ s2=>AWP P Ga p.2.nt (s.nx+8*(i+1)) p.2.body s2 λ e s3=>
   recP s3 k g (λ _=>Ga) (λ r=>{r with st:=bif gC e then .ready else .done,pend:=k9 e}) λ _ s4=>K (.v (.bool (gC e))) {tm:=s.tm,hp:=s4.hp,nx:=s4.nx,us:=[]})

def jN (h:SR cx E s a w){k g:Nat}{ok:LRec->Bool}{to:LRec->LRec}{K:LRec->AS->Prop}(hv:recP s k g ok to K):∃r b L,ok r=Ga/\E.nm g/\E.φ g=Ge b/\w.heap[b]? =Ge (.loop L)/\L.state=r.st/\L.pending=r.pend/\
  ((∀r,(to r).params=r.params/\(to r).assign=r.assign/\(to r).body=r.body/\(to r).nt=r.nt/\(to r).tm=r.tm)->∀(L':Loop),L'.state=(to r).st->L'.pending=(to r).pend->L'.params=L.params->L'.assign=L.assign->L'.body=L.body->L'.tmps=L.tmps->
   ∃s' E',s'={s with hp:=s.hp.set k (Ge (g,.l (to r)))}/\K r s'/\SR cx E' s' a (w.putObj b (.loop L'))/\Stp E E' w (w.putObj b (.loop L'))/\Mut s s' E E' w (w.putObj b (.loop L'))):=by
 obtain⟨p,hp,hv⟩:=aQ.1 hv;obtain⟨hc,hK⟩:=bz.1 hv;obtain⟨g',r⟩:=p;rw[Wh]at hc;obtain⟨hg,hok⟩:=hc;obtain rfl:g'=g:=Wk hg;obtain⟨h1,b,L,h2,h3,h4,h5,h6,h7,h8,h9,h10,h11,h12⟩:=h.lp k g' r hp;refine⟨r,b,L,hok,h1,h2,h5,h6,h7,λ hto L' e1 e2 e3 e4 e5 e6=>?_⟩;obtain⟨t1,t2,t3,t4,t5⟩:=hto r;have hsh:(w.putObj b (.loop L')).shape? b=w.shape? b:=by
  unfold aaj;rw[ZJ h4,h5]
 obtain⟨q1,q2,q3⟩:=h.storeG (i:=0) (o':= .l (to r)) (AS.lat_iff.1 hp) h2 s.us (λ x hx=>hx) (grownBy_putObj' w b (.loop L')) (by simp) hsh λ E' hst hnm hφ hown=>⟨hnm _ h1,b,L',by rw[hφ];exact h2,hown,by simpa using h4,ZJ h4,e1,e2,by rw[e3,h8,t1],by rw[e4,h9,t2],by rw[e5,h10,t3],by rw[e6,t4];exact h11,λ t d hd=>by
  rw[t5]at hd;obtain⟨u,hu,hr⟩:=h12 t d hd;exact⟨u,by rw[e6];exact hu,hr.step hst⟩⟩
 exact⟨_,_,rfl,hK,q1,q2,q3⟩

def tn:∀(ts:List Tmp) (ds:GA) (us:List Value) (tm:Tr D) (tmps:Array Value),us.length=ds.length->ds.length=ts.length->(∀t∈ts,t<tmps.size)->(∀(j:Nat) d u,ds[j]? =Ge d->us[j]? =Ge u->RD E w d u)->(∀t d,tm.get t=Ge d->∃u,tmps[t]? =Ge u/\RD E w d u)->
  ((ts.zip us).foldl (λ(tmps:Array Value) (p:Tmp×Value)=>tmps.setIfInBounds p.1 p.2) tmps).size=tmps.size/\∀t d,(w7 ts ds tm).get t=Ge d->∃u,((ts.zip us).foldl (λ(tmps:Array Value) (p:Tmp×Value)=>tmps.setIfInBounds p.1 p.2) tmps)[t]? =Ge u/\RD E w d u
 |[],ds,us,tm,tmps,h1,h2,h3,h4,h5=>by
  have:ds=[]:=WY h2;subst this;exact⟨rfl,h5⟩
 |t::ts,[],us,tm,tmps,h1,h2,h3,h4,h5=>by simp at h2
 |t::ts,d::ds,[],tm,tmps,h1,h2,h3,h4,h5=>by simp at h1
 |t::ts,d::ds,u::us,tm,tmps,h1,h2,h3,h4,h5=>by
  have ht:=h3 t WH;obtain⟨q1,q2⟩:=tn ts ds us (tm.set t (Ge d)) (tmps.setIfInBounds t u) (by simpa using h1) (by simpa using h2) (λ x hx=>by simpa using h3 x (WG _ hx)) (λ j d' u' a1 a2=>h4 (j+1) d' u' (by simpa using a1) (by simpa using a2)) (λ t' d' hd=>by
   rcases Tr.of_set hd with⟨rfl,hv⟩|⟨e,hd⟩
   ·cases hv
    exact⟨u,by simp[ht],h4 0 d u rfl rfl⟩
   ·obtain⟨u',hu',hr⟩:=h5 t' d' hd
    exact⟨u',by rw[XU (ZG e)];exact hu',hr⟩)
  exact⟨by rw[abc,aaf];simpa using q1,by rw[abc,aaf];exact q2⟩

def zF (ts:Array Tmp)(us tmps:Array Value):(ts.zip us).foldl (λ tmps (t,a)=>tmps.setIfInBounds t a) tmps=(ts.toList.zip us.toList).foldl (λ(tmps:Array Value) (p:Tmp×Value)=>tmps.setIfInBounds p.1 p.2) tmps:=by
 rw[<-abb,Array.toList_zip]

def pO (hF:FOK F)(h:SR cx E s a w)(hus:∀k∈s.us,k<i){k g:Nat}{ds:GA}{K:D->AS->Prop}(hv:M2 P s i k g ds K){us:List Value}(hl:us.length=ds.length)(ha:∀(j:Nat) d u,ds[j]? =Ge d->us[j]? =Ge u->RD E w d u){b:Nat}(hb:E.φ g=Ge b):
  ∃f tmps assign body,(Instr.yield b us.toArray).run P w= .ok (.round b f tmps assign body) w/\RoundIn F n P b f tmps assign body w λ e w'=>∃r s' E' v,e= .returned v/\K r s'/\s'.us=[]/\s'.tm=s.tm/\SR cx E' s' a w'/\Stp E E' w w'/\Mut s s' E E' w w'/\RD E' w' r v:=by
 obtain⟨p,hp,hv⟩:=aQ.1 hv;obtain⟨hc,hv⟩:=bz.1 hv;obtain⟨g',r⟩:=p;simp only[Wh]at hc;obtain⟨⟨⟨hg,hrdy⟩,hlen⟩,hps⟩:=hc;obtain rfl:g'=g:=Wk hg;have hlen:=Wk hlen;obtain⟨h1,b',L,h2,h3,h4,h5,h6,h7,h8,h9,h10,h11,h12⟩:=h.lp k g' r hp;rw[hb]at h2;cases h2;dsimp only at hv hlen hps;have hsz:us.toArray.size=L.params.size:=by rw[h8];simpa[hl]using hlen
 refine⟨L.fn,_,L.assign,L.body,run_yield h5 hsz,roundIn_of_wpIn (hF.fn _) ?_⟩;rw[zF];rw[h8,h9,h10];obtain⟨q1,q2⟩:=tn r.params.toList ds us r.tm L.tmps hl (by simpa using hlen) (λ t ht=>by
  have:=List.all_eq_true.1 hps t ht;exact WX (Wm this) h11) ha h12
 have e0:=h.enter (nt:=r.nt) (xn:=s.nx+(8*i+7)) (nx:=s.nx+8*(i+1)) (a':={tmps:=(r.params.toList.zip us).foldl (λ(tmps:Array Value) (p:Tmp×Value)=>tmps.setIfInBounds p.1 p.2) L.tmps,defers:=[]}) (h.below hus) q2 (by rw[q1];exact h11) rfl;refine hv.run (F.inRound b) n (cx.sub E s w r.nt (s.nx+(8*i+7))) E _ w _ (hF.inRound b) ⟨λ hh=>(by cases hh),Wl _⟩ rfl rfl e0 ?_;rintro e s1 E1 a1 w1 ⟨rfl,hK⟩ hu1 bB hst1 hmut1;show∃w₂,_;obtain⟨r1,b1,L1,hok1,hn1,hφ1,hb1,hL1,hL1',hgo⟩:=jN bB hK;have hg':g'<s.nx+8*(i+1):=h.below hus g' h1;have hφ1':E1.φ g'=Ge b:=(hst1.φ g' hg' h1).trans hb;rw[hφ1']at hφ1;cases hφ1;have hr1:L1.state= .ready:=by
  rw[hL1];revert hok1
  cases r1.st<;>simp[ko]
 obtain⟨s2,E2,hs2e,hK2,gu,hst2,hmut2⟩:=hgo (λ _=>⟨rfl,rfl,rfl,rfl,rfl⟩) {L1 with state:=.busy} rfl hL1' rfl rfl rfl rfl;refine⟨_,run_beginRound hb1 hr1,?_⟩;have hu2:s2.us=[]:=by rw[hs2e];exact hu1
 refine hK2.run (F.inRound b) n (cx.sub E s w r.nt (s.nx+(8*i+7))) E2 a1 _ _ (hF.inRound b) ⟨λ hh=>(by cases hh),Wl _⟩ rfl hu2 gu ?_;intro e s3 E3 a3 w3 hK3 hu3 sR hst3 hmut3;obtain⟨r3,b3,L3,_,hn3,hφ3,hb3,hL3,hL3',hgo3⟩:=jN sR hK3;have hst13:StpX (s.nx+8*(i+1)) E E3 w w3:=(hst1.trans (hst2.x _)).trans hst3;have hφ3':E3.φ g'=Ge b:=(hst13.φ g' hg' h1).trans hb;rw[hφ3']at hφ3;cases hφ3;obtain⟨s4,E4,hs4e,hK4,Hb,hst4,hmut4⟩:=hgo3 (λ _=>⟨rfl,rfl,rfl,rfl,rfl⟩) {L3 with state:=if(k9 e).isNone then .ready else .done,pending:=k9 e} (by cases e<;>rfl) rfl rfl rfl rfl rfl;have hu4:s4.us=[]:=by rw[hs4e];exact hu3
 have hM:=(((hmut1.trans hmut2 hst1.size).trans hmut3 (hst1.trans (hst2.x _)).size)).trans hmut4 hst13.size;have hstf:Stp E E4 w _:=(hst13.trans (hst4.x _)).full (h.below hus);obtain⟨c1,c2⟩:=h.back Hb hstf hM.own (λ x hx ho=>hM.old x hx ho) hu4;have fin:∃v w',(Instr.endRound b (k9 e)).run P w3= .ok v w'/\∃r s' E' v',Ending.returned v= .returned v'/\K r s'/\s'.us=[]/\s'.tm=s.tm/\SR cx E' s' a w'/\Stp E E' w w'/\Mut s s' E E' w w'/\RD E' w' r v':=
  ⟨_,_,run_endRound (k9 e) hb3,_,_,E4,_,rfl,hK4,rfl,rfl,c1,hstf,c2,by
   cases e<;>exact .v _ rfl⟩
 cases e<;>exact fin
end

def w8 (s:AS)(o:Oper):Option (Nat×Nat×GA):=
 match o.op with
 | .call c=>match c.callee with
  | .value x=>match eG s x,gb s c.args.toList with
   |some (.yl k g),Ge ds=>Ge (k,g,ds)
   |_,_=>z9
  |_=>z9
 |_=>z9
structure callX (P:Program)(T:TT)(nt kb i:Nat)(o:Oper)(s:AS)(ds:GA)(f:FuncId)(K:AS->Prop):Prop where
 h:callP P s ds f (s.nx+8*i) (s.nx+8*i) (λ v up=>K {s with tm:=dZ s.tm o.dst v,hp:=fU up s.hp,us:=i::s.us})\/inlP P T s i ds f λ d s'=>K {s' with tm:=dZ s'.tm o.dst (Ge d)}
structure ap2P (T:TT)(i:Nat)(o:Oper)(s:AS)(K:AS->Prop):Prop where
 h:∃c v1 u1 v2 u2,o.op= .call c/\c.callee= .builtin .append/\EO T s (s.nx+8*i) (s.nx+8*i) c.argTypes c.args=Ge (Ga,(v1,u1),(v2,u2))/\K {s with tm:=dZ s.tm o.dst (Ge v1),hp:=fU u1 s.hp,us:=i::s.us}/\K {s with tm:=dZ s.tm o.dst (Ge v2),hp:=fU u2 s.hp,us:=i::s.us}
def RR (P:Program)(T:TT)(nt kb i:Nat)(o:Oper)(s:AS)(K:AS->Prop):Prop:=
 match w8 s o with
 |some p=>M2 P s i p.1 p.2.1 p.2.2 λ d s'=>K {s' with tm:=dZ s'.tm o.dst (Ge d)}
 |none=>match dY s o with
  |some p=>callX P T nt kb i o s p.2 p.1 K
  |none=>ap2P T i o s K\/(ev T s (s.nx+8*i) (s.nx+8*i) o).vc λ v up=>K {s with tm:=dZ s.tm o.dst v,hp:=fU up s.hp,us:=i::s.us}

def AS.fin (s:AS)(n:Nat):AS:={s with nx:=s.nx+8*n,us:=[]}

section
variable {P:Program} {cx:Cx} {E E':Env} {s:AS} {a:Act} {w:World} {i:Nat} {o:Oper} {T:TT} {F:Fence} {n:Nat} {rd:Bool} {nt kb xn:Nat}

def SR.know (h:SR cx E s a w){t:Nat}{b c:Bool}(ht:s.tm.get t=Ge (.v (.bool b)))(hb:b=c):SR cx E {s with tm:=s.tm.set t (Ge (.v (.bool c)))} a w:=by
 subst hb;refine{h with fr:=λ t' d hd=>?_};rcases Tr.of_set hd with⟨rfl,hv⟩|⟨_,hd⟩
 ·cases hv;exact h.fr t' _ ht
 ·exact h.fr t' d hd

def jO (h:SR cx E s a w){all:List Oper}{j t:Nat}{b:Bool}(hj:(all[j]?).bind (·.dst)=Ge t)(ht:s.tm.get t=Ge (.v (.bool b))):yielded all.toArray a.tmps j=Ge b:=by
 obtain⟨u,hu,hr⟩:=h.fr t _ ht
 cases hr
 unfold yielded;have e1:((all.toArray[j]?).bind (·.dst))=Ge t:=by simpa using hj
 rw[e1];simp only[Option.bind_some,hu]

def pP (hF:FOK F)(hT:T.ok P)(h:SR cx E s a w)(hus:∀k∈s.us,k<i)(hdst:iN cx.nt o=Ga){K:AS->Prop}(hv:RR P T cx.nt kb i o s K){next:Act->World->Prop}{Q:Exit->Act->World->Prop}
  (hn:∀s' E' a' w',K s'->SR cx E' s' a' w'->Stp E E' w w'->Mut s s' E E' w w'->(∀k∈s'.us,k<i+1)->next a' w'):o.wpIn F n P a w next Q:=by
 have hi:i∉s.us:=λ hh=>Nat.lt_irrefl _ (hus i hh)
 have hus':∀k∈i::s.us,k<i+1:=λ k hk=>by
  rcases List.mem_cons.1 hk with rfl|hk
  ·omega
  ·have:=hus k hk;omega
 unfold RR at hv
 split at hv
 case h_1 p hp=>
  obtain⟨k,g,ds⟩:=p;unfold w8 at hp
  split at hp
  case h_2=>cases hp
  case h_1 c ho=>
  split at hp
  case h_2=>cases hp
  case h_1 x hc=>
  split at hp
  case h_2=>cases hp
  case h_1 k g ds hx hds=>
  cases hp
  have hrx:=h.eval hx;obtain⟨hl1,hl2⟩:=et h _ _ hds;generalize hux:a.eval x=ux at hrx
  cases hrx with
  |yl _ _ b hg hb=>
  obtain⟨f,tmps,assign,body,hy,hrnd⟩:=pO (n:=n) hF h hus hv (us:=c.args.toList.map a.eval) (by rw[hl1]) hl2 hb;refine⟨λ f _=>hF.fn f,?_⟩;have hrun:(o.semAt F.round a.eval).run P w= .ok (.round b f tmps assign body) w:=by
   rw[Zn _ _ _ (λ c' hc'=>by rw[ho]at hc';cases hc')];unfold execOp;have e1:#[]++c.args.map a.eval=(c.args.toList.map a.eval).toArray:=by apply Yl;simp
   simp only[ho,resolve,hc,WF,Zh,hux,WK,Wp,invoke,e1,hy]
  rw[hrun];have hnd:∀{n},(F.depth.isSome=Ga->1<=n):=fun{n} hd=>by rw[hF.dep]at hd;cases hd
  refine⟨hnd,(pO (n:=n-1) hF h hus hv (us:=c.args.toList.map a.eval) (by rw[hl1]) hl2 hb|>fun⟨f',tmps',assign',body',hy',hrnd'⟩=>?_)⟩;have he:=hy.symm.trans hy';injection he with he _
  injection he with e1 e2 e3 e4 e5
  subst e2 e3 e4 e5;refine hrnd'.mono ?_;rintro e w' ⟨r,s',E',v,rfl,hK,hu,htm,hs',hst,hmut,hr⟩;refine hn _ E' _ w' hK (cJ hs' hdst (v:=Ge r) hr) hst ⟨hmut.own,hmut.heap,hmut.old⟩ (λ k hk=>?_);have hk:k∈s'.us:=hk;rw[hu]at hk;cases hk
 case h_2 hnone=>
 split at hv
 case h_1 p hp=>
  rcases hv.h with hv|hv
  ·have hv':dI P T s (s.nx+8*i) (s.nx+8*i) o λ v up=>K {s with tm:=dZ s.tm o.dst v,hp:=fU up s.hp,us:=i::s.us}:=by unfold dI;rw[hp];exact hv
   exact qU hF hT h hi hv' λ v up E' w' u hK s1 s2 s3 hr=>hn _ E' _ w' hK (cJ (s:={s with hp:=fU up s.hp,us:=i::s.us}) s2 hdst hr) s1 ⟨s3.own,s3.heap,s3.old⟩ hus'
  ·obtain⟨f,dsall⟩:=p
   unfold dY at hp
   split at hp
   case h_2=>cases hp
   case h_1 c ho=>
   split at hp
   case h_2=>cases hp
   case h_1 x hc=>
   split at hp
   case h_2=>cases hp
   case h_1 f fi ca ds hx hds=>
   cases hp
   have hrx:=h.eval hx;obtain⟨hl1,hl2⟩:=et h _ _ hds;generalize hux:a.eval x=ux at hrx
   cases hrx with
   |fn _ _ _ us vs hu1 hu2 hu3 hu4=>
   have hargs:(us++c.args.toList.map a.eval++vs).length=(fi++ds++ca).length/\∀(j:Nat) d u,(fi++ds++ca)[j]? =Ge d->(us++c.args.toList.map a.eval++vs)[j]? =Ge u->RD E w d u:=by
    have app:∀{l1 l2:GA} {m1 m2:List Value},m1.length=l1.length->m2.length=l2.length->(∀(j:Nat) d u,l1[j]? =Ge d->m1[j]? =Ge u->RD E w d u)->(∀(j:Nat) d u,l2[j]? =Ge d->m2[j]? =Ge u->RD E w d u)->
      (m1++m2).length=(l1++l2).length/\∀(j:Nat) d u,(l1++l2)[j]? =Ge d->(m1++m2)[j]? =Ge u->RD E w d u:=by
     intro l1 l2 m1 m2 e1 e2 r1 r2;refine⟨by simp[e1,e2],λ j d u hd hu=>?_⟩
     by_cases hj:j<l1.length
     ·rw[WO hj]at hd
      rw[WO (by omega)]at hu;exact r1 j d u hd hu
     ·rw[WJ (by omega)]at hd
      rw[WJ (by omega),e1]at hu;exact r2 _ d u hd hu
    obtain⟨q1,q2⟩:=app hu1 hl1 hu3 hl2;exact app q1 hu2 q2 hu4
   obtain⟨hfok,hcalls⟩:=zE hT h hus hv hargs.1 hargs.2;refine⟨λ f _=>hF.fn f,?_⟩;have hrun:(o.semAt F.round a.eval).run P w= .ok (.enter f (us++c.args.toList.map a.eval++vs).toArray) w:=by
    rw[Zn _ _ _ (λ c' hc'=>by rw[ho]at hc';cases hc')];unfold execOp;have e1:(us.toArray++c.args.map a.eval)++vs.toArray=(us++c.args.toList.map a.eval++vs).toArray:=by apply Yl;simp
    simp only[ho,resolve,hc,WF,Zh,hux,WK,Wp,invoke,e1,g7 hfok]
   rw[hrun];refine⟨λ hd=>(by rw[hF.dep]at hd;cases hd),(hF.call hcalls).mono ?_⟩;rintro e w' ⟨r,s',E',v,rfl,hK,hu,htm,hs',hst,hmut,hr⟩;refine hn _ E' _ w' hK (cJ hs' hdst (v:=Ge r) hr) hst ⟨hmut.own,hmut.heap,hmut.old⟩ (λ k hk=>?_);have hk:k∈s'.us:=hk;rw[hu]at hk;cases hk
 case h_2 hp=>
  rcases hv with hv|hv
  ·obtain⟨c,v1,u1,v2,u2,ho,hc,he,k1,k2⟩:=hv.h
   have fin:∀{v:D} {up:Up},cj P cx E s a w i o (Ge v) up->K {s with tm:=dZ s.tm o.dst (Ge v),hp:=fU up s.hp,us:=i::s.us}->o.wpIn F n P a w next Q:=fun{v up} hp hK=>by
    obtain⟨E',w',s1,s2,s4,u,hu,hr⟩:=hp;refine⟨λ f _=>hF.fn f,?_⟩;rw[Zn _ _ _ (λ c' hc'=>by rw[ho]at hc';cases hc'),hu];exact hn _ E' _ w' hK (cJ (s:={s with hp:=fU up s.hp,us:=i::s.us}) s2 hdst (v:=Ge v) hr) s1 ⟨s4.own,s4.heap,s4.old⟩ hus'
   rcases pq hT h hi ⟨Wl _,by omega⟩ ho hc he with hp|hp
   ·exact fin hp k1
   ·exact fin hp k2
  have hv':dI P T s (s.nx+8*i) (s.nx+8*i) o λ v up=>K {s with tm:=dZ s.tm o.dst v,hp:=fU up s.hp,us:=i::s.us}:=by unfold dI;rw[hp];exact hv
  exact qU hF hT h hi hv' λ v up E' w' u hK s1 s2 s3 hr=>hn _ E' _ w' hK (cJ (s:={s with hp:=fU up s.hp,us:=i::s.us}) s2 hdst hr) s1 ⟨s3.own,s3.heap,s3.old⟩ hus'

def SR.fin (h:SR cx E s a w){n:Nat}(hus:∀k∈s.us,k<n):SR cx E (s.fin n) a w:=
 {h with nm:=λ g hg=>.inl (by
   show g<s.nx+8*n;rcases h.nm g hg with h1|⟨j,hj,h1,h2⟩
   ·omega
   ·have:=hus j hj;omega)}

def SR.mark (h:SR cx E s a w):SR cx ⟨E.φ,λ b=>E.own b\/b=w.heap.size,E.nm⟩ s {a with defers:={target:=.collected w.heap.size,args:=#[]}::a.defers} (w.alloc (.deferred (Ge [])))/\
  Stp E ⟨E.φ,λ b=>E.own b\/b=w.heap.size,E.nm⟩ w (w.alloc (.deferred (Ge [])))/\Mut s s E ⟨E.φ,λ b=>E.own b\/b=w.heap.size,E.nm⟩ w (w.alloc (.deferred (Ge []))):=by
 have hb:∀b,b<w.heap.size->(w.alloc (.deferred (Ge []))).heap[b]? =w.heap[b]?:=λ b hb=>Yt w _ b hb
 have hst:Stp E ⟨E.φ,λ b=>E.own b\/b=w.heap.size,E.nm⟩ w (w.alloc (.deferred (Ge []))):=⟨λ _ h=>h,λ _ _=>rfl,by simp,λ b hlt ho=>⟨λ hh=>hh.elim ho (λ e=>by omega),hb b hlt⟩,λ b hlt=>cz (hb b hlt)⟩
 have hob:∀{k g o},s.gat k=Ge (g,o)->OB ⟨E.φ,λ b=>E.own b\/b=w.heap.size,E.nm⟩ (w.alloc (.deferred (Ge []))) g o:=fun{k g o} hk=>(h.ob hk).step hst λ x hx=>⟨.inl (h.own_of ⟨k,g,o,hk,hx⟩),hb x ((h.ob hk).lt hx)⟩
 refine⟨?_,hst,⟨λ b _ hb _=>.inl hb,λ b hlt _=>hb b hlt,λ x _ h=>h⟩⟩;obtain⟨bs,d1,d2,d3⟩:=h.df;exact{
  fr:=λ t d hd=>by obtain⟨u,hu,hr⟩:=h.fr t d hd;exact⟨u,hu,hr.step hst⟩
  sz:=h.sz
  df:=by
   refine⟨w.heap.size::bs,by simp[d1],List.nodup_cons.2 ⟨λ hm=>?_,d2⟩,λ x hx=>?_⟩
   ·have:=h.lt _ (d3 _ hm).2.1;omega
   ·rcases List.mem_cons.1 hx with rfl|hx
    ·exact⟨h.szB,.inr rfl,World.alloc_heap_new w _⟩
    ·obtain⟨c1,c2,c3⟩:=d3 x hx
     exact⟨c1,.inl c2,(hb x (h.lt x c2)).trans c3⟩
  hp:=λ k g b hk=>hob (AS.at_iff.1 hk)
  lp:=λ k g r hk=>hob (AS.lat_iff.1 hk)
  inj:=h.inj
  lt:=λ x hx=>by
   rcases hx with hx|rfl
   ·have:=h.lt x hx;simp;omega
   ·simp
  low:=h.low
  base:=λ x hx=>.inl (h.base x hx)
  bel:=h.bel.trans ⟨rfl,rfl,rfl,by simp,λ k hk _=>hb k hk,hst.shape⟩
  nm:=h.nm
  szB:=Ww h.szB (by simp)}

def G5 (K:AX->AS->Prop)(s:AS):Option Code->Prop
 |none=>K .normal s
 |some .ret=>K .ret s
 |some (.exit id)=>K (.exit id) s
 |_=>False
structure rngP (P:Program)(T:TT)(nt:Nat)(s:AS)(f:FuncId)(fi ca:GA)(ps:Array Tmp)(assign body:Code)(K:AX->AS->Prop):Prop where
 h:∃kl fn c rs,P.funcs[f]? =Ge fn/\fn.body=Ge c/\fn.results=⟨rs⟩/\(fn.name== "runtime.NumGoroutine")=Gd/\
  AWP P Gd fn.ntmps (s.nx+8) c {tm:=mc 0 (fi++[.yl kl s.nx]++ca),hp:=s.hp.set kl (Ge (s.nx,.l {st:=.ready,pend:=z9,params:=ps,assign:=assign,body:=body,nt:=nt,tm:=s.tm})),nx:=s.nx+8,us:=[]} λ e s'=>(e= .normal\/e= .ret)/\iO T s' rs λ _=>
   recP s' kl s.nx (λ r=>!vA r.st) (λ r=>{r with st:=.exhausted}) λ r s2=>G5 K {tm:=s.tm,hp:=s2.hp,nx:=s2.nx,us:=[]} r.pend

def AWP.range (hT:T.ok P){g:Operand}{ps:Array Tmp}{assign body:Code}{K:AX->AS->Prop}{f:FuncId}{fi ca:GA}(hg:eG s g=Ge (.fn (.func f) fi ca))(hv:rngP P T nt s f fi ca ps assign body K):AWP P Gd nt xn (.rangeFunc g ps assign body) s K:=by
 refine⟨λ F n cx E a w Q hF hro hn hu hs hQ=>?_⟩;subst hn;obtain⟨kl,fn,c,rs,f1,f2,f3,f4,f5⟩:=hv.h;have hfok:ap P f:=⟨fn,f1,by rw[f2];rfl,f4⟩
 refine wpIn_rangeFunc λ fnid hfn=>?_
 rw[hro.1 rfl]
 -- the mark,the record
 obtain⟨m1,m2,m3⟩:=hs.mark
 let L:Loop:={state:=.ready,pending:=z9,fn:=fnid,tmps:=a.tmps,params:=ps,assign:=assign,body:=body,defers:=w.heap.size}
 obtain⟨r1,r2,r3,r4,r5⟩:=m1.newG (g:=s.nx) (ky:=kl) (i:=0) (by rw[hu];simp) ⟨by omega,by omega⟩ (.l {st:=.ready,pend:=z9,params:=ps,assign:=assign,body:=body,nt:=cx.nt,tm:=s.tm}) (.loop L) λ E' hst hnm hφ hown=>
  ⟨hnm,_,L,hφ,hown,by simp,cg _ _,rfl,rfl,rfl,rfl,rfl,hs.sz,λ t d hd=>by
   obtain⟨u,hu,hr⟩:=m1.fr t d hd;exact⟨u,hu,hr.step hst⟩⟩
 have hev:=hs.eval hg;generalize hux:a.eval g=ux at hev
 cases hev with
 |fn _ _ _ us vs hl1 hl2 hd1 hd2=>
 have hst1:=m2.trans r2;have hmut1:=m3.trans r5 m2.size;have hsz1:(w.alloc (.deferred (Ge []))).heap.size=w.heap.size+1:=by simp
 refine⟨w.heap.size+1,[{target:=.collected w.heap.size,args:=#[]}],(w.alloc (.deferred (Ge []))).alloc (.loop L),{target:=.fn (.func f) vs.toArray,args:=us.toArray++ #[abd (.yield (w.heap.size+1)) #[] #[]]},(w.alloc (.deferred (Ge []))).alloc (.loop L),f,
  (us++[abd (.yield (w.heap.size+1)) #[] #[]]++vs).toArray,(w.alloc (.deferred (Ge []))).alloc (.loop L),run_enterLoop_outer _ _ _ _ _,?_,?_,?_,?_,?_⟩
 ·simp only[resolve,WF,Zh,hux,WK,Wp]
  simp[Act.eval]
 ·intro f' _;exact hF.fn f'
 ·have e1:(us.toArray++ #[abd (.yield (w.heap.size+1)) #[] #[]])++vs.toArray=(us++[abd (.yield (w.heap.size+1)) #[] #[]]++vs).toArray:=by apply Yl;simp
  simp only[invoke,e1,g7 hfok]
 ·intro hd;rw[hF.dep]at hd;cases hd
 have hnx8:∀g,_->g<s.nx+8:=λ g hg=>by
  rcases r1.nm g hg with h1|⟨j,hj,h1,h2⟩
  ·have h1:g<s.nx:=h1
   omega
  ·have hj:j∈0::s.us:=hj
   rw[hu]at hj;simp at hj;subst hj;have h2:g<s.nx+8*0+8:=h2;omega
 refine(hF.call (qW (Φ:=λ _ s'=>recP s' kl s.nx (λ r=>!vA r.st) (λ r=>{r with st:=.exhausted}) λ r s2=>G5 K {tm:=s.tm,hp:=s2.hp,nx:=s2.nx,us:=[]} r.pend) hT f1 f2 f3 f5 (cx:=cx.sub _ _ _ fn.ntmps (s.nx+7)) rfl (Wl _) rfl (r1.enter (nt:=fn.ntmps) (xn:=s.nx+7) (nx:=s.nx+8) hnx8 (qX ?_ ?_) (by simp;omega) rfl))).mono ?_
 ·simp[hl1,hl2]
 ·intro j d u hd hu
  rcases WR j fi.length with h1|h1
  ·rw[WI,WO h1]at hd
   rw[WI,WO (by omega)]at hu;exact(hd1 j d u hd hu).step hst1
  ·rw[WI,WJ h1]at hd
   rw[WI,WJ (by omega),hl1]at hu;rcases YP (j-fi.length)with h2|h2
   ·rw[h2]at hd hu
    simp at hd hu;subst hd hu;refine .yl kl s.nx _ r3 ?_;rw[r4,hsz1]
   ·rw[show j-fi.length=(j-fi.length-1)+1 by omega]at hd hu
    simp only[List.cons_append,List.nil_append,XV]at hd hu;exact(hd2 _ d u hd hu).step hst1
 ·rintro e w' ⟨l,s',E',a',v,rfl,hK,hu',hs',hdf,hst,hown,hold,hr⟩
  have hst:=hst.full hnx8;obtain⟨r,b,L3,hok,hn3,hφ3,hb3,hL3,hL3',hgo⟩:=jN hs' hK;have hφ:E'.φ s.nx=Ge (w.heap.size+1):=by
   rw[hst.φ _ r3,r4,hsz1]
  rw[hφ]at hφ3;cases hφ3;obtain⟨s4,E4,hs4e,hK4,Hb,hst4,hmut4⟩:=hgo (λ _=>⟨rfl,rfl,rfl,rfl,rfl⟩) {L3 with state:=.exhausted} rfl hL3' rfl rfl rfl rfl;have hnb:L3.state≠ .busy:=λ hh=>by
   rw[hL3]at hh;rw[hh]at hok;cases hok
  refine⟨r.pend,w'.putObj (w.heap.size+1) (.loop {L3 with state:=.exhausted}),?_,?_⟩
  ·rw[<-hL3'];exact run_endLoop hb3 hnb
  have hu4:s4.us=[]:=by rw[hs4e];exact hu'
  obtain⟨c1,c2⟩:=r1.back Hb (hst.trans hst4) (λ x hz hx hn=>hmut4.own x (WX hz hst.size) (hown x hz hx hn) (λ ho=>hn (hold x hz ho))) (λ x hx ho=>hold x hx (hmut4.old x (WX hx hst.size) ho)) hu4;have hfin:=(hst1.trans hst).trans hst4;have hfm:=hmut1.trans c2 hst1.size
  cases hp:r.pend with
  |none=>rw[hp]at hK4;exact hQ .normal _ _ _ _ hK4 rfl c1 (hfin.x _) hfm
  |some c=>
   rw[hp]at hK4
   cases c with
   |ret=>exact wpIn_ret (hQ .ret _ _ _ _ hK4 rfl c1 (hfin.x _) hfm)
   |exit id=>exact wpIn_exit (hQ (.exit id) _ _ _ _ hK4 rfl c1 (hfin.x _) hfm)
   |_=>exact hK4.elim
end
end Go.Vx
